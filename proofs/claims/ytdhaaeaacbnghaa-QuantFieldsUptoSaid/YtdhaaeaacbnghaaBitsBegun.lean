/- bitsBegun; a writer and a list of bits side by side. -/
import Derived.Test.YtdhaaeaacbnghaaWriteNat
import Derived.Test.YtdhaaeaacbnghaaBitsAdd
import Derived.Test.YtdhaaeaacbnghaaBitsBytes
import Derived.Test.YtdhaaeaacbnghaaEqS
import Derived.Test.YtdhaaeaacbnghaaOpenArr
import Derived.Deep.RegionHeld3
namespace Go.Proofs.Ytdhaaeaacbnghaa
open Go.ChangeShapes Go.WideShapes Go.ChangeAt Go.RowKit Go.Mem Go.Bp
set_option linter.unusedVariables false

theorem ints_of_bytes {w : World} {g : Nat} {t : TypeId} {cs : Array Value} {zs : List Int} {k : IntKind} (h : w.heap[g]? = some (.cells cs t (0, 0))) (hz : cs.toList = vints k zs) : IntsAt k w (some ⟨g, 0, none⟩) zs := by
  have : RowB w g t k zs := by unfold RowB; rw [h, ← hz]
  exact this.ints
theorem new_Wr (w : World) : Wr (w.alloc (.cells #[.slice none 0 0, .int .i64 0] 82)) w.heap.size w.heap.size (.slice none 0 0) [] :=
  ⟨heap_alloc_new w _, ⟨rfl, .inl ⟨rfl, rfl⟩⟩, Nat.le_refl _⟩
theorem new_Bs (w : World) : Bs (w.alloc (.cells #[.slice none 0 0, .int .i64 0] 66)) w.heap.size w.heap.size (.slice none 0 0) [] :=
  ⟨heap_alloc_new w _, ⟨rfl, .inl ⟨rfl, rfl⟩⟩, Nat.le_refl _⟩
theorem Wr.below {w w' : World} {D g : Nat} {v : Value} {L : List Bool} (h : Wr w D g v L) (hb : Below w.heap.size w w') : Wr w' D g v L := ⟨heap_below h.block hb, own_below h.own hb, h.dg⟩
theorem Wr.drewN {w : World} {D g : Nat} {v : Value} {L : List Bool} (h : Wr w D g v L) (n : Nat) : Wr (w.drewN n) D g v L := ⟨h.block, own_keep h.own fun _ _ => rfl, h.dg⟩
theorem Bs.drewN {w : World} {D g : Nat} {v : Value} {L : List Bool} (h : Bs w D g v L) (n : Nat) : Bs (w.drewN n) D g v L := ⟨h.block, own_keep h.own fun _ _ => rfl, h.dg⟩
theorem Wr.drew {w : World} {D g : Nat} {v : Value} {L : List Bool} (h : Wr w D g v L) : Wr w.drew D g v L := h.drewN 1
theorem Bs.drew {w : World} {D g : Nat} {v : Value} {L : List Bool} (h : Bs w D g v L) : Bs w.drew D g v L := h.drewN 1
theorem put_try : putR [] 5 3 = (0, [true, false, true]) := by decide +kernel
theorem pack_try : packB [true, false, true] = [5] := by decide +kernel

set_option maxHeartbeats 8000000 in
set_option maxRecDepth 100000 in
theorem law_bitsBegun (w : World) : Calls Try.prog 53 #[] w fun e w' => e = .returned (.bool true) ∧ Below w.heap.size w w' := by
  have cp := wr_Put _ w.heap.size w.heap.size 5 3 _ [] (by omega) (by simp) (by simp) (new_Wr w)
  rw [put_try] at cp
  have CP := Lib.hid cp
  have hb0 := (Below.refl w.heap.size w).alloc (Nat.le_refl _) (.cells #[.slice none 0 0, .int .i64 0] 82)
  clear cp
  go_enter Try.func53, Try.ntmps53
  go_wp2_with fail
  refine CP.out.mono ?_
  rintro e w1 ⟨rfl, y, hw1, hg1, hy1⟩
  have HW := Lib.hid hw1
  have hb1 := hb0.trans (hg1.below (by simp) (fun k hk => by injection hk with hk; omega) (fun k hk => by cases hk))
  have CL := Lib.hid (wr_Len w1 _ _ y _ hw1)
  have CB := Lib.hid (wr_Bytes w1 _ _ y _ (by simp) hw1)
  rw [pack_try] at CB
  clear hw1 hg1 hy1 hb0
  go_wp2_with fail
  refine CL.out.mono ?_
  rintro e w2 ⟨rfl, rfl⟩
  go_wp2_with fail
  refine CB.out.mono ?_
  rintro e w3 ⟨a, c, rfl, hc, hi, hb3⟩
  have hb := hb1.trans (hb3.mono hb1.size)
  have i5 : IntsAt .u8 (w3.alloc (.cells #[.int .u8 5] 5)) (some ⟨w3.heap.size, 0, none⟩) [5] := ints_of_bytes (heap_alloc_new w3 _) rfl
  have ce := eq_bytes a (some ⟨w3.heap.size, 0, none⟩) c 1 [5] [5] (by simp) (by simp) _ (hi.below ((Below.refl w3.heap.size w3).alloc (Nat.le_refl _) (.cells #[.int .u8 5] 5))) i5
  rw [decide_eq_true (rfl : ([5] : List Int) = [5])] at ce
  have CE := Lib.hid ce
  have hbb := hb.alloc hb.size (.cells #[.int .u8 5] 5)
  clear hi i5 ce hb3
  go_wp2_with fail
  refine CE.out.mono ?_
  rintro e w4 ⟨rfl, hb4⟩
  have hb5 := hbb.trans (hb4.mono hbb.size)
  go_wp2_with fail
  go_ret
  exact ⟨rfl, hb5⟩
end Go.Proofs.Ytdhaaeaacbnghaa
