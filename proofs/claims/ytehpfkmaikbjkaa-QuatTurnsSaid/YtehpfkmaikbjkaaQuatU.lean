/- quat.Unit, and the reference's Unit4. -/
import Derived.Test.YtehpfkmaikbjkaaQuatUnit
import Derived.WalkSpells
import Derived.Great.BuildSlice
namespace Go.Proofs.Ytehpfkmaikbjkaa
open Go.ChangeShapes Go.WideShapes Go.ChangeAt Go.RowKit Go.Mem Go.Nb
set_option linter.unusedVariables false
theorem ints4_new (W : World) (a b c d : Int) : IntsAt .i64 (W.alloc (.cells #[.int .i64 a, .int .i64 b, .int .i64 c, .int .i64 d] 3)) (some ⟨W.heap.size, 0, none⟩) [a, b, c, d] := by
  intro _
  refine ⟨_, rfl, by simp, fun i hi => ?_⟩
  have h := heap_alloc_new W (.cells #[.int .i64 a, .int .i64 b, .int .i64 c, .int .i64 d] 3)
  have e : ((⟨W.heap.size, 0, none⟩ : Addr).add i) = ⟨W.heap.size, i, none⟩ := by simp [Addr.add]; try omega
  rw [e, cell_of_row _ _ i _ _ _ h]
  match i, hi with
  | 0, _ => rfl
  | 1, _ => rfl
  | 2, _ => rfl
  | 3, _ => rfl
def u4 (l : List Int) (i : Nat) : Int := if farOf l = 0 then (if i = 0 then 65536 else 0) else (evens l).getD i 0
theorem u4_zero {l : List Int} (h : farOf l = 0) : u4 l 0 = 65536 ∧ u4 l 1 = 0 ∧ u4 l 2 = 0 ∧ u4 l 3 = 0 := by simp [u4, h]
theorem u4_pos {l : List Int} (h : 0 < farOf l) (i : Nat) : u4 l i = (evens l).getD i 0 := by unfold u4; rw [if_neg (by omega)]
theorem evens4 (a b c d : Int) : (evens [a, b, c, d]).length = 4 := rfl
theorem res4 {fn : Func} {p : Tmp} (h : fn.results = #[.cell p 62]) (tmps : Array Value) (w : World) (g : Nat) (x0 x1 x2 x3 : Int) (hp : tmps.getD p undef = .pointer (some ⟨g, 0, none⟩)) (hg : Four 62 w g x0 x1 x2 x3) : (results fn tmps).run Try.prog w = .ok (.agg #[.int .i64 x0, .int .i64 x1, .int .i64 x2, .int .i64 x3]) w :=
  results_cell_row h _ _ g _ _ _ _ hp hg Try.underlying62 rfl (by kernel_rfl)
set_option maxHeartbeats 1000000 in
set_option maxRecDepth 100000 in
theorem quat_Unit (a b c d : Int) (w : World) : Calls Try.prog 57 #[.agg #[.int .i64 a, .int .i64 b, .int .i64 c, .int .i64 d]] w fun e w' => e = .returned (.agg #[.int .i64 (u4 [a, b, c, d] 0), .int .i64 (u4 [a, b, c, d] 1), .int .i64 (u4 [a, b, c, d] 2), .int .i64 (u4 [a, b, c, d] 3)]) ∧ Below w.heap.size w w' := by
  obtain ⟨U, hU⟩ : ∃ U, U = Value.agg #[.int .i64 (u4 [a, b, c, d] 0), .int .i64 (u4 [a, b, c, d] 1), .int .i64 (u4 [a, b, c, d] 2), .int .i64 (u4 [a, b, c, d] 3)] := ⟨_, rfl⟩
  rw [← hU]
  have HU := Lib.hid hU
  clear hU
  go_enter Try.func57, Try.ntmps57
  go_wp2_with fail
  obtain ⟨W0, hW0⟩ : ∃ W0, W0 = (w.alloc (.cells #[.int .i64 a, .int .i64 b, .int .i64 c, .int .i64 d] 62)).alloc (.cells #[.int .i64 0, .int .i64 0, .int .i64 0, .int .i64 0] 62) := ⟨_, rfl⟩
  have hz : W0.heap.size = w.heap.size + 1 + 1 := by rw [hW0]; simp
  have f2 : Four 62 W0 (w.heap.size + 1) 0 0 0 0 := by rw [hW0]; exact four_new2 _ w _ 0 0 0 0
  have hB : Below w.heap.size w W0 := by rw [hW0]; exact ((Below.refl _ _).alloc (Nat.le_refl _) _).alloc (by simp) _
  have hu := quat_unit [a, b, c, d] (some ⟨W0.heap.size, 0, none⟩) 4 4 rfl (by decide) _ (ints4_new W0 a b c d)
  rw [hz] at hu
  rw [← hW0]
  refine hu.mono ?_
  rintro e w3 ⟨hb3, hres⟩
  have hb3' : Below W0.heap.size W0 w3 := ((Below.refl _ _).alloc (Nat.le_refl _) _).trans (hb3.mono (by simp))
  have f3 := f2.mono hb3'
  have hB3 := hB.trans (hb3'.mono hB.size)
  have b0 := f3.c0
  have b1 := f3.c1
  have b2 := f3.c2
  have b3 := f3.c3
  have g0 := f3.fr 0
  have g1 := f3.fr 1
  have g2 := f3.fr 2
  have g3 := f3.fr 3
  have F3 := Lib.hid f3
  have l1 := f3.lt
  clear hu hb3 hb3' f2 f3 hB hz hW0
  rcases hres with ⟨hf, rfl⟩ | ⟨hf, g, cc, rfl, hi⟩
  · have hv := u4_zero hf
    have hfin : U = .agg #[.int .i64 65536, .int .i64 0, .int .i64 0, .int .i64 0] := by rw [HU.out, hv.1, hv.2.1, hv.2.2.1, hv.2.2.2]
    have HF := Lib.hid hfin
    clear hv hfin hf
    go_wp2
    exact bodyPost_ret (v := .agg #[.int .i64 65536, .int .i64 0, .int .i64 0, .int .i64 0]) (res4 Try.results57 _ _ (w.heap.size + 1) _ _ _ _ rfl (F3.out.put 65536 0 0 0)) rfl ⟨by rw [HF.out], put4_below hB3 (by omega) _ _ _ _⟩
  · obtain ⟨x, hx1, hx, hc⟩ := hi (by rw [evens4]; decide)
    obtain rfl : (⟨g, 0, none⟩ : Addr) = x := by injection hx1
    have c0 := hc 0 (by rw [evens4]; decide)
    have c1 := hc 1 (by rw [evens4]; decide)
    have c2 := hc 2 (by rw [evens4]; decide)
    have c3 := hc 3 (by rw [evens4]; decide)
    rw [← u4_pos hf] at c0 c1 c2 c3
    obtain ⟨p, hp⟩ : ∃ p, p = u4 [a, b, c, d] 0 := ⟨_, rfl⟩
    obtain ⟨q, hq⟩ : ∃ p, p = u4 [a, b, c, d] 1 := ⟨_, rfl⟩
    obtain ⟨r, hr⟩ : ∃ p, p = u4 [a, b, c, d] 2 := ⟨_, rfl⟩
    obtain ⟨s, hs⟩ : ∃ p, p = u4 [a, b, c, d] 3 := ⟨_, rfl⟩
    rw [← hp, ← hq, ← hr, ← hs] at HU
    rw [← hp] at c0
    rw [← hq] at c1
    rw [← hr] at c2
    rw [← hs] at c3
    replace c0 : w3.cell? ⟨g, 0, none⟩ = some (.int .i64 p) := c0
    replace c1 : w3.cell? ⟨g, 1, none⟩ = some (.int .i64 q) := c1
    replace c2 : w3.cell? ⟨g, 2, none⟩ = some (.int .i64 r) := c2
    replace c3 : w3.cell? ⟨g, 3, none⟩ = some (.int .i64 s) := c3
    clear hc hp hq hr hs hx hx1 hi hf
    go_wp2_with fail
    go_region
    go_wp2
    exact bodyPost_ret (v := .agg #[.int .i64 p, .int .i64 q, .int .i64 r, .int .i64 s]) (res4 Try.results57 _ _ (w.heap.size + 1) _ _ _ _ rfl (show Four _ _ _ _ _ _ _ from (F3.out.put p q r s))) rfl ⟨by rw [HU.out], (put4_below hB3 (by omega) _ _ _ _).drew⟩
set_option maxHeartbeats 1000000 in
set_option maxRecDepth 100000 in
theorem ref_Unit4 (a b c d : Int) (w : World) : Calls Try.prog 58 #[.agg #[.int .i64 a, .int .i64 b, .int .i64 c, .int .i64 d]] w fun e w' => e = .returned (.agg #[.int .i64 (u4 [a, b, c, d] 0), .int .i64 (u4 [a, b, c, d] 1), .int .i64 (u4 [a, b, c, d] 2), .int .i64 (u4 [a, b, c, d] 3)]) ∧ Below w.heap.size w w' := by
  obtain ⟨U, hU⟩ : ∃ U, U = Value.agg #[.int .i64 (u4 [a, b, c, d] 0), .int .i64 (u4 [a, b, c, d] 1), .int .i64 (u4 [a, b, c, d] 2), .int .i64 (u4 [a, b, c, d] 3)] := ⟨_, rfl⟩
  rw [← hU]
  have HU := Lib.hid hU
  clear hU
  have hq := fun wx x n c => run_neq_slice_nil_any (P := Try.prog) wx 38 3 x n c 0 0 Try.underlying38
  go_enter Try.func58, Try.ntmps58
  go_wp2_with fail
  obtain ⟨W0, hW0⟩ : ∃ W0, W0 = (w.alloc (.cells #[.int .i64 a, .int .i64 b, .int .i64 c, .int .i64 d] 62)).alloc (.cells #[.int .i64 0, .int .i64 0, .int .i64 0, .int .i64 0] 62) := ⟨_, rfl⟩
  have hz : W0.heap.size = w.heap.size + 1 + 1 := by rw [hW0]; simp
  have f2 : Four 62 W0 (w.heap.size + 1) 0 0 0 0 := by rw [hW0]; exact four_new2 _ w _ 0 0 0 0
  have hB : Below w.heap.size w W0 := by rw [hW0]; exact ((Below.refl _ _).alloc (Nat.le_refl _) _).alloc (by simp) _
  have hu := ref_Even [a, b, c, d] (some ⟨W0.heap.size, 0, none⟩) 4 4 rfl (by decide) _ (ints4_new W0 a b c d)
  rw [hz] at hu
  rw [← hW0]
  refine hu.mono ?_
  rintro e w3 ⟨hb3, hres⟩
  have hb3' : Below W0.heap.size W0 w3 := ((Below.refl _ _).alloc (Nat.le_refl _) _).trans (hb3.mono (by simp))
  have f3 := f2.mono hb3'
  have hB3 := hB.trans (hb3'.mono hB.size)
  have b0 := f3.c0
  have b1 := f3.c1
  have b2 := f3.c2
  have b3 := f3.c3
  have g0 := f3.fr 0
  have g1 := f3.fr 1
  have g2 := f3.fr 2
  have g3 := f3.fr 3
  have F3 := Lib.hid f3
  have l1 := f3.lt
  clear hu hb3 hb3' f2 f3 hB hz hW0
  rcases hres with ⟨hf, rfl⟩ | ⟨hf, g, cc, rfl, hi⟩
  · have hv := u4_zero hf
    have hfin : U = .agg #[.int .i64 65536, .int .i64 0, .int .i64 0, .int .i64 0] := by rw [HU.out, hv.1, hv.2.1, hv.2.2.1, hv.2.2.2]
    have HF := Lib.hid hfin
    clear hv hfin hf
    go_wp2
    exact bodyPost_ret (v := .agg #[.int .i64 65536, .int .i64 0, .int .i64 0, .int .i64 0]) (res4 Try.results58 _ _ (w.heap.size + 1) _ _ _ _ rfl (F3.out.put 65536 0 0 0)) rfl ⟨by rw [HF.out], put4_below hB3 (by omega) _ _ _ _⟩
  · have hqo := ref_quatOf (evens [a, b, c, d]) g cc (evens4 a b c d) w3 hi
    rw [← u4_pos hf, ← u4_pos hf, ← u4_pos hf, ← u4_pos hf] at hqo
    obtain ⟨p, hp⟩ : ∃ p, p = u4 [a, b, c, d] 0 := ⟨_, rfl⟩
    obtain ⟨q, hq⟩ : ∃ p, p = u4 [a, b, c, d] 1 := ⟨_, rfl⟩
    obtain ⟨r, hr⟩ : ∃ p, p = u4 [a, b, c, d] 2 := ⟨_, rfl⟩
    obtain ⟨s, hs⟩ : ∃ p, p = u4 [a, b, c, d] 3 := ⟨_, rfl⟩
    rw [← hp, ← hq, ← hr, ← hs] at HU hqo
    have HQO := Lib.hid hqo
    clear hqo hp hq hr hs hi hf
    go_wp2_with fail
    refine HQO.out.mono ?_
    rintro e w4 ⟨rfl, hb4⟩
    have F4 := Lib.hid (F3.out.mono hb4)
    have hB4 := bt hB3 hb4
    have b0 := F4.out.c0
    have b1 := F4.out.c1
    have b2 := F4.out.c2
    have b3 := F4.out.c3
    have g0 := F4.out.fr 0
    have g1 := F4.out.fr 1
    have g2 := F4.out.fr 2
    have g3 := F4.out.fr 3
    clear hb4 hB3
    go_wp2
    exact bodyPost_ret (v := .agg #[.int .i64 p, .int .i64 q, .int .i64 r, .int .i64 s]) (res4 Try.results58 _ _ (w.heap.size + 1) _ _ _ _ rfl (F4.out.put p q r s)) rfl ⟨by rw [HU.out], put4_below hB4 (by omega) _ _ _ _⟩
end Go.Proofs.Ytehpfkmaikbjkaa
