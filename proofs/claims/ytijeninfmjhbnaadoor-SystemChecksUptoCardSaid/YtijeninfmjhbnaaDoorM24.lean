/- Lemmas for the law SystemChecks: SystOpAll, SystSet, ConcatI, SortL, CmpI. No conditions. -/
import Derived.Test.YtijeninfmjhbnaaDoorM19
import Derived.Test.YtijeninfmjhbnaaDoorM20
import Derived.Test.YtijeninfmjhbnaaDoorM21
import Derived.Test.YtijeninfmjhbnaaDoorM22
import Derived.Test.YtijeninfmjhbnaaDoorM23
import Derived.Test.YtijeninfmjhbnaaDoorM12
import Derived.Test.YtijeninfmjhbnaaDoorM07
import Derived.Test.YtijeninfmjhbnaaDoorM02
import Derived.Test.YtijeninfmjhbnaaDoorM09
import Derived.Lib.AppendZeros
import Derived.Deep.LoopGhost
import Derived.Deep.DeepMust
import Derived.WalkSpells
import Derived.Shelf.SlSortCmp.WholeK
import Derived.Shelf.SlLaysF0
import Derived.Shelf.SlGeneric
import Derived.Ground.SlsfProg
import Derived.Test.YtijeninfmjhbnaaDoorProg
import Derived.Test.YtijeninfmjhbnaaDoorM01
import Derived.Test.YtijeninfmjhbnaaDoorRows
/- system.op for all operations. -/
section
namespace Go.Proofs.YtijeninfmjhbnaaDoor
open Go.ChangeShapes Go.WideShapes Go.ChangeAt Go.RowKit Go.Nm Go.Mem
set_option linter.unusedVariables false
set_option maxRecDepth 100000 in
theorem sys_op_bad (ks : List KindV) (k v : Value) (rs ws : List Int) (o : OpV) (h : o.do_ < 0 ∨ 12 < o.do_) (nm : ByteArray) (a1 a2 a3 a4 a5 a6 : Option Addr) (n1 c1 n2 c2 n3 c3 n4 c4 n5 c5 n6 c6 : Nat) (W : World) :
    Calls Tryd.prog 25 #[k, .agg #[.string nm, .slice a1 n1 c1, .slice a2 n2 c2, .slice a3 n3 c3, .slice a4 n4 c4, .slice a5 n5 c5, .slice a6 n6 c6], opA o] W fun e w' => e = .returned (.int .i64 (opE ks rs ws o)) ∧ Below W.heap.size W w' := by
  have hb02 := ((Below.refl W.heap.size W).alloc (Nat.le_refl _) (.cells #[.string nm, .slice a1 n1 c1, .slice a2 n2 c2, .slice a3 n3 c3, .slice a4 n4 c4, .slice a5 n5 c5, .slice a6 n6 c6] 27)).alloc (by simp) (.cells #[.int .i64 o.do_, .int .i64 o.tk, .int .i64 o.tf, .bool o.a.has, .int .i64 o.a.n, .int .i64 o.a.rk, .int .i64 o.a.rf, .bool o.b.has, .int .i64 o.b.n, .int .i64 o.b.rk, .int .i64 o.b.rf] 57)
  have HB := Lib.hid hb02
  have HE := Lib.hid (show opE ks rs ws o = 1 from if_pos h)
  rw [HE.out]
  clear hb02
  go_enter Tryd.func25, Tryd.ntmps25
  by_cases hd0 : o.do_ < 0
  · clear h
    go_wp2
    go_ret
    exact ⟨rfl, HB.out⟩
  · have hd1 : 12 < o.do_ := by omega
    clear h
    go_wp2
    go_ret
    exact ⟨rfl, HB.out⟩
theorem sys_op (ks : List KindV) (ka : Option Addr) (n kc : Nat) (hn : ks.length = n) (h1 : n ≤ 1048576) (nm : ByteArray) (a1 a2 a3 a4 a5 a6 : Option Addr) (n1 c1 n2 c2 n3 c3 n4 c4 n5 c5 n6 c6 : Nat) (rs ws : List Int) (hr : rs.length = n3) (hw : ws.length = n4) (hr1 : n3 ≤ 1048576) (hw1 : n4 ≤ 1048576) (o : OpV) (W : World) (hz : SlAt 2 KindAt W ka ks) (hrs : IntsAt .i64 W a3 rs) (hws : IntsAt .i64 W a4 ws) :
    Calls Tryd.prog 25 #[.slice ka n kc, .agg #[.string nm, .slice a1 n1 c1, .slice a2 n2 c2, .slice a3 n3 c3, .slice a4 n4 c4, .slice a5 n5 c5, .slice a6 n6 c6], opA o] W fun e w' => e = .returned (.int .i64 (opE ks rs ws o)) ∧ Below W.heap.size W w' := by
  by_cases hb : o.do_ < 0 ∨ 12 < o.do_
  · exact sys_op_bad ks _ (.bool true) rs ws o hb nm a1 a2 a3 a4 a5 a6 n1 c1 n2 c2 n3 c3 n4 c4 n5 c5 n6 c6 W
  · have A := fun e1 e2 e3 => sys_op_A ks ka n kc hn h1 nm a1 a2 a3 a4 a5 a6 n1 c1 n2 c2 n3 c3 n4 c4 n5 c5 n6 c6 rs ws hr hw hr1 hw1 o e1 e2 e3 hb W hz hrs hws
    have B := fun e1 e2 e3 => sys_op_B ks ka n kc hn h1 nm a1 a2 a3 a4 a5 a6 n1 c1 n2 c2 n3 c3 n4 c4 n5 c5 n6 c6 rs ws hr hw hr1 hw1 o e1 e2 e3 hb W hz hrs hws
    have C := fun e1 e2 e3 => sys_op_C ks ka n kc hn h1 nm a1 a2 a3 a4 a5 a6 n1 c1 n2 c2 n3 c3 n4 c4 n5 c5 n6 c6 rs ws hr hw hr1 hw1 o e1 e2 e3 hb W hz hrs hws
    have D := fun e1 e2 e3 => sys_op_D ks ka n kc hn h1 nm a1 a2 a3 a4 a5 a6 n1 c1 n2 c2 n3 c3 n4 c4 n5 c5 n6 c6 rs ws hr hw hr1 hw1 o e1 e2 e3 hb W hz hrs hws
    have E := fun e1 e2 e3 => sys_op_E ks ka n kc hn h1 nm a1 a2 a3 a4 a5 a6 n1 c1 n2 c2 n3 c3 n4 c4 n5 c5 n6 c6 rs ws hr hw hr1 hw1 o e1 e2 e3 hb W hz hrs hws
    rcases (show o.do_ = 0 ∨ o.do_ = 7 ∨ (1 ≤ o.do_ ∧ o.do_ ≤ 6) ∨ (o.do_ = 8 ∨ o.do_ = 9) ∨ (o.do_ = 10 ∨ o.do_ = 11) ∨ o.do_ = 12 by omega) with h | h | h | h | h | h
    · exact A (by rw [h]; rfl) (by rw [h]; rfl) (by rw [h]; rfl)
    · exact A (by rw [h]; rfl) (by rw [h]; rfl) (by rw [h]; rfl)
    · exact B (by unfold twoB; rw [decide_eq_true h.1, decide_eq_true h.2]; rfl) (by unfold setsB; rw [decide_eq_true (show 0 ≤ o.do_ by omega), decide_eq_true (show o.do_ ≤ 7 by omega)]; rfl) (by unfold chB; rw [decide_eq_false (show ¬ o.do_ = 8 by omega), decide_eq_false (show ¬ o.do_ = 9 by omega)]; rfl)
    · rcases h with h | h <;> exact C (by rw [h]; rfl) (by rw [h]; rfl) (by rw [h]; rfl)
    · rcases h with h | h <;> exact D (by rw [h]; rfl) (by rw [h]; rfl) (by rw [h]; rfl)
    · exact E (by rw [h]; rfl) (by rw [h]; rfl) (by rw [h]; rfl)
end Go.Proofs.YtijeninfmjhbnaaDoor
end
/- system.set. -/
section
namespace Go.Proofs.YtijeninfmjhbnaaDoor
open Go.ChangeShapes Go.WideShapes Go.ChangeAt Go.RowKit Go.Nm Go.Mem
set_option linter.unusedVariables false
def lastAt (l : List Int) (i : Nat) : Int := if i = 0 then -1 else l.getD (i - 1) 0
theorem setGo_step {n last x : Int} {r : List Int} : setGo n last (x :: r) = if x < 0 ∨ n ≤ x then 1 else if x ≤ last then 9 else setGo n x r := rfl
theorem drop_at (l : List Int) (i : Nat) (h : i < l.length) : l.drop i = l.getD i 0 :: l.drop (i + 1) := by
  rw [List.drop_eq_getElem_cons h, List.getD_eq_getElem?_getD, List.getElem?_eq_getElem h]; rfl
set_option maxHeartbeats 4000000 in
set_option maxRecDepth 100000 in
theorem sys_set (n kc : Nat) (ka : Option Addr) (l : List Int) (a : Option Addr) (m c : Nat) (hm : l.length = m) (h1 : m ≤ 1048576) (W : World) (hz : IntsAt .i64 W a l) :
    Calls Tryd.prog 18 #[.slice ka n kc, .slice a m c] W fun e w' => e = .returned (.int .i64 (setE n l)) ∧ Below W.heap.size W w' := by
  obtain ⟨R, hR⟩ : ∃ R, R = setE n l := ⟨_, rfl⟩
  rw [← hR]
  have HM := Lib.hid hm
  have HZ := Lib.hid hz
  have HR := Lib.hid hR
  have H1 := Lib.hid h1
  clear hm hz hR h1
  go_enter Tryd.func18, Tryd.ntmps18
  go_wp2_with fail
  go_loopg [5, 6, 9] m (fun gk v5 v6 vi wx => ∃ i : Nat, i ≤ m ∧ gk = m - i ∧ vi = .int .i64 i ∧ setGo n (lastAt l i) (l.drop i) = R ∧ Hid (Below W.heap.size W wx))
  case atStart => exact ⟨0, Nat.zero_le _, rfl, rfl, by rw [HR.out]; rfl, Lib.hid (Below.refl _ _)⟩
  case round =>
    obtain ⟨i, hi, g2, rfl, hg, HB⟩ := hrel
    have G2 := Lib.hid g2
    have HG := Lib.hid hg
    clear g2 hg
    by_cases hlt : i < m
    · have HLT := Lib.hid (show ∃ d, i + 1 + d = m from ⟨m - (i + 1), by omega⟩)
      obtain ⟨ad, rfl, hx, hcx⟩ := HZ.out (by rw [HM.out]; omega)
      obtain ⟨x, hxx⟩ : ∃ p, p = l.getD i 0 := ⟨_, rfl⟩
      have cx := (HB.out.cell (by rw [block_of_add]; exact hx)).trans (hcx i (by rw [HM.out]; omega))
      rw [← hxx] at cx
      have hs := HG.out
      rw [drop_at l i (by rw [HM.out]; exact hlt), setGo_step, ← hxx] at hs
      have HS := Lib.hid hs
      have c00 := hcx 0 (by rw [HM.out]; omega)
      obtain ⟨gb, go, sp⟩ := ad
      have hsp : sp = none := by simpa [Addr.add] using World.cell?_spot c00
      subst hsp
      rw [Addr.add_lit] at cx
      have HX := Lib.hid hxx
      have i0 : (0 : Int) ≤ (i : Int) := by omega
      have i1 : (i : Int) < (m : Int) := by omega
      clear c00 hs hxx HG
      by_cases hx0 : x < 0
      · have HE := Lib.hid (show (1 : Int) = R by have := HS.out; rw [if_pos (Or.inl hx0)] at this; exact this)
        clear HS hcx
        go_wp2
        go_ret
        exact ⟨by rw [← HE.out]; rfl, HB.out⟩
      · by_cases hxn : (n : Int) ≤ x
        · have HE := Lib.hid (show (1 : Int) = R by have := HS.out; rw [if_pos (Or.inr hxn)] at this; exact this)
          clear HS hcx
          go_wp2
          go_ret
          exact ⟨by rw [← HE.out]; rfl, HB.out⟩
        · have hs := HS.out
          rw [if_neg (by omega)] at hs
          by_cases h0 : i = 0
          · subst h0
            rw [Nat.add_zero] at cx
            have HL := Lib.hid (show setGo n x (l.drop 1) = R by rw [if_neg (by unfold lastAt; simp; omega)] at hs; exact hs)
            clear HS hs hcx
            go_wp2_with fail
            go_roundg (m - 1)
            case measure => rw [G2.out]; omega
            case rel => exact ⟨1, by omega, rfl, by go_num, by unfold lastAt; rw [if_neg (by decide)]; rw [← HX.out]; exact HL.out, HB⟩
          · obtain ⟨L, hL⟩ : ∃ L, i = L + 1 := ⟨i - 1, by omega⟩
            obtain ⟨p, hp⟩ : ∃ p, p = l.getD L 0 := ⟨_, rfl⟩
            have cp := (HB.out.cell (by rw [block_of_add]; exact hx)).trans (hcx L (by rw [HM.out]; omega))
            rw [← hp, Addr.add_lit] at cp
            have hla : lastAt l i = p := by unfold lastAt; rw [if_neg h0, hL, hp]; rfl
            rw [hla] at hs
            have w1 : IntKind.i64.wrap ((i : Int) - 1) = (i : Int) - 1 := by have := H1.out; rw [IntKind.wrap_i64]; omega
            have w2 : IntKind.i64.wrap ((i : Int) + 1) = ((i + 1 : Nat) : Int) := by have := H1.out; rw [IntKind.wrap_i64]; omega
            have t1 : ((i : Int) - 1).toNat = L := by omega
            have j0 : (0 : Int) ≤ (i : Int) - 1 := by omega
            have j1 : (i : Int) - 1 < (m : Int) := by omega
            have j2 : (1 : Int) ≤ (i : Int) := by omega
            have j3 : (i : Int) ≤ (m : Int) := by omega
            have j4 : 1 ≤ i := by omega
            have j5 : (0 : Int) < (i : Int) := by omega
            have j6 : 0 < i := by omega
            have HLL := Lib.hid hL
            by_cases hpx : x ≤ p
            · have HE := Lib.hid (show (9 : Int) = R by rw [if_pos hpx] at hs; exact hs)
              clear HS hcx hs hla hp hL
              go_wp2
              go_ret
              exact ⟨by rw [← HE.out]; rfl, HB.out⟩
            · have HE := Lib.hid (show setGo n x (l.drop (i + 1)) = R by rw [if_neg hpx] at hs; exact hs)
              clear HS hcx hs hla hp hL
              go_wp2_with fail
              go_roundg (m - (i + 1))
              case measure => rw [G2.out]; obtain ⟨d, hd⟩ := HLT.out; omega
              case rel =>
                obtain ⟨d, hd⟩ := HLT.out
                have h1m := H1.out
                exact ⟨i + 1, by omega, rfl, (by first | rfl | go_num | simp), by unfold lastAt; rw [if_neg (Nat.succ_ne_zero i), Nat.add_sub_cancel, ← HX.out]; exact HE.out, HB⟩
    · obtain rfl : i = m := by omega
      have HE := Lib.hid (show (0 : Int) = R by have := HG.out; rw [List.drop_eq_nil_of_le (by rw [HM.out]; exact Nat.le_refl _)] at this; exact this)
      clear HG
      go_wp2
      go_ret
      exact ⟨by rw [← HE.out]; rfl, HB.out⟩
end Go.Proofs.YtijeninfmjhbnaaDoor
end
/- slices.Concat of lists of integers. -/
section
namespace Go.Proofs.YtijeninfmjhbnaaDoor
open Go.ChangeShapes Go.WideShapes Go.ChangeAt Go.RowKit Go.Mem
set_option linter.unusedVariables false
def IRowAt (w : World) (p : Addr) (l : List Int) : Prop := ∃ b c, w.cell? p = some (.slice b l.length c) ∧ IntsAt .i64 w b l
theorem IRowAt.abides : Abides IRowAt := by
  rintro w w' p y ⟨b, c, h1, h2⟩ hb
  exact ⟨b, c, cell_abides h1 hb, h2.below hb⟩
def toti (l : List (List Int)) : Nat := (l.map List.length).sum
theorem toti_take (l : List (List Int)) (k : Nat) (h : k < l.length) : toti (l.take (k + 1)) = toti (l.take k) + l[k].length := by
  unfold toti
  rw [List.take_add_one, List.getElem?_eq_getElem h, List.map_append, List.sum_append]; simp
theorem toti_mono (l : List (List Int)) (k : Nat) : toti (l.take k) ≤ toti l := by
  unfold toti
  have := List.take_append_drop k l
  have e : l.map List.length = (l.take k).map List.length ++ (l.drop k).map List.length := by rw [← List.map_append, this]
  rw [e, List.sum_append]; omega
theorem flati_length (l : List (List Int)) : l.flatten.length = toti l := by simp [toti, List.length_flatten]
theorem flati_take (l : List (List Int)) (k : Nat) (h : k < l.length) : (l.take (k + 1)).flatten = (l.take k).flatten ++ l[k] := by
  rw [List.take_add_one, List.getElem?_eq_getElem h, List.flatten_append]; simp
def GrowIPost (W : World) (e : Ending) (w' : World) : Prop := ∃ v, e = .returned v ∧ w'.ownsRow W.heap.size 3 1 v 0 [] ∧ Below W.heap.size W w'
theorem growni_row (W : World) (N : Nat) (hN : N ≤ maxLen) : (W.drew.alloc (.cells (Builtin.zeroCells (Value.int .i64 0).cells N ++ Builtin.zeroCells (Value.int .i64 0).cells (grownCap W N 0 3 - N)) 3)).ownsRow W.heap.size 3 1 (.slice (some ⟨W.heap.size, 0, none⟩) 0 (grownCap W N 0 3)) 0 [] := by
  have h1 := grownCap_ge W N 0 3
  refine ⟨rfl, .inr ⟨W.heap.size, _, _, rfl, Nat.le_refl _, heap_alloc_new W.drew _, Nat.zero_le _, grownCap_le_maxLen W N 0 _ hN, ?_, by simp⟩⟩
  rw [Array.size_append, size_zeroCells, size_zeroCells]
  have e : (Value.int .i64 0).cells.size = 1 := rfl
  rw [e]; omega
set_option maxHeartbeats 4000000 in
theorem growi_nil (N : Nat) (h : N ≤ 262144) (W : World) : Calls Tryd.prog 42 #[.slice none 0 0, .int .i64 N] W (GrowIPost W) := by
  by_cases h0 : 0 < N
  · obtain ⟨i, hi, hz, hs, hby⟩ := info_parts (show (Tryd.prog.info? 3).map (fun i => (i.zero, i.size, i.bytes)) = some (some (.int .i64 0), 1, 8) by kernel_rfl)
    have hrun := fun W ty => Lib.run_append_nil_zeros (P := Tryd.prog) W 23 3 ty 3 i _ .i64 .i64 Tryd.underlying23 Tryd.underlying3 hi hz N h0 (by omega) (by omega) (by rw [hby]; omega)
    have HR := Lib.hid hrun
    have HG := Lib.hid (growni_row W N (by unfold maxLen; omega))
    obtain ⟨C, hC⟩ : ∃ C, C = grownCap W N 0 3 := ⟨_, rfl⟩
    rw [← hC] at HG
    have HCE := Lib.hid hC
    have hNC : N ≤ C := by rw [hC]; exact grownCap_ge _ _ _ _
    have hCm : C ≤ 9223372036854775807 := by rw [hC]; exact grownCap_le_maxLen W N 0 _ (by unfold maxLen; omega)
    clear hrun hi hz hs hby hC
    go_enter Tryd.func42, Tryd.ntmps42
    go_wp2_with (at_builtin; go_must (refine Lib.wpList_append_run _ rfl _ _ _ _ rfl _ _ rfl rfl _ _ (HR.out _ _) ?_))
    rw [← HCE.out]
    go_wp2_with fail
    go_ret
    exact ⟨_, rfl, HG.out, ((Below.refl _ _).drew).alloc (by simp) _⟩
  · have hN : N = 0 := by omega
    subst hN
    go_enter Tryd.func42, Tryd.ntmps42
    go_wp2_with fail
    go_ret
    exact ⟨_, rfl, World.ownsRow_nil _ _ _ _, Below.refl _ _⟩
def ConcatIPost (l : List Int) (n : Nat) (W : World) (e : Ending) (w' : World) : Prop := ∃ a c, e = .returned (.slice a n c) ∧ IntsAt .i64 w' a l ∧ Below W.heap.size W w'
set_option maxHeartbeats 8000000 in
theorem concat_ints (l : List (List Int)) (a : Option Addr) (n cap : Nat) (hn : l.length = n) (h1 : n ≤ 1048576) (hb : toti l ≤ 262144) (W : World) (hz : SlAt 1 IRowAt W a l) :
    Calls Tryd.prog 22 #[.slice a n cap] W (ConcatIPost l.flatten (toti l) W) := by
  have HN := Lib.hid hn
  have HZ := Lib.hid hz
  have HBG := Lib.hid hb
  obtain ⟨N, hN⟩ : ∃ N, N = toti l := ⟨_, rfl⟩
  rw [← hN]
  have hN2 : N ≤ 262144 := by omega
  have HNN := Lib.hid hN
  clear hn hz hb hN
  go_enter Tryd.func22, Tryd.ntmps22
  go_wp2_with fail
  go_loopg [3, 5, 11] n (fun gk v3 v5 vi wx => ∃ k t : Nat, k ≤ n ∧ gk = n - k ∧ vi = .int .i64 k ∧ v3 = .int .i64 t ∧ t = toti (l.take k) ∧ t ≤ 262144 ∧ wx = W)
  case atStart => exact ⟨0, 0, Nat.zero_le _, rfl, rfl, rfl, rfl, by omega, rfl⟩
  case round =>
    obtain ⟨k, t, hk, g2, rfl, rfl, ht, htb, hw⟩ := hrel
    obtain rfl : W = wr := hw.symm
    have G2 := Lib.hid g2
    have HT := Lib.hid ht
    clear g2 ht
    by_cases hlt : k < n
    · obtain ⟨x, rfl, hx, hi⟩ := HZ.out (by rw [HN.out]; omega)
      obtain ⟨b, c, c0, _⟩ := hi k (by rw [HN.out]; exact hlt)
      rw [Nat.mul_one] at c0
      obtain ⟨m, hm⟩ : ∃ m, m = (l[k]'(by rw [HN.out]; exact hlt)).length := ⟨_, rfl⟩
      rw [← hm] at c0
      have hs : t + m = toti (l.take (k + 1)) := by rw [toti_take _ _ (by rw [HN.out]; exact hlt), HT.out, hm]
      have hs2 : t + m ≤ 262144 := by have := toti_mono l (k + 1); have := HBG.out; omega
      have HS := Lib.hid hs
      clear hi hm hs
      go_wp2_with fail
      go_roundg (n - (k + 1))
      case measure => rw [G2.out]; omega
      case rel => exact ⟨k + 1, t + m, hlt, rfl, by go_num, by go_num, HS.out, by omega, rfl⟩
    · have htn : t = N := by rw [HT.out, HNN.out, show k = l.length by rw [HN.out]; omega, List.take_length]
      subst htn
      clear HT
      go_wp2_with fail
      refine (growi_nil t htb _).mono ?_
      rintro e w1 ⟨v, rfl, ho, hb1⟩
      have HO1 := Lib.hid ho
      have HB1 := Lib.hid hb1
      clear ho hb1
      go_wp2_with fail
      go_loopg [6, 8, 27] n (fun gk v6 v8 vi wx => ∃ (k m : Nat), k ≤ n ∧ gk = n - k ∧ vi = .int .i64 k ∧ m ≤ 262144 ∧ m = toti (l.take k) ∧ wx.ownsRow W.heap.size 3 1 v6 m (vints .i64 (l.take k).flatten) ∧ Below W.heap.size W wx)
      case atStart => exact ⟨0, 0, Nat.zero_le _, rfl, rfl, by omega, rfl, HO1.out, HB1.out⟩
      case round =>
        obtain ⟨k, m, hk, g3, rfl, hm2, hm3, hown, hb⟩ := hrel
        have G3 := Lib.hid g3
        have HB := Lib.hid hb
        have HM := Lib.hid hm3
        have hbs := hb.size
        clear g3 hb hm3
        by_cases hlk : k < n
        · obtain ⟨x, rfl, hx, hi⟩ := HZ.out (by rw [HN.out]; omega)
          obtain ⟨b, c, c0, hzi⟩ := hi k (by rw [HN.out]; exact hlk)
          rw [Nat.mul_one] at c0
          replace c0 := cell_abides c0 HB.out
          obtain ⟨C, hC⟩ : ∃ C, C = l[k]'(by rw [HN.out]; exact hlk) := ⟨_, rfl⟩
          rw [← hC] at c0 hzi
          obtain ⟨q, hq⟩ : ∃ q, q = C.length := ⟨_, rfl⟩
          rw [← hq] at c0
          have hs : m + q = toti (l.take (k + 1)) := by rw [toti_take _ _ (by rw [HN.out]; exact hlk), HM.out, hq, hC]
          have hs2 : m + q ≤ 262144 := by have := toti_mono l (k + 1); have := HBG.out; omega
          have hft : (l.take (k + 1)).flatten = (l.take k).flatten ++ C := by rw [flati_take _ _ (by rw [HN.out]; exact hlk), hC]
          have HS := Lib.hid hs
          have HFT := Lib.hid hft
          have HU1 := Lib.hid (hzi.below HB.out)
          have HQ := Lib.hid hq
          have HOWN := Lib.hid hown
          clear hi hC hzi hq hs hft hown
          go_wp2_with (at_builtin; go_must (refine wpList_append_ints rfl _ _ 23 rfl W.heap.size 3 .i64 8 Tryd.underlying23 (by kernel_rfl) _ m _ rfl HOWN.out b q _ C rfl HQ.out.symm HU1.out (by unfold maxLen; omega) (by omega) hbs ?_))
          intro v' w' hown' hg hor
          have hb5 : Below W.heap.size W w' := HB.out.grown hg hbs (fun g hg2 => (own_lt HOWN.out g hg2).1)
          rw [← HFT.out] at hown'
          have HO5 := Lib.hid hown'
          have HB5 := Lib.hid hb5
          clear hown' hg hor hb5
          go_wp2_with fail
          go_roundg (n - (k + 1))
          case measure => rw [G3.out]; omega
          case rel => exact ⟨k + 1, m + q, hlk, rfl, by go_num, hs2, HS.out, HO5.out, HB5.out⟩
        · have hke : k = n := by omega
          obtain ⟨a2, c2, rfl⟩ := own_slice hown
          have hm4 : m = t := by rw [HM.out, HNN.out, show k = l.length by rw [HN.out]; omega, List.take_length]
          have hfl : l.flatten.length = m := by rw [flati_length, ← HNN.out]; exact hm4.symm
          rw [show l.take k = l by rw [hke, ← HN.out, List.take_length]] at hown
          have HAT := Lib.hid (IntsAt.of_own hown hfl.symm)
          clear hown hfl hke
          subst hm4
          go_wp2_with fail
          go_ret
          exact ⟨a2, c2, rfl, HAT.out, HB.out⟩
end Go.Proofs.YtijeninfmjhbnaaDoor
end
/- Layings of the kit's shelf at this translation, in plain words. -/
section
namespace Go.Proofs
open Go.Shelf
def Tryd.sortComps_ren : Go.Shelf.Ren := ⟨fun | 6 => 46 | 15 => 69 | 14 => 68 | 28 => 88 | 29 => 89 | 20 => 80 | 21 => 81 | 22 => 82 | 23 => 83 | 24 => 84 | 25 => 85 | 26 => 86 | 27 => 87 | 46 => 95 | 47 => 96 | 48 => 97 | 49 => 98 | 50 => 99 | 57 => 103 | n => n, fun | 22 => 25 | 24 => 87 | 25 => 94 | 3 => 3 | 39 => 115 | 0 => 0 | 53 => 133 | 55 => 135 | 4 => 4 | 46 => 126 | 45 => 125 | 50 => 130 | 5 => 5 | 9 => 9 | 66 => 141 | 70 => 145 | 76 => 148 | 77 => 75 | n => n, fun | n => n⟩
theorem Tryd.sortComps : Go.Proofs.SlLaysF0.n6 Tryd.prog Tryd.sortComps_ren := {
  mixed := by kernel_rfl
  f6 := ⟨Tryd.f46.name, by decide, Tryd.func46.trans (congrArg some (by kernel_rfl))⟩
  f14 := ⟨Tryd.f68.name, by decide, Tryd.func68.trans (congrArg some (by kernel_rfl))⟩
  f15 := Tryd.func69.trans (congrArg some (by kernel_rfl))
  f20 := ⟨Tryd.f80.name, by decide, Tryd.func80.trans (congrArg some (by kernel_rfl))⟩
  f21 := ⟨Tryd.f81.name, by decide, Tryd.func81.trans (congrArg some (by kernel_rfl))⟩
  f22 := ⟨Tryd.f82.name, by decide, Tryd.func82.trans (congrArg some (by kernel_rfl))⟩
  f23 := ⟨Tryd.f83.name, by decide, Tryd.func83.trans (congrArg some (by kernel_rfl))⟩
  f24 := ⟨Tryd.f84.name, by decide, Tryd.func84.trans (congrArg some (by kernel_rfl))⟩
  f25 := ⟨Tryd.f85.name, by decide, Tryd.func85.trans (congrArg some (by kernel_rfl))⟩
  f26 := ⟨Tryd.f86.name, by decide, Tryd.func86.trans (congrArg some (by kernel_rfl))⟩
  f27 := ⟨Tryd.f87.name, by decide, Tryd.func87.trans (congrArg some (by kernel_rfl))⟩
  f28 := Tryd.func88.trans (congrArg some (by kernel_rfl))
  f29 := Tryd.func89.trans (congrArg some (by kernel_rfl))
  f46 := ⟨Tryd.f95.name, by decide, Tryd.func95.trans (congrArg some (by kernel_rfl))⟩
  f47 := Tryd.func96.trans (congrArg some (by kernel_rfl))
  f48 := Tryd.func97.trans (congrArg some (by kernel_rfl))
  f49 := ⟨Tryd.f98.name, by decide, Tryd.func98.trans (congrArg some (by kernel_rfl))⟩
  f50 := ⟨Tryd.f99.name, by decide, Tryd.func99.trans (congrArg some (by kernel_rfl))⟩
  f57 := ⟨Tryd.f103.name, by decide, Tryd.func103.trans (congrArg some (by kernel_rfl))⟩
  t0 := Tryd.underlying0
  a0 := Tryd.isAgg0
  z0 := Tryd.sizeOf0
  v0 := Tryd.zeroValue0
  t3 := Tryd.underlying3
  a3 := Tryd.isAgg3
  z3 := Tryd.sizeOf3
  v3 := Tryd.zeroValue3
  t4 := Tryd.underlying4
  a4 := Tryd.isAgg4
  z4 := Tryd.sizeOf4
  v4 := Tryd.zeroValue4
  t5 := Tryd.underlying5
  a5 := Tryd.isAgg5
  z5 := Tryd.sizeOf5
  v5 := Tryd.zeroValue5
  t9 := Tryd.underlying9
  a9 := Tryd.isAgg9
  z9 := Tryd.sizeOf9
  v9 := Tryd.zeroValue9
  t22 := Tryd.underlying25
  a22 := Tryd.isAgg25
  z22 := Tryd.sizeOf25
  v22 := Tryd.zeroValue25
  t25 := Tryd.underlying94
  a25 := Tryd.isAgg94
  z25 := Tryd.sizeOf94
  v25 := Tryd.zeroValue94
  t39 := Tryd.underlying115
  a39 := Tryd.isAgg115
  z39 := Tryd.sizeOf115
  v39 := Tryd.zeroValue115
  t45 := Tryd.underlying125
  a45 := Tryd.isAgg125
  z45 := Tryd.sizeOf125
  v45 := Tryd.zeroValue125
  t46 := Tryd.underlying126
  a46 := Tryd.isAgg126
  z46 := Tryd.sizeOf126
  v46 := Tryd.zeroValue126
  t50 := Tryd.underlying130
  a50 := Tryd.isAgg130
  z50 := Tryd.sizeOf130
  v50 := Tryd.zeroValue130
  t53 := Tryd.underlying133
  a53 := Tryd.isAgg133
  z53 := Tryd.sizeOf133
  v53 := Tryd.zeroValue133
  t55 := Tryd.underlying135
  a55 := Tryd.isAgg135
  z55 := Tryd.sizeOf135
  v55 := Tryd.zeroValue135
  t66 := Tryd.underlying141
  a66 := Tryd.isAgg141
  z66 := Tryd.sizeOf141
  v66 := Tryd.zeroValue141
  t70 := Tryd.underlying145
  a70 := Tryd.isAgg145
  z70 := Tryd.sizeOf145
  v70 := Tryd.zeroValue145
  t76 := Tryd.underlying148
  a76 := Tryd.isAgg148
  z76 := Tryd.sizeOf148
  v76 := Tryd.zeroValue148
  t77 := Tryd.underlying75
  a77 := Tryd.isAgg75
  z77 := Tryd.sizeOf75
  v77 := Tryd.zeroValue75 }
end Go.Proofs
end
/- cmp.Compare of ints. -/
section
namespace Go.Proofs.YtijeninfmjhbnaaDoor
open Go.ChangeShapes Go.WideShapes Go.ChangeAt Go.RowKit Go.Mem
set_option linter.unusedVariables false
def cmpI (x y : Int) : Int := if x < y then -1 else if y < x then 1 else 0
theorem nan_int (x : Int) (w : World) : Calls Tryd.prog 70 #[.int .i64 x] w fun e w' => e = .returned (.bool false) ∧ w' = w := by
  have t1 : (x != x) = false := bne_self_eq_false _
  go_enter Tryd.func70, Tryd.ntmps70
  go_wp2
  go_ret
  exact ⟨rfl, rfl⟩
theorem cmp_ints (x y : Int) (w : World) : Calls Tryd.prog 48 #[.int .i64 x, .int .i64 y] w fun e w' => e = .returned (.int .i64 (cmpI x y)) ∧ w' = w := by
  have N1 := Lib.hid (nan_int x w)
  have N2 := Lib.hid (nan_int y w)
  go_enter Tryd.func48, Tryd.ntmps48
  go_wp2_with fail
  refine N1.out.mono ?_
  rintro e w1 ⟨rfl, rfl⟩
  go_wp2_with fail
  refine N2.out.mono ?_
  rintro e w2 ⟨rfl, rfl⟩
  by_cases h1 : x < y
  · have HC := Lib.hid (show cmpI x y = -1 from if_pos h1)
    go_wp2
    go_ret
    exact ⟨by rw [HC.out]; rfl, rfl⟩
  · by_cases h2 : y < x
    · have HC := Lib.hid (show cmpI x y = 1 by unfold cmpI; rw [if_neg h1, if_pos h2])
      go_wp2
      go_ret
      exact ⟨by rw [HC.out]; rfl, rfl⟩
    · have HC := Lib.hid (show cmpI x y = 0 by unfold cmpI; rw [if_neg h1, if_neg h2])
      go_wp2
      go_ret
      exact ⟨by rw [HC.out]; rfl, rfl⟩
end Go.Proofs.YtijeninfmjhbnaaDoor
end
