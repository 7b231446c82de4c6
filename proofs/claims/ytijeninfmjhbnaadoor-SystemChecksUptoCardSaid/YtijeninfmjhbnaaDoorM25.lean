/- Lemmas for the law SystemChecks: EqI, WEqK, WEq, KindHold, WHeld. No conditions. -/
import Derived.Test.YtijeninfmjhbnaaDoorM01
import Derived.BigQuiet
import Derived.Deep.QuietTactic
import Derived.Deep.LoopGhost
import Derived.Test.YtijeninfmjhbnaaDoorRows
import Derived.Test.YtijeninfmjhbnaaDoorM04
import Derived.Test.YtijeninfmjhbnaaDoorM06
import Derived.Shelf.Abstract
import Derived.Test.YtijeninfmjhbnaaDoorM09
/- slices.Equal of two slices of integers. -/
section
namespace Go.Proofs.YtijeninfmjhbnaaDoor
open Go.ChangeShapes Go.WideShapes Go.ChangeAt Go.RowKit Go.Mem
set_option linter.unusedVariables false
theorem list_ne_of_getD {zs ys : List Int} (k : Nat) (hk : k < zs.length) (hl : zs.length = ys.length) (h : zs.getD k 0 ≠ ys.getD k 0) : zs ≠ ys := by
  rintro rfl; exact h rfl

end Go.Proofs.YtijeninfmjhbnaaDoor
end
/- Fields and kinds held against each other. -/
section
namespace Go.Proofs.YtijeninfmjhbnaaDoor
open Go.ChangeShapes Go.WideShapes Go.ChangeAt Go.RowKit Go.Nm Go.Mem
set_option linter.unusedVariables false
def eqL {α : Type} (e : α → α → Bool) : List α → List α → Bool
  | [], [] => true
  | a :: l, b :: k => e a b && eqL e l k
  | _, _ => false
theorem eqL_len {α : Type} {e : α → α → Bool} : ∀ {l k : List α}, l.length ≠ k.length → eqL e l k = false
  | [], [], h => absurd rfl h
  | [], _ :: _, _ => rfl
  | _ :: _, [], _ => rfl
  | a :: l, b :: k, h => by
    unfold eqL
    rw [eqL_len (l := l) (k := k) (by simpa using h), Bool.and_false]
theorem eqL_ne {α : Type} {e : α → α → Bool} : ∀ {l k : List α} (i : Nat) (h1 : i < l.length) (h2 : i < k.length), e l[i] k[i] = false → eqL e l k = false
  | [], _, i, h1, _, _ => absurd h1 (by simp)
  | _ :: _, [], i, _, h2, _ => absurd h2 (by simp)
  | a :: l, b :: k, 0, _, _, h => by
    unfold eqL
    have h' : e a b = false := h
    rw [h', Bool.false_and]
  | a :: l, b :: k, i + 1, h1, h2, h => by
    unfold eqL
    rw [eqL_ne (l := l) (k := k) i (by simpa using h1) (by simpa using h2) (by simpa using h), Bool.and_false]
theorem eqL_eq {α : Type} {e : α → α → Bool} : ∀ {l k : List α}, l.length = k.length → (∀ i (h1 : i < l.length) (h2 : i < k.length), e l[i] k[i] = true) → eqL e l k = true
  | [], [], _, _ => rfl
  | [], _ :: _, h, _ => by simp at h
  | _ :: _, [], h, _ => by simp at h
  | a :: l, b :: k, h, hi => by
    unfold eqL
    have h0 : e a b = true := hi 0 (by simp) (by simp)
    rw [h0, Bool.true_and]
    exact eqL_eq (by simpa using h) (fun i h1 h2 => by have := hi (i + 1) (by simpa using h1) (by simpa using h2); simpa using this)
theorem eqL_refl {α : Type} {e : α → α → Bool} (he : ∀ a, e a a = true) (l : List α) : eqL e l l = true := eqL_eq rfl (fun i _ _ => he _)
def feqB (a b : FieldV) : Bool := a.name.toList == b.name.toList && (decide (a.bits = b.bits) && decide (a.low = b.low))
theorem feqB_refl (a : FieldV) : feqB a a = true := by unfold feqB; simp
def keqB (a b : KindV) : Bool := a.name.toList == b.name.toList && eqL feqB a.fields b.fields
theorem keqB_refl (a : KindV) : keqB a a = true := by unfold keqB; rw [eqL_refl feqB_refl]; simp
theorem fld_eqg (s s2 : ByteArray) (b l b2 l2 : Int) (w : World) : (Op.equalIn 10000 40 (.agg #[.string s, .int .i64 b, .int .i64 l]) (.agg #[.string s2, .int .i64 b2, .int .i64 l2])).run Tryd.prog w = .ok (s.toList == s2.toList && (decide (b = b2) && decide (l = l2))) w := by
  have u3 := Tryd.underlying3
  have u4 := Tryd.underlying9
  have a3 := Tryd.isAgg3
  have z3 := Tryd.sizeOf3
  have a4 := Tryd.isAgg9
  have z4 := Tryd.sizeOf9
  rw [show (10000 : Nat) = 9999 + 1 from rfl, Op.equalIn]
  simp only [Sem.run_bind, run_underlying Tryd.underlying40, Result.andThen_ok]
  go_simp
  by_cases h1 : s.toList = s2.toList <;> by_cases h2 : b = b2 <;> by_cases h3 : l = l2 <;> simp [h1, h2, h3]
theorem fld_neqg (s s2 : ByteArray) (b l b2 l2 : Int) (w : World) : (binOp .neq 40 (.agg #[.string s, .int .i64 b, .int .i64 l]) (.agg #[.string s2, .int .i64 b2, .int .i64 l2])).run Tryd.prog w = .ok (.bool (!(s.toList == s2.toList && (decide (b = b2) && decide (l = l2))))) w := by
  have h := fld_eqg s s2 b l b2 l2
  simp [binOp, Op.equal, Op.maxDepth, h]
theorem fld_guardg (x y : Operand) (u v : Array Value) (w : World) : (eqGuard .neq 40 x y (.agg u) (.agg v)).run Tryd.prog w = .ok () w := by
  have h : Tryd.prog.eqGuardType Tryd.prog.depth 40 = false := by kernel_rfl
  simp [eqGuard, h]
def F_fet (xb xo zb zo n ca cb i : Nat) (y q : FieldV) (jq : Nat) (v : Value) (w : World) : Prop :=
  match jq with
  | 0 => v = .slice (some ⟨xb, xo, none⟩) n ca
  | 1 => v = .int .i64 i
  | 2 => v = .pointer (some ⟨xb, xo + i * 3, none⟩)
  | 3 => v = .agg #[.string y.name, .int .i64 y.bits, .int .i64 y.low]
  | 4 => v = .slice (some ⟨zb, zo, none⟩) n cb
  | 5 => v = .int .i64 i
  | 6 => v = .pointer (some ⟨zb, zo + i * 3, none⟩)
  | 7 => v = .agg #[.string q.name, .int .i64 q.bits, .int .i64 q.low]
  | 8 => v = .bool false
  | _ => True
theorem F_fet_mono (xb xo zb zo n ca cb i : Nat) (y q : FieldV) : Facts (F_fet xb xo zb zo n ca cb i  y q ) := ⟨by
  intro jq v w w' h hb
  unfold F_fet at h ⊢
  split at h
  all_goals first
    | exact h
    | trivial⟩
def F_fef (xb xo zb zo n ca cb i : Nat) (y q : FieldV) (jq : Nat) (v : Value) (w : World) : Prop :=
  match jq with
  | 0 => v = .slice (some ⟨xb, xo, none⟩) n ca
  | 1 => v = .int .i64 i
  | 2 => v = .pointer (some ⟨xb, xo + i * 3, none⟩)
  | 3 => v = .agg #[.string y.name, .int .i64 y.bits, .int .i64 y.low]
  | 4 => v = .slice (some ⟨zb, zo, none⟩) n cb
  | 5 => v = .int .i64 i
  | 6 => v = .pointer (some ⟨zb, zo + i * 3, none⟩)
  | 7 => v = .agg #[.string q.name, .int .i64 q.bits, .int .i64 q.low]
  | 8 => v = .bool true
  | _ => True
theorem F_fef_mono (xb xo zb zo n ca cb i : Nat) (y q : FieldV) : Facts (F_fef xb xo zb zo n ca cb i  y q ) := ⟨by
  intro jq v w w' h hb
  unfold F_fef at h ⊢
  split at h
  all_goals first
    | exact h
    | trivial⟩

set_option maxHeartbeats 4000000 in
theorem eq_fldsg (l k : List FieldV) (a b : Option Addr) (n m ca cb : Nat) (hn : l.length = n) (hm : k.length = m) (h1 : n ≤ 9223372036854775807) (h2 : m ≤ 9223372036854775807) (W : World) (hz : SlAt 3 FieldAt W a l) (hy : SlAt 3 FieldAt W b k) :
    Calls Tryd.prog 64 #[.slice a n ca, .slice b m cb] W fun e w' => e = .returned (.bool (eqL feqB l k)) ∧ Below W.heap.size W w' := by
  obtain ⟨R, hR⟩ : ∃ R, R = eqL feqB l k := ⟨_, rfl⟩
  rw [← hR]
  have HR := Lib.hid hR
  have HN := Lib.hid hn
  have HM := Lib.hid hm
  have HZ := Lib.hid hz
  have HY := Lib.hid hy
  clear hR hn hm hz hy
  by_cases hnm : n = m
  · subst hnm
    have t0 : ((n : Int) != (n : Int)) = false := by simp
    go_enter Tryd.func64, Tryd.ntmps64
    go_wp2_with fail
    go_loopg [5, 13] n (fun gk v5 vi wx => ∃ i : Nat, i ≤ n ∧ gk = n - i ∧ vi = .int .i64 i ∧ (∀ j (h : j < n), j < i → feqB (l[j]'(by rw [HN.out]; exact h)) (k[j]'(by rw [HM.out]; exact h)) = true) ∧ Below W.heap.size W wx)
    case atStart => exact ⟨0, Nat.zero_le _, rfl, rfl, fun j h h2 => absurd h2 (by omega), Below.refl _ _⟩
    case round =>
      obtain ⟨i, hi, g2, rfl, hat, hb⟩ := hrel
      have G2 := Lib.hid g2
      have HAT := Lib.hid hat
      have HB := Lib.hid hb
      clear g2 hat hb
      by_cases hlt : i < n
      · obtain ⟨x, rfl, _, _⟩ := HZ.out (by rw [HN.out]; omega)
        obtain ⟨z, rfl, _, _⟩ := HY.out (by rw [HM.out]; omega)
        obtain ⟨xb, xo, rfl, hcx⟩ := fld_cells (HZ.out.below FieldAt.abides HB.out) i (by rw [HN.out]; exact hlt)
        obtain ⟨zb, zo, rfl, hcz⟩ := fld_cells (HY.out.below FieldAt.abides HB.out) i (by rw [HM.out]; exact hlt)
        obtain ⟨y, hy⟩ : ∃ y, y = l[i]'(by rw [HN.out]; exact hlt) := ⟨_, rfl⟩
        obtain ⟨q, hq⟩ : ∃ q, q = k[i]'(by rw [HM.out]; exact hlt) := ⟨_, rfl⟩
        rw [← hy] at hcx
        rw [← hq] at hcz
        obtain ⟨S, hS⟩ : ∃ S, S = feqB y q := ⟨_, rfl⟩
        have CX := Lib.hid hcx
        have CZ := Lib.hid hcz
        have HS := Lib.hid hS
        have HYD := Lib.hid hy
        have HQD := Lib.hid hq
        clear hcx hcz hS hy hq
        cases S with
        | true =>
          go_wp2_with fail
          refine wp_region_facts_t rfl 9 (by kernel_rfl) (F_fet xb xo zb zo n ca cb i y q) (F_fet_mono xb xo zb zo n ca cb i y q) ?_ ?_
          · refine ⟨?_, ?_, ?_, ?_, ?_, ?_, ?_, ?_, ?_, trivial⟩
            · intro vs w' F hb hd hF hl hT
              have e := (hF 0).trans (look_out _ 0 _ _ (by kernel_rfl))
              exact one_move _ rfl (by first | exact Or.inl rfl | exact Or.inr rfl) ⟨_, rfl, Below.refl _ _, e⟩
            · intro vs w' F hb hd hF hl hT
              have e := (hF 5).trans (look_out _ 5 _ _ (by kernel_rfl))
              exact one_move _ rfl (by first | exact Or.inl rfl | exact Or.inr rfl) ⟨_, rfl, Below.refl _ _, e⟩
            · intro vs w' F hb hd hF hl hT
              have ex := ((hF 16).trans (look_at _ 16 0 _ _ (by kernel_rfl) (by kernel_rfl) hl)).trans (dep_of (Fact := F_fet xb xo zb zo n ca cb i y q) hd 0 (by kernel_rfl))
              have ey := ((hF 17).trans (look_at _ 17 1 _ _ (by kernel_rfl) (by kernel_rfl) hl)).trans (dep_of (Fact := F_fet xb xo zb zo n ca cb i y q) hd 1 (by kernel_rfl))
              exact one_index 41 _ _ rfl rfl (.slice (some ⟨xb, xo, none⟩) n ca) (.int .i64 i) (.pointer (some ⟨xb, xo + i * 3, none⟩)) ex ey (fun w => rg_idx Tryd.underlying41 (show (Tryd.prog.info? 40).map (·.size) = some 3 by kernel_rfl) (xb) (xo) (n) (ca) (i) (by omega) w) ⟨_, rfl, Below.refl _ _, rfl⟩
            · intro vs w' F hb hd hF hl hT
              have e := ((hF 18).trans (look_at _ 18 2 _ _ (by kernel_rfl) (by kernel_rfl) hl)).trans (dep_of (Fact := F_fet xb xo zb zo n ca cb i y q) hd 2 (by kernel_rfl))
              exact rg_load 40 _ rfl rfl (xb) (xo + i * 3) [.string y.name, .int .i64 y.bits, .int .i64 y.low] e (CX.out.below hb) _ Tryd.underlying40 rfl (by kernel_rfl) ⟨_, rfl, Below.refl _ _, rfl⟩
            · intro vs w' F hb hd hF hl hT
              have e := (hF 1).trans (look_out _ 1 _ _ (by kernel_rfl))
              exact one_move _ rfl (by first | exact Or.inl rfl | exact Or.inr rfl) ⟨_, rfl, Below.refl _ _, e⟩
            · intro vs w' F hb hd hF hl hT
              have e := (hF 5).trans (look_out _ 5 _ _ (by kernel_rfl))
              exact one_move _ rfl (by first | exact Or.inl rfl | exact Or.inr rfl) ⟨_, rfl, Below.refl _ _, e⟩
            · intro vs w' F hb hd hF hl hT
              have ex := ((hF 20).trans (look_at _ 20 4 _ _ (by kernel_rfl) (by kernel_rfl) hl)).trans (dep_of (Fact := F_fet xb xo zb zo n ca cb i y q) hd 4 (by kernel_rfl))
              have ey := ((hF 21).trans (look_at _ 21 5 _ _ (by kernel_rfl) (by kernel_rfl) hl)).trans (dep_of (Fact := F_fet xb xo zb zo n ca cb i y q) hd 5 (by kernel_rfl))
              exact one_index 41 _ _ rfl rfl (.slice (some ⟨zb, zo, none⟩) n cb) (.int .i64 i) (.pointer (some ⟨zb, zo + i * 3, none⟩)) ex ey (fun w => rg_idx Tryd.underlying41 (show (Tryd.prog.info? 40).map (·.size) = some 3 by kernel_rfl) (zb) (zo) (n) (cb) (i) (by omega) w) ⟨_, rfl, Below.refl _ _, rfl⟩
            · intro vs w' F hb hd hF hl hT
              have e := ((hF 22).trans (look_at _ 22 6 _ _ (by kernel_rfl) (by kernel_rfl) hl)).trans (dep_of (Fact := F_fet xb xo zb zo n ca cb i y q) hd 6 (by kernel_rfl))
              exact rg_load 40 _ rfl rfl (zb) (zo + i * 3) [.string q.name, .int .i64 q.bits, .int .i64 q.low] e (CZ.out.below hb) _ Tryd.underlying40 rfl (by kernel_rfl) ⟨_, rfl, Below.refl _ _, rfl⟩
            · intro vs w' F hb hd hF hl hT
              have ex := (((hF 19).trans (look_at _ 19 3 _ _ (by kernel_rfl) (by kernel_rfl) hl)).trans (dep_of (Fact := F_fet xb xo zb zo n ca cb i y q) hd 3 (by kernel_rfl)))
              have ey := (((hF 23).trans (look_at _ 23 7 _ _ (by kernel_rfl) (by kernel_rfl) hl)).trans (dep_of (Fact := F_fet xb xo zb zo n ca cb i y q) hd 7 (by kernel_rfl)))
              have hr := fld_neqg y.name q.name y.bits y.low q.bits q.low w'
              rw [show (y.name.toList == q.name.toList && (decide (y.bits = q.bits) && decide (y.low = q.low))) = true from HS.out.symm] at hr
              exact one_binop _ 40 _ _ _ rfl rfl _ _ ex ey (.bool false) (fld_guardg _ _ _ _ w') hr ⟨_, rfl, Below.refl _ _, rfl⟩
          · intro vs8 W8 hl hb hI
            have hv : vs8.getD 8 undef = .bool false := hI 8 (by omega)
            obtain ⟨x0, x1, x2, x3, x4, x5, x6, x7, x8, hvs⟩ := list9 hl
            subst hvs
            replace hv : x8 = .bool false := hv
            subst hv
            clear hI hl
            simp only [fillAll, Act.put, List.setIfInBounds_toArray, List.set_cons_succ, List.set_cons_zero]
            show wpList _ _ _ [] _ _
            have HB8 := bt HB.out hb
            clear hb CX CZ
            go_wp2
            go_roundg (n - (i + 1))
            case measure => rw [G2.out]; omega
            case rel => exact ⟨i + 1, hlt, rfl, by go_num, fun j h hj => by
              by_cases hji : j < i
              · exact HAT.out j h hji
              · obtain rfl : j = i := by omega
                rw [← HYD.out, ← HQD.out]; exact HS.out.symm, HB8⟩
        | false =>
          have HF := Lib.hid (show R = false by rw [HR.out]; exact eqL_ne i (by rw [HN.out]; exact hlt) (by rw [HM.out]; exact hlt) (by rw [← HYD.out, ← HQD.out]; exact HS.out.symm))
          go_wp2_with fail
          refine wp_region_facts_t rfl 9 (by kernel_rfl) (F_fef xb xo zb zo n ca cb i y q) (F_fef_mono xb xo zb zo n ca cb i y q) ?_ ?_
          · refine ⟨?_, ?_, ?_, ?_, ?_, ?_, ?_, ?_, ?_, trivial⟩
            · intro vs w' F hb hd hF hl hT
              have e := (hF 0).trans (look_out _ 0 _ _ (by kernel_rfl))
              exact one_move _ rfl (by first | exact Or.inl rfl | exact Or.inr rfl) ⟨_, rfl, Below.refl _ _, e⟩
            · intro vs w' F hb hd hF hl hT
              have e := (hF 5).trans (look_out _ 5 _ _ (by kernel_rfl))
              exact one_move _ rfl (by first | exact Or.inl rfl | exact Or.inr rfl) ⟨_, rfl, Below.refl _ _, e⟩
            · intro vs w' F hb hd hF hl hT
              have ex := ((hF 16).trans (look_at _ 16 0 _ _ (by kernel_rfl) (by kernel_rfl) hl)).trans (dep_of (Fact := F_fef xb xo zb zo n ca cb i y q) hd 0 (by kernel_rfl))
              have ey := ((hF 17).trans (look_at _ 17 1 _ _ (by kernel_rfl) (by kernel_rfl) hl)).trans (dep_of (Fact := F_fef xb xo zb zo n ca cb i y q) hd 1 (by kernel_rfl))
              exact one_index 41 _ _ rfl rfl (.slice (some ⟨xb, xo, none⟩) n ca) (.int .i64 i) (.pointer (some ⟨xb, xo + i * 3, none⟩)) ex ey (fun w => rg_idx Tryd.underlying41 (show (Tryd.prog.info? 40).map (·.size) = some 3 by kernel_rfl) (xb) (xo) (n) (ca) (i) (by omega) w) ⟨_, rfl, Below.refl _ _, rfl⟩
            · intro vs w' F hb hd hF hl hT
              have e := ((hF 18).trans (look_at _ 18 2 _ _ (by kernel_rfl) (by kernel_rfl) hl)).trans (dep_of (Fact := F_fef xb xo zb zo n ca cb i y q) hd 2 (by kernel_rfl))
              exact rg_load 40 _ rfl rfl (xb) (xo + i * 3) [.string y.name, .int .i64 y.bits, .int .i64 y.low] e (CX.out.below hb) _ Tryd.underlying40 rfl (by kernel_rfl) ⟨_, rfl, Below.refl _ _, rfl⟩
            · intro vs w' F hb hd hF hl hT
              have e := (hF 1).trans (look_out _ 1 _ _ (by kernel_rfl))
              exact one_move _ rfl (by first | exact Or.inl rfl | exact Or.inr rfl) ⟨_, rfl, Below.refl _ _, e⟩
            · intro vs w' F hb hd hF hl hT
              have e := (hF 5).trans (look_out _ 5 _ _ (by kernel_rfl))
              exact one_move _ rfl (by first | exact Or.inl rfl | exact Or.inr rfl) ⟨_, rfl, Below.refl _ _, e⟩
            · intro vs w' F hb hd hF hl hT
              have ex := ((hF 20).trans (look_at _ 20 4 _ _ (by kernel_rfl) (by kernel_rfl) hl)).trans (dep_of (Fact := F_fef xb xo zb zo n ca cb i y q) hd 4 (by kernel_rfl))
              have ey := ((hF 21).trans (look_at _ 21 5 _ _ (by kernel_rfl) (by kernel_rfl) hl)).trans (dep_of (Fact := F_fef xb xo zb zo n ca cb i y q) hd 5 (by kernel_rfl))
              exact one_index 41 _ _ rfl rfl (.slice (some ⟨zb, zo, none⟩) n cb) (.int .i64 i) (.pointer (some ⟨zb, zo + i * 3, none⟩)) ex ey (fun w => rg_idx Tryd.underlying41 (show (Tryd.prog.info? 40).map (·.size) = some 3 by kernel_rfl) (zb) (zo) (n) (cb) (i) (by omega) w) ⟨_, rfl, Below.refl _ _, rfl⟩
            · intro vs w' F hb hd hF hl hT
              have e := ((hF 22).trans (look_at _ 22 6 _ _ (by kernel_rfl) (by kernel_rfl) hl)).trans (dep_of (Fact := F_fef xb xo zb zo n ca cb i y q) hd 6 (by kernel_rfl))
              exact rg_load 40 _ rfl rfl (zb) (zo + i * 3) [.string q.name, .int .i64 q.bits, .int .i64 q.low] e (CZ.out.below hb) _ Tryd.underlying40 rfl (by kernel_rfl) ⟨_, rfl, Below.refl _ _, rfl⟩
            · intro vs w' F hb hd hF hl hT
              have ex := (((hF 19).trans (look_at _ 19 3 _ _ (by kernel_rfl) (by kernel_rfl) hl)).trans (dep_of (Fact := F_fef xb xo zb zo n ca cb i y q) hd 3 (by kernel_rfl)))
              have ey := (((hF 23).trans (look_at _ 23 7 _ _ (by kernel_rfl) (by kernel_rfl) hl)).trans (dep_of (Fact := F_fef xb xo zb zo n ca cb i y q) hd 7 (by kernel_rfl)))
              have hr := fld_neqg y.name q.name y.bits y.low q.bits q.low w'
              rw [show (y.name.toList == q.name.toList && (decide (y.bits = q.bits) && decide (y.low = q.low))) = false from HS.out.symm] at hr
              exact one_binop _ 40 _ _ _ rfl rfl _ _ ex ey (.bool true) (fld_guardg _ _ _ _ w') hr ⟨_, rfl, Below.refl _ _, rfl⟩
          · intro vs8 W8 hl hb hI
            have hv : vs8.getD 8 undef = .bool true := hI 8 (by omega)
            obtain ⟨x0, x1, x2, x3, x4, x5, x6, x7, x8, hvs⟩ := list9 hl
            subst hvs
            replace hv : x8 = .bool true := hv
            subst hv
            clear hI hl
            simp only [fillAll, Act.put, List.setIfInBounds_toArray, List.set_cons_succ, List.set_cons_zero]
            show wpList _ _ _ [] _ _
            have HB8 := bt HB.out hb
            clear hb CX CZ
            go_wp2
            go_ret
            exact ⟨by rw [HF.out]; rfl, HB8⟩
      · have hie : i = n := by omega
        have HF := Lib.hid (show R = true by rw [HR.out]; exact eqL_eq (HN.out.trans HM.out.symm) (fun j h _ => HAT.out j (by rw [← HN.out]; exact h) (by rw [hie, ← HN.out]; exact h)))
        clear hie
        go_wp2_with fail
        go_ret
        exact ⟨by rw [HF.out]; rfl, HB.out⟩
  · have t0 : ((n : Int) != (m : Int)) = true := by rw [bne_iff_ne]; omega
    have HF := Lib.hid (show R = false by rw [HR.out]; exact eqL_len (by rw [HN.out, HM.out]; exact hnm))
    clear hnm
    go_enter Tryd.func64, Tryd.ntmps64
    go_wp2_with fail
    go_ret
    exact ⟨by rw [HF.out]; rfl, Below.refl _ _⟩
set_option maxHeartbeats 4000000 in
theorem same_kindg (x y : KindV) (ax ay : Option Addr) (n m cx cy : Nat) (hn : x.fields.length = n) (hm : y.fields.length = m) (h1 : n ≤ 9223372036854775807) (h2 : m ≤ 9223372036854775807) (W : World) (hx : SlAt 3 FieldAt W ax x.fields) (hy : SlAt 3 FieldAt W ay y.fields) :
    Calls Tryd.prog 37 #[.agg #[.string x.name, .slice ax n cx], .agg #[.string y.name, .slice ay m cy]] W fun e w' => e = .returned (.bool (keqB x y)) ∧ Below W.heap.size W w' := by
  obtain ⟨p, l⟩ := x
  obtain ⟨q, k⟩ := y
  simp only at hn hm hx hy ⊢
  obtain ⟨R, hR⟩ : ∃ R, R = keqB ⟨p, l⟩ ⟨q, k⟩ := ⟨_, rfl⟩
  rw [← hR]
  have hb0 := ((Below.refl W.heap.size W).alloc (Nat.le_refl _) (.cells #[.string p, .slice ax n cx] 43)).alloc (by simp) (.cells #[.string q, .slice ay m cy] 43)
  have HC := Lib.hid (eq_fldsg l k ax ay n m cx cy hn hm h1 h2 _ (hx.below FieldAt.abides hb0) (hy.below FieldAt.abides hb0))
  have HB0 := Lib.hid hb0
  have HR := Lib.hid hR
  obtain ⟨T, hT⟩ : ∃ T, T = eqL feqB l k := ⟨_, rfl⟩
  rw [← hT] at HC
  have HT := Lib.hid hT
  clear hn hm hx hy hR hb0 hT
  cases hS : (p.toList == q.toList) with
  | true =>
    have HRS := Lib.hid (show R = T by rw [HR.out, HT.out]; unfold keqB; rw [hS, Bool.true_and])
    go_enter Tryd.func37, Tryd.ntmps37
    go_wp2_with fail
    refine HC.out.mono ?_
    rintro e w1 ⟨rfl, hb1⟩
    have HB1 := Lib.hid (HB0.out.trans (hb1.mono (by simp; omega)))
    clear hb1
    go_wp2_with fail
    go_ret
    exact ⟨by rw [HRS.out]; rfl, HB1.out⟩
  | false =>
    have HF := Lib.hid (show R = false by rw [HR.out]; unfold keqB; rw [hS, Bool.false_and])
    go_enter Tryd.func37, Tryd.ntmps37
    go_wp2_with fail
    go_ret
    exact ⟨by rw [HF.out]; rfl, HB0.out⟩
end Go.Proofs.YtijeninfmjhbnaaDoor
end
/- Components and items held against each other, by the reference and by the program. -/
section
namespace Go.Proofs.YtijeninfmjhbnaaDoor
open Go.ChangeShapes Go.WideShapes Go.ChangeAt Go.RowKit Go.Mem
set_option linter.unusedVariables false
theorem eqf_comps_ne {l k : List CompV} {n : Nat} (hl : l.length = n) (hk : k.length = n) (i : Nat) (hi : i < n) (h : l[i]'(by omega) ≠ k[i]'(by omega)) : decide (l = k) = false := by
  rw [decide_eq_false_iff_not]; rintro rfl; exact h rfl
theorem eqf_comps_eq {l k : List CompV} {n : Nat} (hl : l.length = n) (hk : k.length = n) (h : ∀ i (hi : i < n), l[i]'(by omega) = k[i]'(by omega)) : decide (l = k) = true := by
  rw [decide_eq_true_iff]; exact List.ext_getElem (by omega) (fun i h1 h2 => h i (by omega))
theorem eqf_items_ne {l k : List ItemV} {n : Nat} (hl : l.length = n) (hk : k.length = n) (i : Nat) (hi : i < n) (h : l[i]'(by omega) ≠ k[i]'(by omega)) : decide (l = k) = false := by
  rw [decide_eq_false_iff_not]; rintro rfl; exact h rfl
theorem eqf_items_eq {l k : List ItemV} {n : Nat} (hl : l.length = n) (hk : k.length = n) (h : ∀ i (hi : i < n), l[i]'(by omega) = k[i]'(by omega)) : decide (l = k) = true := by
  rw [decide_eq_true_iff]; exact List.ext_getElem (by omega) (fun i h1 h2 => h i (by omega))
end Go.Proofs.YtijeninfmjhbnaaDoor
end
/- kind.Holds. -/
section
namespace Go.Proofs.YtijeninfmjhbnaaDoor
open Go.ChangeShapes Go.WideShapes Go.ChangeAt Go.RowKit Go.Nm Go.Mem
set_option linter.unusedVariables false
def holdsB (k : KindV) (vals : List Int) : Bool := decide (fitE k vals = 0) && decide (fitL k.fields vals = vals)
theorem fit_len {k : KindV} {vals : List Int} (h : fitE k vals = 0) : (fitL k.fields vals).length = vals.length := by
  unfold fitE at h
  by_cases h1 : kindE k ≠ 0
  · rw [if_pos h1] at h; exact absurd h h1
  · rw [if_neg h1] at h
    by_cases h2 : vals.length ≠ k.fields.length
    · rw [if_pos h2] at h; exact absurd h (by decide)
    · unfold fitL
      rw [List.length_zipWith]; omega
end Go.Proofs.YtijeninfmjhbnaaDoor
end
/- world.held. -/
section
namespace Go.Proofs.YtijeninfmjhbnaaDoor
open Go.ChangeShapes Go.WideShapes Go.ChangeAt Go.RowKit Go.Nm Go.Mem
set_option linter.unusedVariables false
def lastK (l : List CompV) (i : Nat) : Int := if i = 0 then -1 else (l.getD (i - 1) default).kind
/-- the first i components: in increasing order, of kinds that are there, with fit values -/
def heldAt (k : List KindV) (l : List CompV) : Nat → Bool
  | 0 => true
  | i + 1 => heldAt k l i && (decide (lastK l i < (l.getD i default).kind) && (decide ((l.getD i default).kind < k.length) && holdsB (k.getD (l.getD i default).kind.toNat default) (l.getD i default).vals))
theorem heldAt_zero (k : List KindV) (l : List CompV) : heldAt k l 0 = true := rfl
theorem heldAt_succ (k : List KindV) (l : List CompV) (i : Nat) : heldAt k l (i + 1) = (heldAt k l i && (decide (lastK l i < (l.getD i default).kind) && (decide ((l.getD i default).kind < k.length) && holdsB (k.getD (l.getD i default).kind.toNat default) (l.getD i default).vals))) := rfl
def heldB (k : List KindV) (l : List CompV) : Bool := heldAt k l l.length
theorem heldAt_stays (k : List KindV) (l : List CompV) (i : Nat) (h : heldAt k l i = false) : ∀ n, i ≤ n → heldAt k l n = false := by
  intro n
  induction n with
  | zero => intro hn; obtain rfl : i = 0 := by omega
            exact h
  | succ n ih =>
    intro hn
    by_cases e : i = n + 1
    · rw [← e]; exact h
    · rw [heldAt_succ, ih (by omega), Bool.false_and]
theorem heldAt_low (k : List KindV) (l : List CompV) (i : Nat) (h : heldAt k l i = true) : -1 ≤ lastK l i := by
  induction i with
  | zero => exact Int.le_refl _
  | succ i ih =>
    rw [heldAt_succ, Bool.and_eq_true, Bool.and_eq_true] at h
    have h1 := ih h.1
    have h2 := of_decide_eq_true h.2.1
    unfold lastK at h2 ⊢
    rw [if_neg (by omega), Nat.add_sub_cancel]
    unfold lastK at h1
    omega
theorem lastK_succ (l : List CompV) (i : Nat) : lastK l (i + 1) = (l.getD i default).kind := by unfold lastK; rw [if_neg (by omega), Nat.add_sub_cancel]
theorem list22 {α : Type} {vs : List α} (h : vs.length = 22) : ∃ x0 x1 x2 x3 x4 x5 x6 x7 x8 x9 x10 x11 x12 x13 x14 x15 x16 x17 x18 x19 x20 x21, vs = [x0, x1, x2, x3, x4, x5, x6, x7, x8, x9, x10, x11, x12, x13, x14, x15, x16, x17, x18, x19, x20, x21] := by
  obtain ⟨x0, t0, rfl, h0⟩ := cons_of h
  obtain ⟨x1, t1, rfl, h1⟩ := cons_of h0
  obtain ⟨x2, t2, rfl, h2⟩ := cons_of h1
  obtain ⟨x3, t3, rfl, h3⟩ := cons_of h2
  obtain ⟨x4, t4, rfl, h4⟩ := cons_of h3
  obtain ⟨x5, t5, rfl, h5⟩ := cons_of h4
  obtain ⟨x6, t6, rfl, h6⟩ := cons_of h5
  obtain ⟨x7, t7, rfl, h7⟩ := cons_of h6
  obtain ⟨x8, t8, rfl, h8⟩ := cons_of h7
  obtain ⟨x9, t9, rfl, h9⟩ := cons_of h8
  obtain ⟨x10, t10, rfl, h10⟩ := cons_of h9
  obtain ⟨x11, t11, rfl, h11⟩ := cons_of h10
  obtain ⟨x12, t12, rfl, h12⟩ := cons_of h11
  obtain ⟨x13, t13, rfl, h13⟩ := cons_of h12
  obtain ⟨x14, t14, rfl, h14⟩ := cons_of h13
  obtain ⟨x15, t15, rfl, h15⟩ := cons_of h14
  obtain ⟨x16, t16, rfl, h16⟩ := cons_of h15
  obtain ⟨x17, t17, rfl, h17⟩ := cons_of h16
  obtain ⟨x18, t18, rfl, h18⟩ := cons_of h17
  obtain ⟨x19, t19, rfl, h19⟩ := cons_of h18
  obtain ⟨x20, t20, rfl, h20⟩ := cons_of h19
  obtain ⟨x21, t21, rfl, h21⟩ := cons_of h20
  exact ⟨x0, x1, x2, x3, x4, x5, x6, x7, x8, x9, x10, x11, x12, x13, x14, x15, x16, x17, x18, x19, x20, x21, by rw [List.eq_nil_of_length_eq_zero h21]⟩
def F_helda (wr n cap : Nat) (a : Option Addr) (kq la : Int) (av : Option Addr) (nv cv : Nat) (jq : Nat) (v : Value) (w : World) : Prop :=
  match jq with
  | 0 => v = .pointer (some ⟨wr, 0, none⟩)
  | 1 => v = .int .i64 kq
  | 2 => v = .int .i64 la
  | 3 => v = .bool true
  | 4 => v = .bool true
  | 5 => v = undef
  | 6 => v = undef
  | 7 => v = undef
  | 8 => v = undef
  | 9 => v = undef
  | 10 => v = .bool true
  | 11 => v = .bool true
  | 12 => v = undef
  | 13 => v = undef
  | 14 => v = undef
  | 15 => v = undef
  | 16 => v = undef
  | 17 => v = undef
  | 18 => v = undef
  | 19 => v = undef
  | 20 => v = undef
  | 21 => v = .bool true
  | _ => True
theorem F_helda_mono (wr n cap : Nat) (a : Option Addr) (kq la : Int) (av : Option Addr) (nv cv : Nat) : Facts (F_helda wr n cap  a  kq la  av  nv cv ) := ⟨by
  intro jq v w w' h hb
  unfold F_helda at h ⊢
  split at h
  all_goals first
    | exact h
    | trivial⟩
def F_heldb (wr n cap : Nat) (a : Option Addr) (kq la : Int) (av : Option Addr) (nv cv : Nat) (jq : Nat) (v : Value) (w : World) : Prop :=
  match jq with
  | 0 => v = .pointer (some ⟨wr, 0, none⟩)
  | 1 => v = .int .i64 kq
  | 2 => v = .int .i64 la
  | 3 => v = .bool false
  | 4 => v = .bool false
  | 5 => v = .pointer (some ⟨wr, 0, none⟩)
  | 6 => v = .int .i64 kq
  | 7 => v = .slice a n cap
  | 8 => v = .int .i64 (n : Int)
  | 9 => v = .bool true
  | 10 => v = .bool true
  | 11 => v = .bool true
  | 12 => v = undef
  | 13 => v = undef
  | 14 => v = undef
  | 15 => v = undef
  | 16 => v = undef
  | 17 => v = undef
  | 18 => v = undef
  | 19 => v = undef
  | 20 => v = undef
  | 21 => v = .bool true
  | _ => True
theorem F_heldb_mono (wr n cap : Nat) (a : Option Addr) (kq la : Int) (av : Option Addr) (nv cv : Nat) : Facts (F_heldb wr n cap  a  kq la  av  nv cv ) := ⟨by
  intro jq v w w' h hb
  unfold F_heldb at h ⊢
  split at h
  all_goals first
    | exact h
    | trivial⟩
def F_heldc (wr n cap kb ko q : Nat) (la : Int) (av : Option Addr) (nv cv : Nat) (nm : ByteArray) (af : Option Addr) (nf cf : Nat) (jq : Nat) (v : Value) (w : World) : Prop :=
  match jq with
  | 0 => v = .pointer (some ⟨wr, 0, none⟩)
  | 1 => v = .int .i64 (q : Int)
  | 2 => v = .int .i64 la
  | 3 => v = .bool false
  | 4 => v = .bool false
  | 5 => v = .pointer (some ⟨wr, 0, none⟩)
  | 6 => v = .int .i64 (q : Int)
  | 7 => v = .slice (some ⟨kb, ko, none⟩) n cap
  | 8 => v = .int .i64 (n : Int)
  | 9 => v = .bool false
  | 10 => v = .bool false
  | 11 => v = .bool false
  | 12 => v = .slice (some ⟨kb, ko, none⟩) n cap
  | 13 => v = .pointer (some ⟨wr, 0, none⟩)
  | 14 => v = .int .i64 (q : Int)
  | 15 => v = .pointer (some ⟨kb, ko + q * 2, none⟩)
  | 16 => v = .agg #[.string nm, .slice af nf cf]
  | 17 => v = .pointer (some ⟨wr, 1, none⟩)
  | 18 => v = .slice av nv cv
  | 19 => v = .bool false
  | 20 => v = .bool true
  | 21 => v = .bool true
  | _ => True
theorem F_heldc_mono (wr n cap kb ko q : Nat) (la : Int) (av : Option Addr) (nv cv : Nat) (nm : ByteArray) (af : Option Addr) (nf cf : Nat) : Facts (F_heldc wr n cap kb ko q  la  av  nv cv  nm  af  nf cf ) := ⟨by
  intro jq v w w' h hb
  unfold F_heldc at h ⊢
  split at h
  all_goals first
    | exact h
    | trivial⟩
def F_heldd (wr n cap kb ko q : Nat) (la : Int) (av : Option Addr) (nv cv : Nat) (nm : ByteArray) (af : Option Addr) (nf cf : Nat) (jq : Nat) (v : Value) (w : World) : Prop :=
  match jq with
  | 0 => v = .pointer (some ⟨wr, 0, none⟩)
  | 1 => v = .int .i64 (q : Int)
  | 2 => v = .int .i64 la
  | 3 => v = .bool false
  | 4 => v = .bool false
  | 5 => v = .pointer (some ⟨wr, 0, none⟩)
  | 6 => v = .int .i64 (q : Int)
  | 7 => v = .slice (some ⟨kb, ko, none⟩) n cap
  | 8 => v = .int .i64 (n : Int)
  | 9 => v = .bool false
  | 10 => v = .bool false
  | 11 => v = .bool false
  | 12 => v = .slice (some ⟨kb, ko, none⟩) n cap
  | 13 => v = .pointer (some ⟨wr, 0, none⟩)
  | 14 => v = .int .i64 (q : Int)
  | 15 => v = .pointer (some ⟨kb, ko + q * 2, none⟩)
  | 16 => v = .agg #[.string nm, .slice af nf cf]
  | 17 => v = .pointer (some ⟨wr, 1, none⟩)
  | 18 => v = .slice av nv cv
  | 19 => v = .bool true
  | 20 => v = .bool false
  | 21 => v = .bool false
  | _ => True
theorem F_heldd_mono (wr n cap kb ko q : Nat) (la : Int) (av : Option Addr) (nv cv : Nat) (nm : ByteArray) (af : Option Addr) (nf cf : Nat) : Facts (F_heldd wr n cap kb ko q  la  av  nv cv  nm  af  nf cf ) := ⟨by
  intro jq v w w' h hb
  unfold F_heldd at h ⊢
  split at h
  all_goals first
    | exact h
    | trivial⟩

end Go.Proofs.YtijeninfmjhbnaaDoor
end
