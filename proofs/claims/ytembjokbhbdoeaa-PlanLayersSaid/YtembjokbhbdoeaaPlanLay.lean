/- plan.Layers. -/
import Derived.Test.YtembjokbhbdoeaaPlanDep
import Derived.Test.YtembjokbhbdoeaaPlanLayP
namespace Go.Proofs.Ytembjokbhbdoeaa
open Go.ChangeShapes Go.WideShapes Go.ChangeAt Go.RowKit Go.Mem
set_option linter.unusedVariables false
theorem plan_Layers_large (a : Option Addr) (c m : Nat) (h : 24 < m) (w : World) : Calls Try.prog 9 #[.slice a m c] w fun e w' => e = .returned (.tuple #[.slice none 0 0, .int .i64 2]) ∧ Below w.heap.size w w' := by
  go_enter Try.func9, Try.ntmps9
  go_wp2
  go_ret2
  exact ⟨rfl, Below.refl _ _⟩
theorem own_shape {w : World} {B e n : Nat} {v : Value} {xs : List Value} (h : w.ownsRow B e 1 v n xs) : ∃ a c, v = .slice a n c := by
  rcases h.2 with ⟨rfl, rfl⟩ | ⟨g, cap, cur, rfl, _⟩
  · exact ⟨_, _, rfl⟩
  · exact ⟨_, _, rfl⟩
theorem pad_step (R : List (List Nat)) (d : Nat) (h : R.length < d) : padRows (R ++ [[]]) d = padRows R d := by
  unfold padRows
  obtain ⟨q, hq⟩ : ∃ q, d - R.length = q + 1 := ⟨d - R.length - 1, by omega⟩
  rw [hq, List.replicate_succ, List.length_append, List.length_singleton, show d - (R.length + 1) = q by omega, List.append_assoc]
  rfl
theorem pad_done (R : List (List Nat)) (d : Nat) (h : d ≤ R.length) : padRows R d = R := by
  unfold padRows
  rw [show d - R.length = 0 by omega]
  simp
set_option maxHeartbeats 8000000 in
theorem plan_Layers (a : Option Addr) (c m : Nat) (l : List SysV) (hm : l.length = m) (h24 : m ≤ 24) (w : World) (ha : SlAt 7 SysAt w a l) :
    Calls Try.prog 9 #[.slice a m c] w fun e w' => (∃ a2 c2, e = .returned (.tuple #[.slice a2 (layL (depL l m) m).length c2, .int .i64 0]) ∧ SlAt 1 IntsIn w' a2 ((layL (depL l m) m).map ints)) ∧ Below w.heap.size w w' := by
  have CD := Lib.hid (plan_depths a c m l hm (by omega) w ha)
  have hbd := layL_bd (depL l m) m (fun j hj => by have := depL_le l m j hj; omega)
  have hdl := depL_le l m
  have HDR := Lib.hid (depRow0_top l m)
  have HDL := Lib.hid (depL_len l m)
  obtain ⟨D, hD⟩ : ∃ D, D = depL l m := ⟨_, rfl⟩
  rw [← hD] at hbd hdl HDR HDL ⊢
  have HBD := Lib.hid hbd
  have HDLE := Lib.hid hdl
  clear hbd hdl hD hm ha
  go_enter Try.func9, Try.ntmps9
  go_wp2_with fail
  refine CD.out.mono ?_
  rintro e w1 ⟨⟨G, rfl, hG, hro⟩, hb1⟩
  rw [HDR.out] at hro
  have lG := hro.lt
  obtain ⟨B, hB⟩ : ∃ B, B = w1.heap.size := ⟨_, rfl⟩
  have hGB : G < B := by omega
  have hBw : w.heap.size ≤ B := by rw [hB]; exact hb1.size
  have hB1 : B ≤ w1.heap.size := by omega
  have HRO := Lib.hid (show RowB w1 G 3 .i64 (ints D) from hro)
  clear CD hB hro lG
  go_wp2_with fail
  go_loopg [4, 5, 6, 13] m (fun gk v4 _ _ vi wx => ∃ (k : Nat) (v : Value) (vs : List Value), k ≤ m ∧ gk = m - k ∧ v4 = v ∧ vi = .int .i64 k ∧ wx.ownsRow B 26 1 v (layL D k).length vs ∧ RowsI wx B vs (layL D k) ∧ RowB wx G 3 .i64 (ints D) ∧ B ≤ wx.heap.size ∧ Below w.heap.size w wx)
  case atStart => exact ⟨0, _, [], Nat.zero_le _, rfl, rfl, rfl, World.ownsRow_nil _ _ _ _, RowsI.nil _ _, HRO.out, hB1, hb1⟩
  case round =>
    clear HRO hb1 hB1
    obtain ⟨k, v, vs, g1, g2, rfl, rfl, hown, hrows, hro, hBx, hb⟩ := hrel
    have G2 := Lib.hid g2
    have HOWN := Lib.hid hown
    have HROWS := Lib.hid hrows
    have HRO := Lib.hid hro
    clear g2 hown hrows hro
    by_cases hlt : k < m
    · have e1 := HRO.out.cell k (by rw [ints_len, HDL.out]; exact hlt)
      obtain ⟨d, hd⟩ : ∃ d, d = D.getD k 0 := ⟨_, rfl⟩
      have e1' : (ints D).getD k 0 = (d : Int) := by
        rw [hd]
        unfold ints
        rw [List.getD_eq_getElem?_getD, List.getElem?_map, List.getD_eq_getElem?_getD, List.getElem?_eq_getElem (by rw [HDL.out]; exact hlt)]
        rfl
      rw [e1'] at e1
      have hd1 := (HDLE.out k hlt).1
      have hd2 := (HDLE.out k hlt).2
      rw [← hd] at hd1 hd2
      obtain ⟨q, hdq⟩ : ∃ q, d = q + 1 := ⟨d - 1, by omega⟩
      have e1q : (d : Int) = (q : Int) + 1 := by omega
      rw [e1q] at e1
      have hst := layL_succ D k
      rw [← hd] at hst
      have hlen := (HBD.out k (by omega)).1
      have hrl := (HBD.out k (by omega)).2
      obtain ⟨out, hout⟩ : ∃ out, out = layL D k := ⟨_, rfl⟩
      rw [← hout] at hst hlen hrl HOWN HROWS
      have HST := Lib.hid hst
      have HRL := Lib.hid hrl
      clear e1' hd hst hrl hout
      go_wp2_with fail
      go_loopg [4] (d - out.length) (fun gk v4 wx => ∃ (R : List (List Nat)) (v : Value) (vs : List Value), gk = d - R.length ∧ R.length ≤ max out.length d ∧ padRows R d = padRows out d ∧ v4 = v ∧ wx.ownsRow B 26 1 v R.length vs ∧ RowsI wx B vs R ∧ RowB wx G 3 .i64 (ints D) ∧ B ≤ wx.heap.size ∧ Below w.heap.size w wx)
      case atStart => exact ⟨out, _, vs, rfl, by omega, rfl, rfl, HOWN.out, HROWS.out, HRO.out, hBx, hb⟩
      case round =>
        clear HOWN HROWS HRO hBx hb
        obtain ⟨R, v, vs, f2, fl, fp, rfl, hown, hrows, hro, hBx, hb⟩ := hrel
        have F2 := Lib.hid f2
        have FP := Lib.hid fp
        have HROWS := Lib.hid hrows
        have HRO := Lib.hid hro
        clear f2 fp hrows hro
        obtain ⟨av, cv, rfl⟩ := own_shape hown
        have HOWN := Lib.hid hown
        clear hown
        by_cases hRd : R.length < d
        · have hRi : ((R.length : Nat) : Int) < (q : Int) + 1 := by omega
          have hv := HOWN.out
          go_wp2_with (at_builtin; go_must (refine wpList_append_new rfl _ _ 23 rfl B 26 (.slice none 0 0) 1 24 Try.underlying23 (by kernel_rfl) rfl (by decide) _ _ _ rfl hv _ _ rfl rfl rfl (by omega) (by decide) hBx ?_))
          intro g' cap' w' hown' hg' hor' hlt'
          have hr2 := (HROWS.out.other hv (by decide) hg').snocNil
          have hro2 : RowB w' G 3 .i64 (ints D) := (hg'.block G HRO.out.lt (fun h => by have := (own_lt hv G h.symm).1; omega)).trans HRO.out
          have hb2 := hb.grown hg' hb.size (fun r h => Nat.le_trans hBw (own_lt hv r h).1)
          have hBx2 := Nat.le_trans hBx hg'.size
          have HFP := Lib.hid (show padRows (R ++ [[]]) d = padRows out d by rw [pad_step R d hRd]; exact FP.out)
          have HOWN2 := Lib.hid hown'
          have HR2 := Lib.hid hr2
          have HRO2 := Lib.hid hro2
          clear hown' hg' hor' hlt' hr2 hro2 hv HOWN HROWS HRO FP hb hBx
          go_wp2
          go_roundg (d - (R.length + 1))
          case measure => rw [F2.out]; omega
          case rel => exact ⟨R ++ [[]], _, vs ++ [.slice none 0 0], by rw [List.length_append, List.length_singleton], by rw [List.length_append, List.length_singleton]; omega, HFP.out, rfl, by rw [List.length_append, List.length_singleton]; exact HOWN2.out, HR2.out, HRO2.out, hBx2, hb2⟩
        · have hRi : ¬ ((R.length : Nat) : Int) < (q : Int) + 1 := by omega
          have hRe : R = padRows out d := by rw [← FP.out, pad_done R d (by omega)]
          have hstR : layL D (k + 1) = R.set q (R.getD q [] ++ [k]) := by
            rw [HST.out]
            unfold layStep
            rw [← hRe, hdq]
            rfl
          have hqR : q < R.length := by omega
          obtain ⟨go_, co, hform, hgo1, hgo2⟩ := HOWN.out.form (by omega)
          injection hform with hf1 hf2 hf3
          subst hf1 hf3
          have hu := HROWS.out.2.1 q hqR
          have hqv : q < vs.length := by rw [HROWS.out.1]; exact hqR
          have hcq := HOWN.out.cellAt q (by omega)
          rw [show vs[q]? = some (vs.getD q undef) by simp [hqv]] at hcq
          have hfz := HOWN.out.frozenAt q
          obtain ⟨u, hue⟩ : ∃ u, u = vs.getD q undef := ⟨_, rfl⟩
          rw [← hue] at hu hcq
          obtain ⟨row, hrow⟩ : ∃ row, row = R.getD q [] := ⟨_, rfl⟩
          rw [← hrow] at hu hstR
          have hrl : row.length ≤ 24 := by
            by_cases hro : row = []
            · rw [hro]; exact Nat.zero_le _
            · have hmem : row ∈ padRows out d := by
                rw [← hRe, hrow, List.getD_eq_getElem?_getD, List.getElem?_eq_getElem hqR]
                exact List.getElem_mem hqR
              rcases padRows_mem _ _ _ hmem with h | h
              · have := HRL.out row h; omega
              · exact absurd h hro
          have HUE := Lib.hid hue
          have HROW := Lib.hid hrow
          have HSTR := Lib.hid hstR
          obtain ⟨au, cu, hush⟩ := own_shape hu
          have HUSH := Lib.hid hush
          clear hue hrow hstR hRe hush
          go_wp2_with (at_builtin; go_must (refine wpList_append_new rfl _ _ 26 rfl B 3 (.int .i64 0) 1 8 Try.underlying26 (by kernel_rfl) rfl (by decide) _ _ _ rfl hu _ _ rfl rfl rfl (by omega) (by decide) hBx ?_))
          intro g' cap' w' hown' hg' hor' hlt'
          have hout2 := own_grown HOWN.out hg' (fun g h => own_other HOWN.out hu (by decide) g h)
          have hro2 : RowB w' G 3 .i64 (ints D) := (hg'.block G HRO.out.lt (fun h => by have := (own_lt hu G h.symm).1; omega)).trans HRO.out
          have hown2 : w'.ownsRow B 3 1 (.slice (some ⟨g', 0, none⟩) (row.length + 1) cap') (row.length + 1) (vints .i64 (ints (row ++ [k]))) := by
            rw [ints_snoc, ← vints_snoc]; exact hown'
          have hrows2 := HROWS.out.upd (w2 := w') q k hqR (.slice (some ⟨g', 0, none⟩) (row.length + 1) cap') g' rfl (by rw [← HROW.out]; exact hown2) (by rw [← HUE.out]; exact hg') (by
            rw [← HUE.out]
            rcases hor' with h | h
            · exact Or.inl h
            · exact Or.inr (by omega))
          rw [← HROW.out] at hrows2
          have hb2 := hb.grown hg' hb.size (fun r h => Nat.le_trans hBw (own_lt hu r h).1)
          have hBx2 := Nat.le_trans hBx hg'.size
          obtain ⟨nv, hnv⟩ : ∃ nv : Value, nv = .slice (some ⟨g', 0, none⟩) (row.length + 1) cap' := ⟨_, rfl⟩
          rw [← hnv] at hrows2
          obtain ⟨ho3, hg3⟩ := hout2.stored q nv
          have hrows3 := hrows2.other hout2 (by decide) hg3
          have hro3 : RowB (w'.setCell ⟨go_, q, none⟩ nv) G 3 .i64 (ints D) := hro2.far (by simp; omega) _
          have hb3 := hb2.setCell (p := ⟨go_, q, none⟩) (by show w.heap.size ≤ go_; omega) nv
          have hcq2 := hout2.cellAt q (by omega)
          rw [show vs[q]? = some (vs.getD q undef) by simp [hqv], ← HUE.out] at hcq2
          have hfz2 := hout2.frozenAt q
          rw [hnv] at ho3 hrows3 hro3 hb3
          have HO3 := Lib.hid ho3
          have HR3 := Lib.hid hrows3
          have HRO3 := Lib.hid hro3
          clear hown' hg' hor' hown2 hrows2 hro2 hnv ho3 hg3 hrows3 hro3 hout2 hu hcq hfz hb hb2 hBx HOWN HROWS HRO
          go_wp2
          go_roundg (m - (k + 1))
          case measure => rw [G2.out]; omega
          case rel => exact ⟨k + 1, _, vs.set q (.slice (some ⟨g', 0, none⟩) (row.length + 1) cap'), hlt, rfl, rfl, by go_num, by rw [HSTR.out, List.length_set]; exact HO3.out, by rw [HSTR.out]; exact HR3.out, HRO3.out, by simpa using hBx2, hb3⟩
    · obtain rfl : k = m := by omega
      obtain ⟨a2, c2, rfl, hsl⟩ := HROWS.out.lies HOWN.out rfl
      have HSL := Lib.hid hsl
      clear hsl
      go_wp2
      go_ret2
      exact ⟨⟨a2, c2, rfl, HSL.out⟩, hb⟩
end Go.Proofs.Ytembjokbhbdoeaa
