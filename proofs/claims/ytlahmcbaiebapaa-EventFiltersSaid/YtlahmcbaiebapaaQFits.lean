/- The reference's Fits: a map from ints to Bools of the call's own. -/
import Derived.Test.YtlahmcbaiebapaaQMatch
import Derived.Deep.DeepMust
import Derived.OwnWalk
import Derived.WideKeyArgs2
import Derived.Maps.OwnSet
import Derived.Maps.OwnOps
import Derived.Maps.Views
import Derived.Carry
namespace Go.Proofs.Ytlahmcbaiebapaa
open Go.ChangeShapes Go.WideShapes Go.ChangeAt Go.RowKit Go.Mem Go.Maps
set_option linter.unusedVariables false
theorem keyInt : Keyed Try.prog 3 := int_keyed Try.underlying3
theorem zeroB (w : World) : (zeroValue 4).run Try.prog w = .ok (.bool false) w := by kernel_rfl
abbrev RV (v : Value) : Option (DataW Value × List MemPlace) := some (.held v, [])
abbrev OwnV (w : World) (M n : Nat) (D : DataW Value) : Prop := w.ownsMap Try.prog 3 RV M n D
theorem below_gn {w w' : World} (h : Below w.heap.size w w') (row : Option Nat) : w.grownBy w' row := ⟨h.os, h.tape, h.output, h.size, fun k hk _ => h.block k hk⟩
theorem key_of {k : Int} (h : (Lit.int .i64 k).wf = true) : keyOf Try.prog 3 (.int .i64 k) = some (.int .i64 k) := keyOf_int_mk Try.underlying3 h
/-- a map of the call's own: true at the keys of a list, false at all others -/
def MapB (w : World) (M n : Nat) (ks : List Int) : Prop := ∃ D, OwnV w M n D ∧ ∀ k : Int, D.atKey (.int .i64 k) (.held (.bool false)) = .held (.bool (decide (k ∈ ks)))
theorem MapB.new (w : World) : MapB (w.alloc (.map #[] 0)) w.heap.size 0 [] := ⟨_, World.ownsMap_made w Try.prog 3 RV, fun k => rfl⟩
theorem MapB.below {w w' : World} {M n : Nat} {ks : List Int} (h : MapB w M n ks) (hb : Below w.heap.size w w') : MapB w' M n ks := by
  obtain ⟨D, h, hF⟩ := h
  exact ⟨D, h.kept (row := none) (below_gn hb _) (by simp), hF⟩
set_option maxRecDepth 100000 in
theorem MapB.run {w : World} {M n : Nat} {ks : List Int} (h : MapB w M n ks) (k : Int) (hk : (Lit.int .i64 k).wf = true) :
    (Instr.lookup 143 (.map (some M)) (.int .i64 k) false).run Try.prog w = .ok (.bool (decide (k ∈ ks))) w := by
  obtain ⟨D, hown, hF⟩ := h
  obtain ⟨v, ps, hrun, hv⟩ := World.ownsMap.lookup (zd := .held (.bool false)) (zp := []) hown keyInt Try.underlying143 (zeroB w) rfl (key_of hk)
  rw [hF k] at hv
  injection hv with hv
  injection hv with hv _
  injection hv with hv
  subst hv
  exact hrun
theorem MapB.put {w w' : World} {M n : Nat} {ks : List Int} {D : DataW Value} (hD : OwnV w M n D) (hF : ∀ k : Int, D.atKey (.int .i64 k) (.held (.bool false)) = .held (.bool (decide (k ∈ ks)))) (k : Int) (h' : OwnV w' M (n + 1) (D.put (.int .i64 k) (.held (.bool true)))) : MapB w' M (n + 1) (ks ++ [k]) := by
  refine ⟨_, h', fun i => ?_⟩
  by_cases e : i = k
  · subst e
    rw [Maps.atKey_put_same (World.ownsMap.isMap hD) (show WideAt.IsKeyLit (.int .i64 i) from trivial)]
    rw [decide_eq_true (show i ∈ ks ++ [i] by simp)]
  · rw [Maps.atKey_put_other (by intro h; injection h with _ h; exact e h), hF i]
    congr 2
    exact decide_eq_decide.2 (by simp [e])
theorem has_keys (cs : List CompV) (k : Int) : decide (k ∈ cs.map (·.kind)) = hasK cs k := by
  unfold hasK isKind
  rw [Bool.eq_iff_iff, decide_eq_true_eq, List.any_eq_true, List.mem_map]
  constructor
  · rintro ⟨c, h1, h2⟩; exact ⟨c, h1, decide_eq_true h2⟩
  · rintro ⟨c, h1, h2⟩; exact ⟨c, h1, of_decide_eq_true h2⟩
theorem match_no {cs : List CompV} {wi wo : List Int} (i : Nat) (hi : i < wi.length) (h : hasK cs wi[i] = false) : matchB cs wi wo = false := by
  unfold matchB
  rw [any_at (p := notK cs) i hi (by unfold notK; rw [h]; rfl)]; rfl
theorem match_no2 {cs : List CompV} {wi wo : List Int} (i : Nat) (hi : i < wo.length) (h : hasK cs wo[i] = true) : matchB cs wi wo = false := by
  unfold matchB
  rw [any_at (p := hasK cs) i hi h]; simp
theorem match_yes {cs : List CompV} {wi wo : List Int} (h1 : ∀ i (h : i < wi.length), hasK cs wi[i] = true) (h2 : ∀ i (h : i < wo.length), hasK cs wo[i] = false) : matchB cs wi wo = true := by
  unfold matchB
  rw [any_no (p := notK cs) (fun j hj => by unfold notK; rw [h1 j hj]; rfl), any_no (p := hasK cs) h2]; rfl

set_option maxRecDepth 100000 in
set_option maxHeartbeats 8000000 in
theorem r_Fits (n gn : Int) (cs : List CompV) (a ai ao : Option Addr) (m c ni ci no co : Nat) (wi wo : List Int) (hm : cs.length = m) (hni : wi.length = ni) (hno : wo.length = no) (h1 : m ≤ 1048576) (h2 : ni ≤ 17592186044000) (h3 : no ≤ 17592186044000)
    (hwc : ∀ c ∈ cs, (Lit.int .i64 c.kind).wf = true) (hwi : ∀ k ∈ wi, (Lit.int .i64 k).wf = true) (hwo : ∀ k ∈ wo, (Lit.int .i64 k).wf = true) (W : World) (hz : SlAt 2 CompAt W a cs) (hzi : IntsAt .i64 W ai wi) (hzo : IntsAt .i64 W ao wo) :
    Calls Try.prog 49 #[.agg #[.int .i64 n, .int .i64 gn, .slice a m c], .slice ai ni ci, .slice ao no co] W fun e w' => e = .returned (.bool (matchB cs wi wo)) ∧ Below W.heap.size W w' := by
  have hb0 := (Below.refl W.heap.size W).alloc (Nat.le_refl _) (.cells #[.int .i64 n, .int .i64 gn, .slice a m c] 80)
  have hb1 := hb0.alloc (by simp) (.map #[] 0)
  have HM := Lib.hid hm
  have HNI := Lib.hid hni
  have HNO := Lib.hid hno
  have HZ := Lib.hid hz
  have HZI := Lib.hid hzi
  have HZO := Lib.hid hzo
  have HWC := Lib.hid hwc
  have HWI := Lib.hid hwi
  have HWO := Lib.hid hwo
  have hmb := MapB.new (W.alloc (.cells #[.int .i64 n, .int .i64 gn, .slice a m c] 80))
  rw [World.size_alloc] at hmb
  obtain ⟨R, hR⟩ : ∃ R, R = matchB cs wi wo := ⟨_, rfl⟩
  rw [← hR]
  have HR := Lib.hid hR
  have HB1 := Lib.hid hb1
  have HMB := Lib.hid hmb
  have hmk := @run_makeMap Try.prog
  clear hb0 hb1 hm hni hno hz hzi hzo hwc hwi hwo hmb hR
  go_enter Try.func49, Try.ntmps49
  go_wp2_with fail
  obtain ⟨W1, hW1⟩ : ∃ W1, W1 = (W.alloc (.cells #[.int .i64 n, .int .i64 gn, .slice a m c] 80)).alloc (.map #[] 0) := ⟨_, rfl⟩
  rw [← hW1] at HB1 HMB ⊢
  clear hW1 hmk
  go_loopg [18] m (fun gk vi wx => ∃ i : Nat, i ≤ m ∧ gk = m - i ∧ vi = .int .i64 i ∧ Hid (MapB wx (W.heap.size + 1) i ((cs.take i).map (·.kind))) ∧ Hid (Below W.heap.size W wx))
  case atStart => exact ⟨0, Nat.zero_le _, rfl, rfl, HMB, HB1⟩
  case round =>
    clear HMB HB1
    obtain ⟨i, hi, g2, rfl, HMB, HB⟩ := hrel
    have G2 := Lib.hid g2
    clear g2
    by_cases hlt : i < m
    · obtain ⟨x, rfl, hx, hix⟩ := (HZ.out.below CompAt.abides HB.out) (by rw [HM.out]; omega)
      obtain ⟨c0, ac, cc, c1, _⟩ := hix i (by rw [HM.out]; exact hlt)
      obtain ⟨y, hy⟩ : ∃ y, y = cs[i]'(by rw [HM.out]; exact hlt) := ⟨_, rfl⟩
      rw [← hy] at c0 c1
      have hwy : (Lit.int .i64 y.kind).wf = true := HWC.out y (by rw [hy]; exact List.getElem_mem _)
      have hst : (cs.take i).map (·.kind) ++ [y.kind] = (cs.take (i + 1)).map (·.kind) := by
        rw [List.take_succ_eq_append_getElem (by rw [HM.out]; exact hlt), List.map_append, hy]; rfl
      have HST := Lib.hid hst
      obtain ⟨nv, hnv⟩ : ∃ nv, nv = y.vals.length := ⟨_, rfl⟩
      rw [← hnv] at c1
      have HMB2 := Lib.hid (HMB.out.below ((Below.refl _ _).alloc (Nat.le_refl _) (.cells #[.int .i64 y.kind, .slice ac nv cc] 84)))
      have HB2 := Lib.hid (HB.out.trans ((Below.refl _ _).alloc HB.out.size (.cells #[.int .i64 y.kind, .slice ac nv cc] 84)))
      obtain ⟨D, hown, hF⟩ := HMB2.out
      have HF := Lib.hid hF
      have HOWN := Lib.hid hown
      have hkey := key_of hwy
      have i1 : (0 : Int) ≤ (i : Int) := by omega
      have i2 : (i : Int) < (m : Int) := by omega
      clear hix hy hst hwy hF hnv HMB
      go_wp2_with (at_mapUpdate; go_must (refine wpList_mapUpdate_own _ rfl _ _ _ 143 rfl 3 4 keyInt Try.underlying143 RV (W.heap.size + 1) i D rfl hown (by have : maxLen = 9223372036854775807 := rfl; omega) (.int .i64 y.kind) _ (.int .i64 y.kind) rfl rfl hkey (.held _) [] rfl ?_); intro w9 hown9 hg9)
      have HMB3 := Lib.hid (MapB.put HOWN.out HF.out y.kind hown9)
      rw [HST.out] at HMB3
      have hlM : W.heap.size ≤ W.heap.size + 1 := by omega
      have HB3 := Lib.hid (HB2.out.grown hg9 HB2.out.size (fun k hk => by injection hk with hk; omega))
      clear hown hown9 hg9 HF HOWN hkey
      go_wp2_with fail
      go_roundg (m - (i + 1))
      case measure => rw [G2.out]; omega
      case rel => exact ⟨i + 1, hlt, rfl, by go_num, HMB3, HB3⟩
    · have hi2 : i = m := by omega
      have ht : (cs.take i).map (·.kind) = cs.map (·.kind) := by rw [List.take_of_length_le (by rw [HM.out]; omega)]
      rw [ht] at HMB
      clear ht hi2
      go_wp2_with fail
      obtain ⟨w2, hw2⟩ : ∃ w2, w2 = wr := ⟨_, rfl⟩
      rw [← hw2] at HMB HB ⊢
      clear hw2
      go_loop [11, 28] (fun _ vi => ∃ k : Nat, k ≤ ni ∧ vi = .int .i64 k ∧ Hid (∀ j (h : j < wi.length), j < k → hasK cs wi[j] = true)) (fun _ vi => ni - (intOf vi).toNat)
      case atStart => exact ⟨0, Nat.zero_le _, rfl, Lib.hid (fun j h h2 => absurd h2 (by omega))⟩
      case round =>
        obtain ⟨k, hk, rfl, HALL⟩ := hrel
        by_cases hlt : k < ni
        · obtain ⟨x, rfl, hx, hc⟩ := (HZI.out.below HB.out) (by rw [HNI.out]; omega)
          have c0 := hc k (by rw [HNI.out]; exact hlt)
          obtain ⟨y, hy⟩ : ∃ y, y = wi.getD k 0 := ⟨_, rfl⟩
          rw [← hy] at c0
          have HY := Lib.hid (hy.trans (getD_get wi k (by rw [HNI.out]; exact hlt)))
          have hrun := HMB.out.run y (by rw [HY.out]; exact HWI.out _ (List.getElem_mem _))
          rw [has_keys] at hrun
          obtain ⟨r, hr⟩ : ∃ r, r = hasK cs y := ⟨_, rfl⟩
          rw [← hr] at hrun
          rw [HY.out] at hr
          have HRR := Lib.hid hr
          clear hc hy hr
          cases r
          · have HF := Lib.hid (HR.out.trans (match_no (wo := wo) k (by rw [HNI.out]; exact hlt) HRR.out.symm))
            go_wp2_with fail
            go_ret
            exact ⟨by rw [HF.out]; rfl, HB.out⟩
          · go_wp2_with fail
            go_round
            case rel => exact ⟨k + 1, hlt, by go_num, Lib.hid (fun j h h2 => by
              by_cases hj : j < k
              · exact HALL.out j h hj
              · obtain rfl : j = k := by omega
                exact HRR.out.symm)⟩
            case measure => simp [intOf]; omega
        · have HA := Lib.hid (show ∀ j (h : j < wi.length), hasK cs wi[j] = true from fun j h => HALL.out j h (by rw [HNI.out] at h; omega))
          go_wp2_with fail
          go_loop [13, 39] (fun _ vi => ∃ k : Nat, k ≤ no ∧ vi = .int .i64 k ∧ Hid (∀ j (h : j < wo.length), j < k → hasK cs wo[j] = false)) (fun _ vi => no - (intOf vi).toNat)
          case atStart => exact ⟨0, Nat.zero_le _, rfl, Lib.hid (fun j h h2 => absurd h2 (by omega))⟩
          case round =>
            clear HALL
            obtain ⟨k, hk, rfl, HALL⟩ := hrel
            by_cases hlt : k < no
            · obtain ⟨x, rfl, hx, hc⟩ := (HZO.out.below HB.out) (by rw [HNO.out]; omega)
              have c0 := hc k (by rw [HNO.out]; exact hlt)
              obtain ⟨y, hy⟩ : ∃ y, y = wo.getD k 0 := ⟨_, rfl⟩
              rw [← hy] at c0
              have HY := Lib.hid (hy.trans (getD_get wo k (by rw [HNO.out]; exact hlt)))
              have hrun := HMB.out.run y (by rw [HY.out]; exact HWO.out _ (List.getElem_mem _))
              rw [has_keys] at hrun
              obtain ⟨r, hr⟩ : ∃ r, r = hasK cs y := ⟨_, rfl⟩
              rw [← hr] at hrun
              rw [HY.out] at hr
              have HRR := Lib.hid hr
              clear hc hy hr
              cases r
              · go_wp2_with fail
                go_round
                case rel => exact ⟨k + 1, hlt, by go_num, Lib.hid (fun j h h2 => by
                  by_cases hj : j < k
                  · exact HALL.out j h hj
                  · obtain rfl : j = k := by omega
                    exact HRR.out.symm)⟩
                case measure => simp [intOf]; omega
              · have HF := Lib.hid (HR.out.trans (match_no2 (wi := wi) k (by rw [HNO.out]; exact hlt) HRR.out.symm))
                go_wp2_with fail
                go_ret
                exact ⟨by rw [HF.out]; rfl, HB.out⟩
            · have HF := Lib.hid (HR.out.trans (match_yes HA.out (fun j h => HALL.out j h (by rw [HNO.out] at h; omega))))
              go_wp2_with fail
              go_ret
              exact ⟨by rw [HF.out]; rfl, HB.out⟩
end Go.Proofs.Ytlahmcbaiebapaa
