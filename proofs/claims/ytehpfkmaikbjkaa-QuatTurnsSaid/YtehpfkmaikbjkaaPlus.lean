/- The reference's sum of natural numbers. -/
import Derived.Test.YtehpfkmaikbjkaaNatW
import Derived.Test.YtehpfkmaikbjkaaPlusP
import Derived.Lib.MinMax
namespace Go.Proofs.Ytehpfkmaikbjkaa
open Go.ChangeShapes Go.WideShapes Go.ChangeAt Go.RowKit Go.Mem Go.Nb
set_option linter.unusedVariables false
theorem getD_far (l : List Int) (k : Nat) (h : l.length ≤ k) : l.getD k 0 = 0 := by rw [List.getD_eq_getElem?_getD, List.getElem?_eq_none h]; rfl
set_option maxHeartbeats 4000000 in
theorem ref_plus (ao bo : Option Addr) (n ca m cb : Nat) (x y : Int) (w : World) (hx : NatS w ao n x) (hy : NatS w bo m y) (hca : n ≤ ca) (hcb : m ≤ cb) (hn : n ≤ 1000) (hm : m ≤ 1000) :
    Calls Try.prog 71 #[.slice ao n ca, .slice bo m cb] w fun e w' => ∃ co len cap, e = .returned (.slice co len cap) ∧ len ≤ cap ∧ NatS w' co len (x + y) ∧ Below w.heap.size w w' := by
  obtain ⟨zs, hzl, hzv, hzd, hzn, hzr⟩ := hx
  obtain ⟨ys, hyl, hyv, hyd, hyn, hyr⟩ := hy
  have hzc : ∀ j, j < n → ∃ g, ao = some ⟨g, 0, none⟩ ∧ w.cell? ⟨g, j, none⟩ = some (.int .i64 (zs.getD j 0)) ∧ g < w.heap.size := fun j hj => by
    obtain ⟨g, h1, h2, h3⟩ := hzr.at (by omega); exact ⟨g, h1, h3 j (by omega), h2⟩
  have hyc : ∀ j, j < m → ∃ g, bo = some ⟨g, 0, none⟩ ∧ w.cell? ⟨g, j, none⟩ = some (.int .i64 (ys.getD j 0)) ∧ g < w.heap.size := fun j hj => by
    obtain ⟨g, h1, h2, h3⟩ := hyr.at (by omega); exact ⟨g, h1, h3 j (by omega), h2⟩
  have ZC := Lib.hid hzc
  have YC := Lib.hid hyc
  have HL := Lib.hid (And.intro hzl hyl)
  have HV := Lib.hid (And.intro hzv hyv)
  have HD := Lib.hid (And.intro hzd hyd)
  obtain ⟨M, hM⟩ : ∃ M, M = max n m := ⟨_, rfl⟩
  have hmx : max (n : Int) (m : Int) = (M : Int) := by omega
  have hM1 : n ≤ M := by omega
  have hM2 : m ≤ M := by omega
  have hM3 : M ≤ 1000 := by omega
  have HMD := Lib.hid hM
  clear hM hzc hyc hzl hyl hzv hyv hzd hyd hzn hyn hzr hyr
  obtain ⟨i0, hi, hz0, hz1, hz2⟩ := info_parts (show (Try.prog.info? 3).map (fun i => (i.zero, i.size, i.bytes)) = some (some (.int .i64 0), 1, 8) by kernel_rfl)
  go_enter Try.func71, Try.ntmps71
  go_wp2_with (at_make; go_must (refine wpList_make_full _ rfl _ _ 77 rfl w.heap.size 3 i0 (.int .i64 0) 1 Try.underlying77 hi hz0 hz1 _ _ _ _ (M + 1) rfl rfl (by omega) (by omega) ?b1 ?b2 ?b3 ?_))
  case b1 => rw [hz2]; omega
  case b2 => unfold maxLen; omega
  case b3 => omega
  intro w1 hown hgr
  rw [toList_madeCells_one, ints_replicate] at hown
  have hb1 : Below w.heap.size w w1 := (Below.refl _ _).grown hgr (Nat.le_refl _) (fun k hk => by cases hk)
  clear hgr hi hz0 hz1 hz2 hmx
  go_wp2
  go_loopw [17] (fun i wr => ∃ (k : Nat) (out : List Int), k ≤ M + 1 ∧ i = .int .i64 k ∧ out.length = M + 1 ∧ Digs out ∧ out.getD k 0 ≤ 1 ∧ (∀ j, k < j → out.getD j 0 = 0) ∧ nval out = nval (zs.take k) + nval (ys.take k) ∧
      wr.ownsRow w.heap.size 3 1 (.slice (some ⟨w.heap.size, 0, none⟩) (M + 1) (M + 1)) (M + 1) (ints out) ∧ Below w.heap.size w wr)
    (fun i _ => M + 1 - (intOf i).toNat)
  case atStart => exact ⟨0, List.replicate (M + 1) 0, by omega, rfl, by simp, Digs.replicate _, by simp [List.getD_eq_getElem?_getD], fun j _ => by simp [List.getD_eq_getElem?_getD, List.getElem?_replicate]; split <;> rfl, by rw [nval_replicate]; simp [nval], hown, hb1⟩
  case round =>
    clear hown hb1
    obtain ⟨k, out, hk, rfl, hlen, hod, h1, hzero, hval, hown, hb⟩ := hrel
    by_cases hlt : k < M + 1
    · obtain ⟨e, he⟩ : ∃ e, e = out.getD k 0 := ⟨_, rfl⟩
      obtain ⟨d, hd⟩ : ∃ d, d = zs.getD k 0 := ⟨_, rfl⟩
      obtain ⟨f, hf⟩ : ∃ f, f = ys.getD k 0 := ⟨_, rfl⟩
      obtain ⟨t, ht⟩ : ∃ t, t = e + d + f := ⟨_, rfl⟩
      have e1 := (hown.cellAt k (by omega)).trans (ints_get out k (by omega))
      have e2 := hown.frozenAt k
      obtain ⟨s1, s2, s3, s4⟩ := plus_step out zs ys k t (by omega) hod HD.out.1 HD.out.2 h1 hzero hval (by rw [ht, he, hd, hf]) (fun h => ⟨getD_far _ _ (by have := HL.out; omega), getD_far _ _ (by have := HL.out; omega)⟩)
      have hst := (hown.stored k (.int .i64 (t % 32768)))
      rw [ints_set] at hst
      have hst2 := hst.1.stored (k + 1) (.int .i64 1)
      rw [ints_set] at hst2
      have eb := hod.getD k
      have db := HD.out.1.getD k
      have fb := HD.out.2.getD k
      rw [← he] at e1 eb
      rw [← hd] at db
      rw [← hf] at fb
      have hdz : n ≤ k → d = 0 := fun h => by rw [hd]; exact getD_far _ _ (by have := HL.out; omega)
      have hfz : m ≤ k → f = 0 := fun h => by rw [hf]; exact getD_far _ _ (by have := HL.out; omega)
      have S3 := Lib.hid s3
      have S4 := Lib.hid s4
      have HST := Lib.hid hst
      have HST2 := Lib.hid hst2
      have HDD := Lib.hid hd
      have HFF := Lib.hid hf
      have HT := Lib.hid ht
      have HLN := Lib.hid hlen
      have HDZ := Lib.hid hdz
      have HFZ := Lib.hid hfz
      have HOWN := Lib.hid hown
      clear he hd hf ht s3 s4 hst hst2 hlen hod h1 hzero hval hown hdz hfz
      by_cases hkn : k < n
      · by_cases hkm : k < m
        · obtain ⟨g, hg1, c1, hg⟩ := ZC.out k hkn
          obtain rfl := hg1
          have c2 := (hb.cell hg).trans c1
          rw [← HDD.out] at c2
          clear c1
          obtain ⟨h, hh1, c3, hh⟩ := YC.out k hkm
          obtain rfl := hh1
          have c4 := (hb.cell hh).trans c3
          rw [← HFF.out] at c4
          clear c3
          have ht : e + d + f = t := by have := HT.out; omega
          by_cases hc : t < 32768
          · have Q := Lib.hid (S3.out hc)
            have hc2 : ¬ 32768 ≤ t := by omega
            go_wp2
            go_roundw
            case rel => exact ⟨k + 1, out.set k (t % 32768), by omega, by go_num, by rw [List.length_set]; exact HLN.out, Q.out.1, Q.out.2.1, Q.out.2.2.1, Q.out.2.2.2, HST.out.1, hb.setCell (by simp) _⟩
            case measure => simp [intOf] <;> omega
          · have Q := Lib.hid (S4.out (by omega))
            have hc2 : 32768 ≤ t := by omega
            have hk1 := Q.out.1
            rw [HLN.out] at hk1
            have e3 := (HST.out.1.cellAt (k + 1) (by omega)).trans (ints_get _ (k + 1) (by rw [List.length_set, HLN.out]; exact hk1))
            rw [Q.out.2.1] at e3
            have e4 := HST.out.1.frozenAt (k + 1)
            have e5 := HOWN.out.cellAt (k + 1) (by omega)
            obtain ⟨v5, hv5⟩ : ∃ v5, wr.cell? ⟨w.heap.size, k + 1, none⟩ = some v5 := ⟨_, e5.trans (ints_get _ (k + 1) (by rw [HLN.out]; exact hk1))⟩
            have e6 := HOWN.out.frozenAt (k + 1)
            clear e5
            go_wp2
            go_roundw
            case rel => exact ⟨k + 1, (out.set k (t % 32768)).set (k + 1) 1, by omega, by go_num, by rw [List.length_set, List.length_set]; exact HLN.out, Q.out.2.2.1, Q.out.2.2.2.1, Q.out.2.2.2.2.1, Q.out.2.2.2.2.2, HST2.out.1, (hb.setCell (by simp) _).setCell (by simp) _⟩
            case measure => simp [intOf] <;> omega
        · obtain ⟨g, hg1, c1, hg⟩ := ZC.out k hkn
          obtain rfl := hg1
          have c2 := (hb.cell hg).trans c1
          rw [← HDD.out] at c2
          clear c1
          have ht : e + d = t := by have := HT.out; have := HFZ.out (by omega); omega
          by_cases hc : t < 32768
          · have Q := Lib.hid (S3.out hc)
            have hc2 : ¬ 32768 ≤ t := by omega
            go_wp2
            go_roundw
            case rel => exact ⟨k + 1, out.set k (t % 32768), by omega, by go_num, by rw [List.length_set]; exact HLN.out, Q.out.1, Q.out.2.1, Q.out.2.2.1, Q.out.2.2.2, HST.out.1, hb.setCell (by simp) _⟩
            case measure => simp [intOf] <;> omega
          · have Q := Lib.hid (S4.out (by omega))
            have hc2 : 32768 ≤ t := by omega
            have hk1 := Q.out.1
            rw [HLN.out] at hk1
            have e3 := (HST.out.1.cellAt (k + 1) (by omega)).trans (ints_get _ (k + 1) (by rw [List.length_set, HLN.out]; exact hk1))
            rw [Q.out.2.1] at e3
            have e4 := HST.out.1.frozenAt (k + 1)
            have e5 := HOWN.out.cellAt (k + 1) (by omega)
            obtain ⟨v5, hv5⟩ : ∃ v5, wr.cell? ⟨w.heap.size, k + 1, none⟩ = some v5 := ⟨_, e5.trans (ints_get _ (k + 1) (by rw [HLN.out]; exact hk1))⟩
            have e6 := HOWN.out.frozenAt (k + 1)
            clear e5
            go_wp2
            go_roundw
            case rel => exact ⟨k + 1, (out.set k (t % 32768)).set (k + 1) 1, by omega, by go_num, by rw [List.length_set, List.length_set]; exact HLN.out, Q.out.2.2.1, Q.out.2.2.2.1, Q.out.2.2.2.2.1, Q.out.2.2.2.2.2, HST2.out.1, (hb.setCell (by simp) _).setCell (by simp) _⟩
            case measure => simp [intOf] <;> omega
      · by_cases hkm : k < m
        · obtain ⟨h, hh1, c3, hh⟩ := YC.out k hkm
          obtain rfl := hh1
          have c4 := (hb.cell hh).trans c3
          rw [← HFF.out] at c4
          clear c3
          have ht : e + f = t := by have := HT.out; have := HDZ.out (by omega); omega
          by_cases hc : t < 32768
          · have Q := Lib.hid (S3.out hc)
            have hc2 : ¬ 32768 ≤ t := by omega
            go_wp2
            go_roundw
            case rel => exact ⟨k + 1, out.set k (t % 32768), by omega, by go_num, by rw [List.length_set]; exact HLN.out, Q.out.1, Q.out.2.1, Q.out.2.2.1, Q.out.2.2.2, HST.out.1, hb.setCell (by simp) _⟩
            case measure => simp [intOf] <;> omega
          · have Q := Lib.hid (S4.out (by omega))
            have hc2 : 32768 ≤ t := by omega
            have hk1 := Q.out.1
            rw [HLN.out] at hk1
            have e3 := (HST.out.1.cellAt (k + 1) (by omega)).trans (ints_get _ (k + 1) (by rw [List.length_set, HLN.out]; exact hk1))
            rw [Q.out.2.1] at e3
            have e4 := HST.out.1.frozenAt (k + 1)
            have e5 := HOWN.out.cellAt (k + 1) (by omega)
            obtain ⟨v5, hv5⟩ : ∃ v5, wr.cell? ⟨w.heap.size, k + 1, none⟩ = some v5 := ⟨_, e5.trans (ints_get _ (k + 1) (by rw [HLN.out]; exact hk1))⟩
            have e6 := HOWN.out.frozenAt (k + 1)
            clear e5
            go_wp2
            go_roundw
            case rel => exact ⟨k + 1, (out.set k (t % 32768)).set (k + 1) 1, by omega, by go_num, by rw [List.length_set, List.length_set]; exact HLN.out, Q.out.2.2.1, Q.out.2.2.2.1, Q.out.2.2.2.2.1, Q.out.2.2.2.2.2, HST2.out.1, (hb.setCell (by simp) _).setCell (by simp) _⟩
            case measure => simp [intOf] <;> omega
        · have ht : e = t := by have := HT.out; have := HDZ.out (by omega); have := HFZ.out (by omega); omega
          subst ht
          by_cases hc : e < 32768
          · have Q := Lib.hid (S3.out hc)
            have hc2 : ¬ 32768 ≤ e := by omega
            go_wp2
            go_roundw
            case rel => exact ⟨k + 1, out.set k (e % 32768), by omega, by go_num, by rw [List.length_set]; exact HLN.out, Q.out.1, Q.out.2.1, Q.out.2.2.1, Q.out.2.2.2, HST.out.1, hb.setCell (by simp) _⟩
            case measure => simp [intOf] <;> omega
          · exact absurd eb.2 (by omega)
    · obtain rfl : k = M + 1 := by omega
      have htm : zs.take (M + 1) = zs := List.take_of_length_le (by have := HL.out; omega)
      have htn : ys.take (M + 1) = ys := List.take_of_length_le (by have := HL.out; omega)
      rw [htm, htn, HV.out.1, HV.out.2] at hval
      have HVV := Lib.hid hval
      have HRZ := Lib.hid (own_RowZ hown hlen.symm)
      have HOD := Lib.hid hod
      have HLN := Lib.hid hlen
      clear htm htn hval hod hlen hzero hown h1
      go_wp2_with (go_at_call 93; refine (ref_cut _ _ _ out HLN.out (Nat.le_refl _) (by unfold maxLen; omega) _ HRZ.out HOD.out).mono ?_; rintro e w2 ⟨len, rfl, hlc, hns, rfl⟩; rw [HVV.out] at hns)
      go_ret
      exact ⟨_, _, _, rfl, hlc, hns, hb⟩
end Go.Proofs.Ytehpfkmaikbjkaa
