/- slices.symMergeCmpFunc at integers: the second run has one element. -/
import Derived.Test.YtlahmcbaiebapaaStabM
namespace Go.Proofs.Ytlahmcbaiebapaa
open Go.ChangeShapes Go.WideShapes Go.ChangeAt Go.RowKit Go.Mem Go.Sb
set_option linter.unusedVariables false
set_option maxRecDepth 100000 in
set_option maxHeartbeats 8000000 in
theorem sym_right (fid : Nat) (caps : Array Value) (K : Int → Int) (n g : Nat) (W0 : World) (hc : CmpOk fid caps K n g W0) (he : ∀ args w, (callFunc fid args).run Try.prog w = .ok (.enter fid args) w) (D P A B S : List Int) (a m b N c : Nat) (hR : Runs K D P A B S a m b) (hA : 2 ≤ A.length) (hB : B.length = 1) (hN : D.length = N) (h1 : N ≤ 1048576)
    (hr : InR n (A ++ B)) (w : World) (hs : StS g W0 w D) :
    Calls Try.prog 122 #[.slice (some ⟨g, 0, none⟩) N c, .int .i64 (a : Int), .int .i64 (m : Int), .int .i64 (b : Int), .func (.func fid) #[] caps] w (MPost K g W0 P A B S) := by
  have hmA : a + A.length = m := hR.hm
  have hbm : b = m + 1 := by have := hR.hb; omega
  have hbN : b ≤ N := by have := hR.len; omega
  obtain ⟨y, hy⟩ : ∃ y, y = D.getD m 0 := ⟨_, rfl⟩
  have hBy : B = [y] := by
    have h2 := hR.right (c := m) (Nat.le_refl _) (by omega)
    rw [Nat.sub_self] at h2
    match B, hB with
    | [z], _ => rw [hy, h2]; rfl
  have e0 : ((m : Int) - (a : Int) == 1) = false := by rw [beq_eq_false_iff_ne]; omega
  have e00 : (b : Int) - (m : Int) = 1 := by omega
  have hyr := runs_in hR hr (show a ≤ m by omega) (by omega)
  rw [← hy] at hyr
  have HC := Lib.hid hc
  have HR := Lib.hid hR
  have HIN := Lib.hid hr
  have HN := Lib.hid hN
  have HS := Lib.hid hs
  have HY := Lib.hid hy
  have HYR := Lib.hid hyr
  have HBY := Lib.hid hBy
  have hma1 : a < m := by omega
  have hmN : m + 1 ≤ N := by omega
  have HMB := Lib.hid hbm
  have HMA := Lib.hid hmA
  clear hc hR hr hN hs hy hyr hBy hbm hB hmA hA
  go_enter Try.func122, Try.ntmps122
  go_wp2_with fail
  go_loopg [14, 15, 16] (m - a) (fun gk vi vj _ wx => ∃ (i j : Nat), gk = j - i ∧ vi = .int .i64 i ∧ vj = .int .i64 j ∧ a ≤ i ∧ i ≤ j ∧ j ≤ m ∧ (∀ d, a ≤ d → d < i → ¬ K y < K (D.getD d 0)) ∧ (∀ d, j ≤ d → d < m → K y < K (D.getD d 0)) ∧ StS g W0 wx D)
  case atStart => exact ⟨a, m, rfl, rfl, rfl, Nat.le_refl _, by omega, Nat.le_refl _, fun d h2 h3 => by omega, fun d h2 h3 => by omega, HS.out⟩
  case round =>
    clear HS
    obtain ⟨i, j, g2, rfl, rfl, hi, hij, hj, hlo, hhi, hst⟩ := hrel
    have G2 := Lib.hid g2
    have HLO := Lib.hid hlo
    have HHI := Lib.hid hhi
    have HS := Lib.hid hst
    clear g2 hlo hhi hst
    by_cases hlt : i < j
    · obtain ⟨s, h, f1, f2, f3, f4, f5⟩ := half_facts i j (by omega)
      have hh1 : i ≤ h := by omega
      have hh2 : h < j := by omega
      have HH := Lib.hid f5
      obtain ⟨x, hx⟩ : ∃ x, x = D.getD h 0 := ⟨_, rfl⟩
      have cy := HS.out.1.cell m (by rw [HN.out]; omega)
      have cx := HS.out.1.cell h (by rw [HN.out]; omega)
      rw [← HY.out] at cy
      rw [← hx] at cx
      have HC2 := Lib.hid (show Cells2 g W0 D m h y x wr from ⟨HS.out, cy, cx⟩)
      have hxr : 0 ≤ x ∧ x < (n : Int) := by rw [hx]; exact runs_in HR.out HIN.out (by omega) (by have := HMB.out; omega)
      obtain ⟨q, hq⟩ : ∃ q, q = cmN K y x := ⟨_, rfl⟩
      have CC := fun w1 (hw : Cells2 g W0 D m h y x w1) => HC.out.call y x w1 HYR.out hxr hw.st.2
      rw [← hq] at CC
      have HCC := Lib.hid CC
      have HQ := Lib.hid (show q < 0 ↔ K y < K x by rw [hq]; exact cmN_lt K y x)
      have HX := Lib.hid hx
      have a0 : (0 : Int) ≤ (m : Int) := by omega
      have a1 : (m : Int) < (N : Int) := by omega
      have b0 : (0 : Int) ≤ (h : Int) := by omega
      have b1 : (h : Int) < (N : Int) := by omega
      clear f5 hx hxr hq CC
      by_cases hcq : q < 0
      · have tq : decide (q < 0) = true := decide_eq_true hcq
        have HK := Lib.hid (show ∀ d, h ≤ d → d < m → K y < K (D.getD d 0) from fun d h2 h3 => by
          have h4 := HQ.out.1 hcq
          rw [HX.out] at h4
          by_cases e : d = h
          · rw [e]; exact h4
          · have := key_mono (HR.out.mono_l (c := h) (d := d) (by omega) (by omega) h3)
            omega)
        go_wp2_with fail
        go_region_held3 (fun w' => w'.cell? ⟨g, m, none⟩ = some (.int .i64 y) ∧ w'.cell? ⟨g, h, none⟩ = some (.int .i64 x) ∧ Cells2 g W0 D m h y x w')
          (first | exact ⟨HC2.out.cx, HC2.out.cy, HC2.out.below (Below.refl _ _).drew⟩ | assumption | exact keep_c2 (by assumption) (by assumption))
          ((refine (HCC.out _ (And.right (And.right (by assumption)))).mono ?_; rintro e w8 ⟨rfl, hb8⟩))
        rename_i hHeld
        have HS2 := Lib.hid hHeld.2.2.st
        clear hHeld hb8 cx cy HC2 HCC
        go_wp2_with fail
        go_roundg (h - i)
        case measure => rw [G2.out]; omega
        case rel => exact ⟨i, h, rfl, rfl, rfl, hi, hh1, by omega, HLO.out, HK.out, HS2.out⟩
      · have tq : decide (q < 0) = false := decide_eq_false hcq
        have HK := Lib.hid (show ∀ d, a ≤ d → d < h + 1 → ¬ K y < K (D.getD d 0) from fun d h2 h3 => by
          have h4 : ¬ K y < K x := fun h5 => hcq (HQ.out.2 h5)
          rw [HX.out] at h4
          by_cases e : d = h
          · rw [e]; exact h4
          · have := key_mono (HR.out.mono_l (c := d) (d := h) h2 (by omega) (by omega))
            omega)
        go_wp2_with fail
        go_region_held3 (fun w' => w'.cell? ⟨g, m, none⟩ = some (.int .i64 y) ∧ w'.cell? ⟨g, h, none⟩ = some (.int .i64 x) ∧ Cells2 g W0 D m h y x w')
          (first | exact ⟨HC2.out.cx, HC2.out.cy, HC2.out.below (Below.refl _ _).drew⟩ | assumption | exact keep_c2 (by assumption) (by assumption))
          ((refine (HCC.out _ (And.right (And.right (by assumption)))).mono ?_; rintro e w8 ⟨rfl, hb8⟩))
        rename_i hHeld
        have HS2 := Lib.hid hHeld.2.2.st
        clear hHeld hb8 cx cy HC2 HCC
        go_wp2_with fail
        go_roundg (j - (h + 1))
        case measure => rw [G2.out]; omega
        case rel => exact ⟨h + 1, j, rfl, by go_num, rfl, by omega, by omega, hj, HK.out, HHI.out, HS2.out⟩
    · obtain rfl : i = j := by omega
      obtain ⟨T, hT⟩ : ∃ T, T = i - a := ⟨_, rfl⟩
      have hTA : T ≤ A.length := by have := HMA.out; omega
      have HMG := Lib.hid (show Merged K A B (A.take T ++ y :: A.drop T) by
        have hsa := HR.out.sa
        rw [← List.take_append_drop T A] at hsa
        have := merged_last (x := y) hsa (fun z hz => by
          obtain ⟨d, d1, d2, d3, rfl⟩ := run_l1 HR.out hz
          have hix := HR.out.ixlt (c := d) (d := m) d1 d3 (Nat.le_refl _) (by have := HMB.out; omega)
          rw [← HY.out] at hix
          exact (lt_left hix).2 (HLO.out d d1 (by omega))) (fun z hz => by
          obtain ⟨d, d1, d2, rfl⟩ := run_l2 HR.out hz
          exact .inl (HHI.out d (by omega) d2))
        rw [List.take_append_drop] at this
        rw [HBY.out]; exact this)
      have HTL := Lib.hid (show (A.drop T).length = m - i by rw [List.length_drop]; have := HMA.out; omega)
      have HEQ := Lib.hid (show D = P ++ A.take T ++ ((A.drop T).take (m - i) ++ y :: (A.drop T).drop (m - i)) ++ S by
        rw [show (A.drop T).take (m - i) = A.drop T from List.take_of_length_le (by rw [HTL.out]; exact Nat.le_refl _), show (A.drop T).drop (m - i) = [] from List.drop_eq_nil_of_le (by rw [HTL.out]; exact Nat.le_refl _), HR.out.eq, HBY.out]
        simp only [List.append_assoc, List.cons_append, List.nil_append]
        rw [← List.append_assoc (List.take T A), List.take_append_drop])
      have HPL := Lib.hid (show (P ++ A.take T).length = i by rw [List.length_append, HR.out.ha, List.length_take]; omega)
      obtain ⟨wo, rfl⟩ : ∃ wo : World, wo = wr := ⟨_, rfl⟩
      clear hT hTA HLO HHI G2
      go_wp2_with fail
      go_loopg [17] (m - i) (fun gk vk wx => ∃ (r k : Nat), gk = r ∧ r ≤ m - i ∧ k = i + r ∧ vk = .int .i64 k ∧ StS g W0 wx (P ++ A.take T ++ ((A.drop T).take r ++ y :: (A.drop T).drop r) ++ S))
      case atStart => exact ⟨m - i, m, rfl, Nat.le_refl _, by omega, rfl, by have := HS.out; rw [HEQ.out] at this; exact this⟩
      case round =>
        clear HS
        obtain ⟨r, k, g3, hrm, hk, rfl, hst⟩ := hrel
        have G3 := Lib.hid g3
        have HS := Lib.hid hst
        have hk1 : k ≤ i + r := by omega
        have hk2 : i + r ≤ k := by omega
        clear g3 hst hk
        rcases r with _ | r
        · have HFIN := Lib.hid (show P ++ A.take T ++ ((A.drop T).take 0 ++ y :: (A.drop T).drop 0) ++ S = P ++ (A.take T ++ y :: A.drop T) ++ S by simp)
          go_wp2_with fail
          go_end0
          exact ⟨_, HMG.out, rfl, by rw [← HFIN.out]; exact HS.out⟩
        · have hTl := HTL.out
          have hdr := drop_at (A := A.drop T) (k := r) (by omega)
          have htk := take_at (A := A.drop T) (k := r) (by omega)
          obtain ⟨z, hz⟩ : ∃ z, z = (A.drop T).getD r 0 := ⟨_, rfl⟩
          rw [← hz] at hdr htk
          have hlen : (P ++ A.take T ++ ((A.drop T).take (r + 1) ++ y :: (A.drop T).drop (r + 1)) ++ S).length = N := by
            have h3 := HN.out
            rw [HEQ.out] at h3
            have h4 : ((A.drop T).take (r + 1)).length + ((A.drop T).drop (r + 1)).length = m - i := by rw [← List.length_append, List.take_append_drop]; exact hTl
            have h5 : ((A.drop T).take (m - i)).length + ((A.drop T).drop (m - i)).length = m - i := by rw [← List.length_append, List.take_append_drop]; exact hTl
            simp only [List.length_append, List.length_cons] at h3 h4 h5 ⊢
            omega
          obtain ⟨kk, hkk⟩ : ∃ kk, kk = i + r := ⟨_, rfl⟩
          obtain ⟨n1, n2, _, n4, n5⟩ := near_swap (D := P ++ A.take T ++ ((A.drop T).take (r + 1) ++ y :: (A.drop T).drop (r + 1)) ++ S) (L := P ++ A.take T ++ (A.drop T).take r) (R := (A.drop T).drop (r + 1) ++ S) (u := z) (v := y) (k := kk) (by rw [htk]; simp) (by rw [List.length_append, HPL.out, List.length_take, hTl]; omega)
          have HNX := Lib.hid (show P ++ A.take T ++ (A.drop T).take r ++ y :: z :: ((A.drop T).drop (r + 1) ++ S) = P ++ A.take T ++ ((A.drop T).take r ++ y :: (A.drop T).drop r) ++ S by rw [hdr]; simp)
          obtain ⟨E, hE⟩ : ∃ E, E = P ++ A.take T ++ ((A.drop T).take (r + 1) ++ y :: (A.drop T).drop (r + 1)) ++ S := ⟨_, rfl⟩
          rw [← hE] at n1 n2 n4 n5 hlen HS
          have hkk1 : k = kk + 1 := by omega
          rw [← hkk1] at n2 n4 n5
          have cz := HS.out.1.cell kk (by omega)
          have cy := HS.out.1.cell k n5
          have fz := HS.out.1.frozen kk
          have fy := HS.out.1.frozen k
          rw [n1] at cz
          rw [n2] at cy
          have HN4 := Lib.hid n4
          rw [hlen] at n5
          have e2 : IntKind.i64.wrap ((k : Int) - 1) = (k : Int) - 1 := by rw [IntKind.wrap_i64]; omega
          have e3 : (0 : Int) ≤ (k : Int) - 1 := by omega
          have e4 : (k : Int) - 1 < (N : Int) := by omega
          have e5 : ((k : Int) - 1).toNat = kk := by omega
          have e6 : (1 : Int) ≤ (k : Int) := by omega
          have e7 : 1 ≤ k := by omega
          have e8 : (k : Int) ≤ (N : Int) := by omega
          have k0 : (0 : Int) ≤ (k : Int) := by omega
          have k1 : (k : Int) < (N : Int) := by omega
          have hne : k ≠ kk := by omega
          have HKK := Lib.hid hkk
          have tk : decide ((i : Int) < (k : Int)) = true := by simp; omega
          clear hdr htk hz n1 n2 n4 hE hlen hTl n5 hkk hkk1
          go_wp2_with fail
          go_region
          have hs2 := ((HS.out.set k z).set kk y).drew
          rw [HN4.out, HNX.out] at hs2
          have HS2 := Lib.hid hs2
          clear hs2
          go_wp2_with fail
          go_roundg r
          case measure => rw [G3.out]; omega
          case rel => exact ⟨r, kk, rfl, by omega, HKK.out, by rw [← e5]; simp; omega, HS2.out⟩
end Go.Proofs.Ytlahmcbaiebapaa
