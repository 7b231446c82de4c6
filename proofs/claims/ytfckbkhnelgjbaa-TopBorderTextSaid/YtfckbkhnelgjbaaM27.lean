/- Lemmas for the law TopBorderText: FixNum, FixText. No conditions. -/
import Derived.Test.YtfckbkhnelgjbaaM26
import Derived.Test.YtfckbkhnelgjbaaM01
import Derived.Test.YtfckbkhnelgjbaaM06
import Derived.Lib.ItoaNum
import Derived.Deep.DeepMust
import Derived.Test.YtfckbkhnelgjbaaM24
import Derived.Laws.BytesString
import Derived.Laws.IdiomStrings
import Derived.Laws.Bits64b
import Derived.Deep.LoopGhost
/- fix.Clamp, the reference's Limit, fix.mag; fix.whole: the digits of a natural number. -/
section
namespace Go.Proofs.Ytfckbkhnelgjbaa
open Go.ChangeShapes Go.WideShapes Go.ChangeAt Go.RowKit Go.Mem
set_option linter.unusedVariables false
theorem fix_magN (a : Int) (h1 : -1099511627776 ≤ a) (h2 : a ≤ 1099511627776) (w : World) : Calls Try.prog 49 #[.int .i64 a] w fun e w' => e = .returned (.int .u64 (a.natAbs : Int)) ∧ w = w' := by
  go_enter Try.func49, Try.ntmps49
  go_wp2
  all_goals
    go_ret
    exact ⟨ret_i (by omega), rfl⟩
/-- the bytes, as numbers -/
def bz (l : List UInt8) : List Int := l.map fun b => (b.toNat : Int)
theorem bz_len (l : List UInt8) : (bz l).length = l.length := by unfold bz; simp
theorem bz_app (a b : List UInt8) : bz (a ++ b) = bz a ++ bz b := by unfold bz; simp
theorem bz_one (b : UInt8) : bz [b] = [(b.toNat : Int)] := rfl
theorem digits_le (n : Nat) : (Lib.decDigits n).length ≤ n + 1 := by
  induction n using Nat.strongRecOn with
  | _ n ih =>
    rw [Lib.decDigits]
    split
    · simp
    · rename_i h
      have := ih (n / 10) (by omega)
      simp only [List.length_append, List.length_singleton]; omega
theorem digits_len (n k : Nat) (hk : 0 < k) (h : n < 10 ^ k) : (Lib.decDigits n).length ≤ k := by
  induction k generalizing n with
  | zero => omega
  | succ k ih =>
    rw [Lib.decDigits]
    split
    · simp
    · rename_i h2
      have hk2 : 0 < k := by
        rcases Nat.eq_zero_or_pos k with rfl | h3
        · simp at h; omega
        · exact h3
      have := ih (n / 10) hk2 (by rw [Nat.pow_succ] at h; omega)
      simp only [List.length_append, List.length_singleton]; omega
/-- bytes of the call's own -/
def OwnB (B : Nat) (v : Value) (l : List UInt8) (w : World) : Prop := w.ownsRow B 5 1 v l.length (vints .u8 (bz l))
theorem OwnB.nil (B : Nat) (w : World) : OwnB B (.slice none 0 0) [] w := World.ownsRow_nil _ _ _ _
set_option maxHeartbeats 4000000 in
set_option maxRecDepth 100000 in
theorem fix_whole (n : Nat) : ∀ (hn : n < 18446744073709551616) (w : World), Calls Try.prog 50 #[.int .u64 n] w fun e w' => ∃ v, e = .returned v ∧ OwnB w.heap.size v (Lib.decDigits n) w' ∧ Below w.heap.size w w' := by
  induction n using Nat.strongRecOn with
  | _ n ih =>
    intro hn w
    have hb : ((UInt8.ofNat (48 + n % 10)).toNat : Int) = 48 + (n : Int) % 10 := by
      rw [UInt8.toNat_ofNat']; omega
    have HB := Lib.hid hb
    have HN := Lib.hid hn
    have m1 : 0 ≤ (n : Int) % 10 := by omega
    have m2 : (n : Int) % 10 < 10 := by omega
    clear hb
    go_enter Try.func50, Try.ntmps50
    by_cases h10 : n < 10
    · have hD := Lib.hid (show Lib.decDigits n = [UInt8.ofNat (48 + n % 10)] by rw [Lib.decDigits, dif_pos h10, Nat.mod_eq_of_lt h10])
      clear ih
      go_wp2_with (at_builtin; go_must (refine wpList_append_new rfl _ _ 105 rfl w.heap.size 5 (.int .u8 0) 1 1 Try.underlying105 (by kernel_rfl) rfl (by decide) _ _ _ rfl (World.ownsRow_nil _ _ _ _) _ _ rfl rfl rfl (by omega) (by decide) (Nat.le_refl _) ?_))
      intro g cap w1 hown hg hor hlt
      go_wp2
      go_ret
      refine ⟨_, rfl, ?_, (Below.refl _ _).grown hg (Nat.le_refl _) (fun r h => by cases h)⟩
      show OwnB _ _ _ _
      rw [hD.out]
      unfold OwnB
      rw [bz_one, HB.out]
      exact hown
    · have hD := Lib.hid (show Lib.decDigits n = Lib.decDigits (n / 10) ++ [UInt8.ofNat (48 + n % 10)] by rw [Lib.decDigits, dif_neg h10])
      have IH := Lib.hid (show ∀ w : World, Calls Try.prog 50 #[.int .u64 ((n : Int) / 10)] w fun e w' => ∃ v, e = .returned v ∧ OwnB w.heap.size v (Lib.decDigits (n / 10)) w' ∧ Below w.heap.size w w' from fun w => by
        rw [show (n : Int) / 10 = ((n / 10 : Nat) : Int) by omega]
        exact ih (n / 10) (by omega) (by omega) w)
      have HL := Lib.hid (digits_len (n / 10) 20 (by decide) (by have := HN.out; omega))
      have m3 : IntKind.u64.wrap ((n : Int) / 10) = (n : Int) / 10 := by rw [IntKind.wrap_u64]; omega
      clear ih hn
      go_wp2_with fail
      refine (IH.out w).mono ?_
      rintro e w1 ⟨v, rfl, hv, hb1⟩
      have hl := HL.out
      have hb1s := hb1.size
      unfold OwnB at hv
      go_wp2_with (at_builtin; go_must (refine wpList_append_new rfl _ _ 105 rfl w.heap.size 5 (.int .u8 0) 1 1 Try.underlying105 (by kernel_rfl) rfl (by decide) _ _ _ rfl hv _ _ rfl rfl rfl (by omega) (by decide) hb1s ?_))
      intro g cap w2 hown hg hor hlt
      go_wp2
      go_ret
      refine ⟨_, rfl, ?_, hb1.trans ((Below.refl _ _).grown hg hb1s (fun r h => (own_lt hv r h).1))⟩
      show OwnB _ _ _ _
      rw [hD.out]
      unfold OwnB
      rw [bz_app, bz_one, HB.out, List.length_append]
      simpa [vints] using hown
end Go.Proofs.Ytfckbkhnelgjbaa
end
/- fix.Text. -/
section
namespace Go.Proofs.Ytfckbkhnelgjbaa
open Go.ChangeShapes Go.WideShapes Go.ChangeAt Go.RowKit Go.Mem
set_option linter.unusedVariables false
theorem and_low (n : Nat) (h : n < 18446744073709551616) : bits .and .u64 (n : Int) 65535 = ((n % 65536 : Nat) : Int) := by
  rw [show (65535 : Int) = ((65535 : Nat) : Int) from rfl, bits_and_u64_nat n 65535 h (by decide)]
  congr 1
  exact Nat.and_two_pow_sub_one_eq_mod n 16
theorem text_step (j i q n : Nat) (h : j + 1 + i = 16) (hn : n = 2 ^ j * q) (hq : q < 2 ^ (i + 1)) : n * 10 / 65536 = q * 5 / 2 ^ i ∧ n * 10 % 65536 = 2 ^ (j + 1) * (q * 5 % 2 ^ i) ∧ q * 5 / 2 ^ i < 10 := by
  have e1 : n * 10 = 2 ^ (j + 1) * (q * 5) := by
    rw [hn, Nat.pow_succ, Nat.mul_assoc, Nat.mul_assoc]
    congr 1
    omega
  have e2 : (65536 : Nat) = 2 ^ (j + 1) * 2 ^ i := by rw [← Nat.pow_add, h]
  have hp : 0 < 2 ^ (j + 1) := Nat.pow_pos (by decide)
  have hp2 : 0 < 2 ^ i := Nat.pow_pos (by decide)
  rw [e1, e2, Nat.mul_div_mul_left _ _ hp, Nat.mul_mod_mul_left]
  refine ⟨rfl, rfl, ?_⟩
  rw [Nat.pow_succ] at hq
  exact Nat.div_lt_of_lt_mul (by omega)
theorem decDigits_pos (n : Nat) : 0 < (Lib.decDigits n).length := by
  rw [Lib.decDigits]
  split
  · simp
  · simp
theorem own_string {B : Nat} {v : Value} {l : List UInt8} {w : World} (h : OwnB B v l w) : (convert 105 9 v).run Try.prog w = .ok (.string ⟨l.toArray⟩) w := by
  unfold OwnB at h
  rcases Nat.eq_zero_or_pos l.length with h0 | h0
  · have hl : l = [] := List.eq_nil_of_length_eq_zero h0
    subst hl
    rcases h.2 with ⟨rfl, _⟩ | ⟨g, cap, cur, rfl, hg, hc, _⟩
    · rw [run_convert_bytes_string w 105 9 5 none 0 0 Try.underlying105 Try.underlying5 Try.underlying9]; rfl
    · exact run_convert_bytes_back (P := Try.prog) w 105 9 5 ⟨g, 0, none⟩ cap [] Try.underlying105 Try.underlying5 Try.underlying9 (fun j hj => by cases hj)
  · obtain ⟨g, cap, rfl, _, hlt⟩ := h.form h0
    refine run_convert_bytes_back (P := Try.prog) w 105 9 5 ⟨g, 0, none⟩ cap l Try.underlying105 Try.underlying5 Try.underlying9 (fun j hj => ?_)
    have := h.cells (g := g) rfl j (.int .u8 (l[j].toNat : Int)) (by simp [vints, bz, hj])
    exact this
def TextPost (C : Int) (B : Nat) (w : World) (e : Ending) (w' : World) : Prop := e = .returned (.string ⟨(textL (decide (C < 0)) C.natAbs).toArray⟩) ∧ Below B w w'
set_option maxHeartbeats 4000000 in
theorem fix_Text (a : Int) (w : World) : Calls Try.prog 12 #[.int .i64 a] w fun e w' => e = .returned (.string ⟨(textL (decide (lim a < 0)) (lim a).natAbs).toArray⟩) ∧ Below w.heap.size w w' := by
  have cl := fix_Clamp a
  have hbd := lim_bd a
  obtain ⟨C, hC⟩ : ∃ C, C = lim a := ⟨_, rfl⟩
  rw [← hC] at cl hbd ⊢
  have cm := fix_magN C hbd.1 hbd.2
  obtain ⟨N, hN⟩ : ∃ N, N = C.natAbs := ⟨_, rfl⟩
  have lN : N ≤ 1099511627776 := by omega
  have cw := fix_whole (N / 65536) (by omega)
  rw [show ((N / 65536 : Nat) : Int) = (N : Int) / 65536 by omega] at cw
  rw [← hN] at cm ⊢
  have CL := Lib.hid cl
  have CM := Lib.hid cm
  have CW := Lib.hid cw
  obtain ⟨B, hB⟩ : ∃ B, B = w.heap.size := ⟨_, rfl⟩
  rw [← hB]
  have HB := Lib.hid hB
  have hBle : B ≤ w.heap.size := by omega
  clear cl cm cw hC hB hN
  by_cases hneg : C < 0
  · have HT := Lib.hid (show textL (decide (C < 0)) N = [45] ++ (Lib.decDigits (N / 65536) ++ if N % 65536 = 0 then [] else 46 :: fracD 16 (N % 65536)) by unfold textL; rw [decide_eq_true hneg]; rfl)
    obtain ⟨T, hT⟩ : ∃ T, T = textL (decide (C < 0)) N := ⟨_, rfl⟩
    rw [← hT] at HT ⊢
    clear hT
    go_enter Try.func12, Try.ntmps12
    go_wp2_with fail
    refine (CL.out w).mono ?_
    rintro e _ ⟨rfl, rfl⟩
    go_wp2_with (at_builtin; go_must (refine wpList_append_new rfl _ _ 105 rfl B 5 (.int .u8 0) 1 1 Try.underlying105 (by kernel_rfl) rfl (by decide) _ _ _ rfl (World.ownsRow_nil _ _ _ _) _ _ rfl rfl rfl (by omega) (by decide) hBle ?_))
    intro g1 cap w1 hown hgr hor hlt
    have HV := Lib.hid (show OwnB B (.slice (some ⟨g1, 0, none⟩) 1 cap) [45] w1 by
      unfold OwnB
      simpa [vints, bz] using hown)
    have hb := (Below.refl B w).grown hgr hBle (fun r h => by cases h)
    clear hown hgr hor
    go_wp2_with fail
    refine (CM.out w1).mono ?_
    rintro e _ ⟨rfl, rfl⟩
    go_wp2_with fail
    refine (CW.out w1).mono ?_
    rintro e w2 ⟨vd, rfl, hd, hb2⟩
    have hd0 := hd
    unfold OwnB at hd0
    obtain ⟨gd, capd, rfl, hgd, hld⟩ := hd0.form (decDigits_pos (N / 65536))
    have hia := IntsAt.of_own hd0 (by rw [bz_len])
    have hv2 := own_below HV.out hb2
    have hbb := hb.trans (hb2.mono (Nat.le_trans hBle hb.size))
    have hbs2 := Nat.le_trans hBle hbb.size
    have hdl := digits_len (N / 65536) 10 (by decide) (by omega)
    clear hb hb2 hd hd0 HV
    go_wp2_with (at_builtin; go_must (refine wpList_append_ints rfl _ _ 105 rfl B 5 .u8 1 Try.underlying105 (by kernel_rfl) _ _ _ rfl hv2 _ _ _ _ rfl (by rw [bz_len]) hia (by unfold maxLen; simp only [List.length_singleton]; omega) (by simp only [List.length_singleton]; omega) hbs2 ?_))
    intro v4 w4 hown hg hor
    rw [← bz_app] at hown
    have hb := hbb.grown hg hbs2 (fun r h => (own_lt hv2 r h).1)
    obtain ⟨L0, hL0⟩ : ∃ L0, L0 = ([45] : List UInt8) ++ Lib.decDigits (N / 65536) := ⟨_, rfl⟩
    have HV := Lib.hid (show OwnB B v4 L0 w4 by
      unfold OwnB
      rw [hL0, List.length_append]
      skip
      exact hown)
    have lL0 : L0.length ≤ 11 := by rw [hL0, List.length_append]; simp only [List.length_singleton]; omega
    have hT2 := HT.out
    rw [← List.append_assoc, ← hL0] at hT2
    clear hown hg hor hv2 hbb hbs2 hia hgd hld hL0
    have hbs := Nat.le_trans hBle hb.size
    obtain ⟨g, hg⟩ : ∃ g, g = N % 65536 := ⟨_, rfl⟩
    rw [← hg] at hT2
    have lg : g < 65536 := by omega
    have m8 : bits .and .u64 (N : Int) 65535 = g := by
      have := and_low N (by omega)
      rw [hg, ← this]
    clear hg hdl
    rcases Nat.eq_zero_or_pos g with rfl | gp
    · have HL0 := Lib.hid (show L0 ++ fracD 16 0 = T by rw [fracD_zero, hT2, if_pos rfl])
      clear hT2
      go_wp2_with fail
      go_loopg [3, 4] 16 (fun gk v3 v4 wx => ∃ (j q n : Nat) (vv : Value) (out : List UInt8), j ≤ 16 ∧ gk = 16 - j ∧ v3 = vv ∧ v4 = .int .u64 n ∧ n = 2 ^ j * q ∧ q < 2 ^ (16 - j) ∧ n < 65536 ∧ out.length ≤ 30 + j ∧ OwnB B vv out wx ∧ out ++ fracD (16 - j) q = L0 ++ fracD 16 0 ∧ Below B w wx)
      case atStart => exact ⟨0, 0, 0, v4, L0, by omega, rfl, rfl, rfl, by omega, by decide, by decide, by omega, HV.out, rfl, hb⟩
      case round =>
        clear HV hb
        obtain ⟨j, q, n, vv, out, h1, h2, rfl, rfl, hn, hq, ln, lo, hv, hout, hb⟩ := hrel
        have H2 := Lib.hid h2
        have HN := Lib.hid hn
        have HQ := Lib.hid hq
        have HV := Lib.hid hv
        have HO := Lib.hid hout
        clear h2 hn hq hv hout
        rcases Nat.eq_zero_or_pos n with rfl | hpos
        · have hq0 : q = 0 := by
            have := HN.out
            rcases Nat.mul_eq_zero.1 this.symm with h | h
            · exact absurd h (Nat.pos_iff_ne_zero.1 (Nat.pow_pos (by decide)))
            · exact h
          have ho := HO.out
          rw [hq0, fracD_zero, List.append_nil, HL0.out] at ho
          have hcv := own_string HV.out
          rw [ho] at hcv
          go_wp2
          go_ret
          exact ⟨rfl, hb⟩
        · have hj : j < 16 := by
            rcases Nat.lt_or_ge j 16 with h | h
            · exact h
            · have h3 := HQ.out
              have h4 := HN.out
              rw [show 16 - j = 0 by omega] at h3
              have h5 : q = 0 := by simpa using h3
              rw [h5] at h4
              omega
          obtain ⟨i, hi⟩ : ∃ i, 16 - j = i + 1 := ⟨15 - j, by omega⟩
          obtain ⟨s1, s2, s3⟩ := text_step j i q n (by omega) HN.out (by have := HQ.out; rwa [hi] at this)
          have hq0 : q ≠ 0 := by
            intro h
            have := HN.out
            rw [h] at this
            omega
          have ho := HO.out
          rw [hi, fracD_succ, if_neg hq0] at ho
          obtain ⟨d, hd⟩ : ∃ d, d = q * 5 / 2 ^ i := ⟨_, rfl⟩
          rw [← hd] at s1 s3 ho
          have hbd := dg_toNat d (by omega)
          obtain ⟨r, hr⟩ : ∃ r, r = q * 5 % 2 ^ i := ⟨_, rfl⟩
          have lr : r < 2 ^ i := by rw [hr]; exact Nat.mod_lt _ (Nat.pow_pos (by decide))
          rw [← hr] at s2 ho
          obtain ⟨n2, hn2⟩ : ∃ n2, n2 = n * 10 % 65536 := ⟨_, rfl⟩
          have ln2 : n2 < 65536 := by omega
          have HS2 := Lib.hid (show n2 = 2 ^ (j + 1) * r by rw [hn2]; exact s2)
          have HLR := Lib.hid (show r < 2 ^ (16 - (j + 1)) by rw [show 16 - (j + 1) = i by omega]; exact lr)
          have HO2 := Lib.hid (show (out ++ [dg d]) ++ fracD (16 - (j + 1)) r = L0 ++ fracD 16 0 by rw [show 16 - (j + 1) = i by omega, List.append_assoc]; exact ho)
          have HBD := Lib.hid hbd
          have m1 : IntKind.u64.wrap ((n : Int) * 10) = n * 10 := by rw [IntKind.wrap_u64]; omega
          have m2 : (n : Int) * 10 / 65536 = d := by omega
          have m3 : IntKind.u64.wrap (48 + (d : Int)) = 48 + d := by rw [IntKind.wrap_u64]; omega
          have m4 : IntKind.u8.wrap (48 + (d : Int)) = 48 + d := by rw [IntKind.wrap_u8]; omega
          have m5 : bits .and .u64 ((n : Int) * 10) 65535 = n2 := by
            have := and_low (n * 10) (by omega)
            rw [hn2, ← this]
            rfl
          have hvw := HV.out
          unfold OwnB at hvw
          have hbs := Nat.le_trans hBle hb.size
          clear s1 s2 ho hbd hd hr lr hi hn2
          go_wp2_with (at_builtin; go_must (refine wpList_append_new rfl _ _ 105 rfl B 5 (.int .u8 0) 1 1 Try.underlying105 (by kernel_rfl) rfl (by decide) _ _ _ rfl hvw _ _ rfl rfl rfl (by omega) (by decide) hbs ?_))
          intro g2 cap w3 hown hg hor hlt
          have HV3 := Lib.hid (show OwnB B (.slice (some ⟨g2, 0, none⟩) (out.length + 1) cap) (out ++ [dg d]) w3 by
            unfold OwnB
            rw [bz_app, bz_one, HBD.out, List.length_append]
            simpa [vints] using hown)
          have hb3 := hb.grown hg hbs (fun r h => (own_lt hvw r h).1)
          clear hown hg hor HV hvw hb
          go_wp2
          go_roundg (16 - (j + 1))
          case measure => rw [H2.out]; omega
          case rel => exact ⟨j + 1, r, n2, _, out ++ [dg d], by omega, rfl, rfl, rfl, HS2.out, HLR.out, ln2, by rw [List.length_append, List.length_singleton]; omega, HV3.out, HO2.out, hb3⟩
    · have HT2 := Lib.hid (show T = (L0 ++ [46]) ++ fracD 16 g by rw [hT2, if_neg (by omega), List.append_assoc]; rfl)
      have hv5 := HV.out
      unfold OwnB at hv5
      clear hT2 HV
      go_wp2_with (at_builtin; go_must (refine wpList_append_new rfl _ _ 105 rfl B 5 (.int .u8 0) 1 1 Try.underlying105 (by kernel_rfl) rfl (by decide) _ _ _ rfl hv5 _ _ rfl rfl rfl (by omega) (by decide) hbs ?_))
      intro g5 cap5 w5 hown hgr hor hlt
      have hb5 := hb.grown hgr hbs (fun r h => (own_lt hv5 r h).1)
      obtain ⟨L5, hL5⟩ : ∃ L5, L5 = L0 ++ [46] := ⟨_, rfl⟩
      have HV := Lib.hid (show OwnB B (.slice (some ⟨g5, 0, none⟩) (L0.length + 1) cap5) L5 w5 by
        unfold OwnB
        rw [hL5, bz_app, bz_one, List.length_append]
        simpa [vints] using hown)
      rw [← hL5] at HT2
      have lL5 : L5.length ≤ 12 := by rw [hL5, List.length_append, List.length_singleton]; omega
      clear hown hgr hor hb hbs hv5 hL5
      have hb := hb5
      have HL0 := Lib.hid HT2.out.symm
      clear HT2 hb5
      go_wp2_with fail
      go_loopg [3, 4] 16 (fun gk v3 v4 wx => ∃ (j q n : Nat) (vv : Value) (out : List UInt8), j ≤ 16 ∧ gk = 16 - j ∧ v3 = vv ∧ v4 = .int .u64 n ∧ n = 2 ^ j * q ∧ q < 2 ^ (16 - j) ∧ n < 65536 ∧ out.length ≤ 30 + j ∧ OwnB B vv out wx ∧ out ++ fracD (16 - j) q = L5 ++ fracD 16 g ∧ Below B w wx)
      case atStart => exact ⟨0, g, g, _, L5, by omega, rfl, rfl, rfl, by omega, lg, lg, by omega, HV.out, rfl, hb⟩
      case round =>
        clear HV hb
        obtain ⟨j, q, n, vv, out, h1, h2, rfl, rfl, hn, hq, ln, lo, hv, hout, hb⟩ := hrel
        have H2 := Lib.hid h2
        have HN := Lib.hid hn
        have HQ := Lib.hid hq
        have HV := Lib.hid hv
        have HO := Lib.hid hout
        clear h2 hn hq hv hout
        rcases Nat.eq_zero_or_pos n with rfl | hpos
        · have hq0 : q = 0 := by
            have := HN.out
            rcases Nat.mul_eq_zero.1 this.symm with h | h
            · exact absurd h (Nat.pos_iff_ne_zero.1 (Nat.pow_pos (by decide)))
            · exact h
          have ho := HO.out
          rw [hq0, fracD_zero, List.append_nil, HL0.out] at ho
          have hcv := own_string HV.out
          rw [ho] at hcv
          go_wp2
          go_ret
          exact ⟨rfl, hb⟩
        · have hj : j < 16 := by
            rcases Nat.lt_or_ge j 16 with h | h
            · exact h
            · have h3 := HQ.out
              have h4 := HN.out
              rw [show 16 - j = 0 by omega] at h3
              have h5 : q = 0 := by simpa using h3
              rw [h5] at h4
              omega
          obtain ⟨i, hi⟩ : ∃ i, 16 - j = i + 1 := ⟨15 - j, by omega⟩
          obtain ⟨s1, s2, s3⟩ := text_step j i q n (by omega) HN.out (by have := HQ.out; rwa [hi] at this)
          have hq0 : q ≠ 0 := by
            intro h
            have := HN.out
            rw [h] at this
            omega
          have ho := HO.out
          rw [hi, fracD_succ, if_neg hq0] at ho
          obtain ⟨d, hd⟩ : ∃ d, d = q * 5 / 2 ^ i := ⟨_, rfl⟩
          rw [← hd] at s1 s3 ho
          have hbd := dg_toNat d (by omega)
          obtain ⟨r, hr⟩ : ∃ r, r = q * 5 % 2 ^ i := ⟨_, rfl⟩
          have lr : r < 2 ^ i := by rw [hr]; exact Nat.mod_lt _ (Nat.pow_pos (by decide))
          rw [← hr] at s2 ho
          obtain ⟨n2, hn2⟩ : ∃ n2, n2 = n * 10 % 65536 := ⟨_, rfl⟩
          have ln2 : n2 < 65536 := by omega
          have HS2 := Lib.hid (show n2 = 2 ^ (j + 1) * r by rw [hn2]; exact s2)
          have HLR := Lib.hid (show r < 2 ^ (16 - (j + 1)) by rw [show 16 - (j + 1) = i by omega]; exact lr)
          have HO2 := Lib.hid (show (out ++ [dg d]) ++ fracD (16 - (j + 1)) r = L5 ++ fracD 16 g by rw [show 16 - (j + 1) = i by omega, List.append_assoc]; exact ho)
          have HBD := Lib.hid hbd
          have m1 : IntKind.u64.wrap ((n : Int) * 10) = n * 10 := by rw [IntKind.wrap_u64]; omega
          have m2 : (n : Int) * 10 / 65536 = d := by omega
          have m3 : IntKind.u64.wrap (48 + (d : Int)) = 48 + d := by rw [IntKind.wrap_u64]; omega
          have m4 : IntKind.u8.wrap (48 + (d : Int)) = 48 + d := by rw [IntKind.wrap_u8]; omega
          have m5 : bits .and .u64 ((n : Int) * 10) 65535 = n2 := by
            have := and_low (n * 10) (by omega)
            rw [hn2, ← this]
            rfl
          have hvw := HV.out
          unfold OwnB at hvw
          have hbs := Nat.le_trans hBle hb.size
          clear s1 s2 ho hbd hd hr lr hi hn2
          go_wp2_with (at_builtin; go_must (refine wpList_append_new rfl _ _ 105 rfl B 5 (.int .u8 0) 1 1 Try.underlying105 (by kernel_rfl) rfl (by decide) _ _ _ rfl hvw _ _ rfl rfl rfl (by omega) (by decide) hbs ?_))
          intro g2 cap w3 hown hg hor hlt
          have HV3 := Lib.hid (show OwnB B (.slice (some ⟨g2, 0, none⟩) (out.length + 1) cap) (out ++ [dg d]) w3 by
            unfold OwnB
            rw [bz_app, bz_one, HBD.out, List.length_append]
            simpa [vints] using hown)
          have hb3 := hb.grown hg hbs (fun r h => (own_lt hvw r h).1)
          clear hown hg hor HV hvw hb
          go_wp2
          go_roundg (16 - (j + 1))
          case measure => rw [H2.out]; omega
          case rel => exact ⟨j + 1, r, n2, _, out ++ [dg d], by omega, rfl, rfl, rfl, HS2.out, HLR.out, ln2, by rw [List.length_append, List.length_singleton]; omega, HV3.out, HO2.out, hb3⟩
  · have HT := Lib.hid (show textL (decide (C < 0)) N = [] ++ (Lib.decDigits (N / 65536) ++ if N % 65536 = 0 then [] else 46 :: fracD 16 (N % 65536)) by unfold textL; rw [decide_eq_false hneg]; rfl)
    obtain ⟨T, hT⟩ : ∃ T, T = textL (decide (C < 0)) N := ⟨_, rfl⟩
    rw [← hT] at HT ⊢
    clear hT
    go_enter Try.func12, Try.ntmps12
    go_wp2_with fail
    refine (CL.out w).mono ?_
    rintro e _ ⟨rfl, rfl⟩
    have HV := Lib.hid (OwnB.nil B w)
    have hb := Below.refl B w
    go_wp2_with fail
    refine (CM.out w).mono ?_
    rintro e _ ⟨rfl, rfl⟩
    go_wp2_with fail
    refine (CW.out w).mono ?_
    rintro e w2 ⟨vd, rfl, hd, hb2⟩
    have hd0 := hd
    unfold OwnB at hd0
    obtain ⟨gd, capd, rfl, hgd, hld⟩ := hd0.form (decDigits_pos (N / 65536))
    have hia := IntsAt.of_own hd0 (by rw [bz_len])
    have hv2 := own_below HV.out hb2
    have hbb := hb.trans (hb2.mono (Nat.le_trans hBle hb.size))
    have hbs2 := Nat.le_trans hBle hbb.size
    have hdl := digits_len (N / 65536) 10 (by decide) (by omega)
    clear hb hb2 hd hd0 HV
    go_wp2_with (at_builtin; go_must (refine wpList_append_ints rfl _ _ 105 rfl B 5 .u8 1 Try.underlying105 (by kernel_rfl) _ _ _ rfl hv2 _ _ _ _ rfl (by rw [bz_len]) hia (by unfold maxLen; simp only [List.length_nil]; omega) (by simp only [List.length_nil]; omega) hbs2 ?_))
    intro v4 w4 hown hg hor
    rw [← bz_app] at hown
    have hb := hbb.grown hg hbs2 (fun r h => (own_lt hv2 r h).1)
    obtain ⟨L0, hL0⟩ : ∃ L0, L0 = ([] : List UInt8) ++ Lib.decDigits (N / 65536) := ⟨_, rfl⟩
    have HV := Lib.hid (show OwnB B v4 L0 w4 by
      unfold OwnB
      rw [hL0, List.length_append]
      rw [List.length_nil, Nat.zero_add]
      exact hown)
    have lL0 : L0.length ≤ 11 := by rw [hL0, List.length_append]; simp only [List.length_nil]; omega
    have hT2 := HT.out
    rw [← List.append_assoc, ← hL0] at hT2
    clear hown hg hor hv2 hbb hbs2 hia hgd hld hL0
    have hbs := Nat.le_trans hBle hb.size
    obtain ⟨g, hg⟩ : ∃ g, g = N % 65536 := ⟨_, rfl⟩
    rw [← hg] at hT2
    have lg : g < 65536 := by omega
    have m8 : bits .and .u64 (N : Int) 65535 = g := by
      have := and_low N (by omega)
      rw [hg, ← this]
    clear hg hdl
    rcases Nat.eq_zero_or_pos g with rfl | gp
    · have HL0 := Lib.hid (show L0 ++ fracD 16 0 = T by rw [fracD_zero, hT2, if_pos rfl])
      clear hT2
      go_wp2_with fail
      go_loopg [3, 4] 16 (fun gk v3 v4 wx => ∃ (j q n : Nat) (vv : Value) (out : List UInt8), j ≤ 16 ∧ gk = 16 - j ∧ v3 = vv ∧ v4 = .int .u64 n ∧ n = 2 ^ j * q ∧ q < 2 ^ (16 - j) ∧ n < 65536 ∧ out.length ≤ 30 + j ∧ OwnB B vv out wx ∧ out ++ fracD (16 - j) q = L0 ++ fracD 16 0 ∧ Below B w wx)
      case atStart => exact ⟨0, 0, 0, v4, L0, by omega, rfl, rfl, rfl, by omega, by decide, by decide, by omega, HV.out, rfl, hb⟩
      case round =>
        clear HV hb
        obtain ⟨j, q, n, vv, out, h1, h2, rfl, rfl, hn, hq, ln, lo, hv, hout, hb⟩ := hrel
        have H2 := Lib.hid h2
        have HN := Lib.hid hn
        have HQ := Lib.hid hq
        have HV := Lib.hid hv
        have HO := Lib.hid hout
        clear h2 hn hq hv hout
        rcases Nat.eq_zero_or_pos n with rfl | hpos
        · have hq0 : q = 0 := by
            have := HN.out
            rcases Nat.mul_eq_zero.1 this.symm with h | h
            · exact absurd h (Nat.pos_iff_ne_zero.1 (Nat.pow_pos (by decide)))
            · exact h
          have ho := HO.out
          rw [hq0, fracD_zero, List.append_nil, HL0.out] at ho
          have hcv := own_string HV.out
          rw [ho] at hcv
          go_wp2
          go_ret
          exact ⟨rfl, hb⟩
        · have hj : j < 16 := by
            rcases Nat.lt_or_ge j 16 with h | h
            · exact h
            · have h3 := HQ.out
              have h4 := HN.out
              rw [show 16 - j = 0 by omega] at h3
              have h5 : q = 0 := by simpa using h3
              rw [h5] at h4
              omega
          obtain ⟨i, hi⟩ : ∃ i, 16 - j = i + 1 := ⟨15 - j, by omega⟩
          obtain ⟨s1, s2, s3⟩ := text_step j i q n (by omega) HN.out (by have := HQ.out; rwa [hi] at this)
          have hq0 : q ≠ 0 := by
            intro h
            have := HN.out
            rw [h] at this
            omega
          have ho := HO.out
          rw [hi, fracD_succ, if_neg hq0] at ho
          obtain ⟨d, hd⟩ : ∃ d, d = q * 5 / 2 ^ i := ⟨_, rfl⟩
          rw [← hd] at s1 s3 ho
          have hbd := dg_toNat d (by omega)
          obtain ⟨r, hr⟩ : ∃ r, r = q * 5 % 2 ^ i := ⟨_, rfl⟩
          have lr : r < 2 ^ i := by rw [hr]; exact Nat.mod_lt _ (Nat.pow_pos (by decide))
          rw [← hr] at s2 ho
          obtain ⟨n2, hn2⟩ : ∃ n2, n2 = n * 10 % 65536 := ⟨_, rfl⟩
          have ln2 : n2 < 65536 := by omega
          have HS2 := Lib.hid (show n2 = 2 ^ (j + 1) * r by rw [hn2]; exact s2)
          have HLR := Lib.hid (show r < 2 ^ (16 - (j + 1)) by rw [show 16 - (j + 1) = i by omega]; exact lr)
          have HO2 := Lib.hid (show (out ++ [dg d]) ++ fracD (16 - (j + 1)) r = L0 ++ fracD 16 0 by rw [show 16 - (j + 1) = i by omega, List.append_assoc]; exact ho)
          have HBD := Lib.hid hbd
          have m1 : IntKind.u64.wrap ((n : Int) * 10) = n * 10 := by rw [IntKind.wrap_u64]; omega
          have m2 : (n : Int) * 10 / 65536 = d := by omega
          have m3 : IntKind.u64.wrap (48 + (d : Int)) = 48 + d := by rw [IntKind.wrap_u64]; omega
          have m4 : IntKind.u8.wrap (48 + (d : Int)) = 48 + d := by rw [IntKind.wrap_u8]; omega
          have m5 : bits .and .u64 ((n : Int) * 10) 65535 = n2 := by
            have := and_low (n * 10) (by omega)
            rw [hn2, ← this]
            rfl
          have hvw := HV.out
          unfold OwnB at hvw
          have hbs := Nat.le_trans hBle hb.size
          clear s1 s2 ho hbd hd hr lr hi hn2
          go_wp2_with (at_builtin; go_must (refine wpList_append_new rfl _ _ 105 rfl B 5 (.int .u8 0) 1 1 Try.underlying105 (by kernel_rfl) rfl (by decide) _ _ _ rfl hvw _ _ rfl rfl rfl (by omega) (by decide) hbs ?_))
          intro g2 cap w3 hown hg hor hlt
          have HV3 := Lib.hid (show OwnB B (.slice (some ⟨g2, 0, none⟩) (out.length + 1) cap) (out ++ [dg d]) w3 by
            unfold OwnB
            rw [bz_app, bz_one, HBD.out, List.length_append]
            simpa [vints] using hown)
          have hb3 := hb.grown hg hbs (fun r h => (own_lt hvw r h).1)
          clear hown hg hor HV hvw hb
          go_wp2
          go_roundg (16 - (j + 1))
          case measure => rw [H2.out]; omega
          case rel => exact ⟨j + 1, r, n2, _, out ++ [dg d], by omega, rfl, rfl, rfl, HS2.out, HLR.out, ln2, by rw [List.length_append, List.length_singleton]; omega, HV3.out, HO2.out, hb3⟩
    · have HT2 := Lib.hid (show T = (L0 ++ [46]) ++ fracD 16 g by rw [hT2, if_neg (by omega), List.append_assoc]; rfl)
      have hv5 := HV.out
      unfold OwnB at hv5
      clear hT2 HV
      go_wp2_with (at_builtin; go_must (refine wpList_append_new rfl _ _ 105 rfl B 5 (.int .u8 0) 1 1 Try.underlying105 (by kernel_rfl) rfl (by decide) _ _ _ rfl hv5 _ _ rfl rfl rfl (by omega) (by decide) hbs ?_))
      intro g5 cap5 w5 hown hgr hor hlt
      have hb5 := hb.grown hgr hbs (fun r h => (own_lt hv5 r h).1)
      obtain ⟨L5, hL5⟩ : ∃ L5, L5 = L0 ++ [46] := ⟨_, rfl⟩
      have HV := Lib.hid (show OwnB B (.slice (some ⟨g5, 0, none⟩) (L0.length + 1) cap5) L5 w5 by
        unfold OwnB
        rw [hL5, bz_app, bz_one, List.length_append]
        simpa [vints] using hown)
      rw [← hL5] at HT2
      have lL5 : L5.length ≤ 12 := by rw [hL5, List.length_append, List.length_singleton]; omega
      clear hown hgr hor hb hbs hv5 hL5
      have hb := hb5
      have HL0 := Lib.hid HT2.out.symm
      clear HT2 hb5
      go_wp2_with fail
      go_loopg [3, 4] 16 (fun gk v3 v4 wx => ∃ (j q n : Nat) (vv : Value) (out : List UInt8), j ≤ 16 ∧ gk = 16 - j ∧ v3 = vv ∧ v4 = .int .u64 n ∧ n = 2 ^ j * q ∧ q < 2 ^ (16 - j) ∧ n < 65536 ∧ out.length ≤ 30 + j ∧ OwnB B vv out wx ∧ out ++ fracD (16 - j) q = L5 ++ fracD 16 g ∧ Below B w wx)
      case atStart => exact ⟨0, g, g, _, L5, by omega, rfl, rfl, rfl, by omega, lg, lg, by omega, HV.out, rfl, hb⟩
      case round =>
        clear HV hb
        obtain ⟨j, q, n, vv, out, h1, h2, rfl, rfl, hn, hq, ln, lo, hv, hout, hb⟩ := hrel
        have H2 := Lib.hid h2
        have HN := Lib.hid hn
        have HQ := Lib.hid hq
        have HV := Lib.hid hv
        have HO := Lib.hid hout
        clear h2 hn hq hv hout
        rcases Nat.eq_zero_or_pos n with rfl | hpos
        · have hq0 : q = 0 := by
            have := HN.out
            rcases Nat.mul_eq_zero.1 this.symm with h | h
            · exact absurd h (Nat.pos_iff_ne_zero.1 (Nat.pow_pos (by decide)))
            · exact h
          have ho := HO.out
          rw [hq0, fracD_zero, List.append_nil, HL0.out] at ho
          have hcv := own_string HV.out
          rw [ho] at hcv
          go_wp2
          go_ret
          exact ⟨rfl, hb⟩
        · have hj : j < 16 := by
            rcases Nat.lt_or_ge j 16 with h | h
            · exact h
            · have h3 := HQ.out
              have h4 := HN.out
              rw [show 16 - j = 0 by omega] at h3
              have h5 : q = 0 := by simpa using h3
              rw [h5] at h4
              omega
          obtain ⟨i, hi⟩ : ∃ i, 16 - j = i + 1 := ⟨15 - j, by omega⟩
          obtain ⟨s1, s2, s3⟩ := text_step j i q n (by omega) HN.out (by have := HQ.out; rwa [hi] at this)
          have hq0 : q ≠ 0 := by
            intro h
            have := HN.out
            rw [h] at this
            omega
          have ho := HO.out
          rw [hi, fracD_succ, if_neg hq0] at ho
          obtain ⟨d, hd⟩ : ∃ d, d = q * 5 / 2 ^ i := ⟨_, rfl⟩
          rw [← hd] at s1 s3 ho
          have hbd := dg_toNat d (by omega)
          obtain ⟨r, hr⟩ : ∃ r, r = q * 5 % 2 ^ i := ⟨_, rfl⟩
          have lr : r < 2 ^ i := by rw [hr]; exact Nat.mod_lt _ (Nat.pow_pos (by decide))
          rw [← hr] at s2 ho
          obtain ⟨n2, hn2⟩ : ∃ n2, n2 = n * 10 % 65536 := ⟨_, rfl⟩
          have ln2 : n2 < 65536 := by omega
          have HS2 := Lib.hid (show n2 = 2 ^ (j + 1) * r by rw [hn2]; exact s2)
          have HLR := Lib.hid (show r < 2 ^ (16 - (j + 1)) by rw [show 16 - (j + 1) = i by omega]; exact lr)
          have HO2 := Lib.hid (show (out ++ [dg d]) ++ fracD (16 - (j + 1)) r = L5 ++ fracD 16 g by rw [show 16 - (j + 1) = i by omega, List.append_assoc]; exact ho)
          have HBD := Lib.hid hbd
          have m1 : IntKind.u64.wrap ((n : Int) * 10) = n * 10 := by rw [IntKind.wrap_u64]; omega
          have m2 : (n : Int) * 10 / 65536 = d := by omega
          have m3 : IntKind.u64.wrap (48 + (d : Int)) = 48 + d := by rw [IntKind.wrap_u64]; omega
          have m4 : IntKind.u8.wrap (48 + (d : Int)) = 48 + d := by rw [IntKind.wrap_u8]; omega
          have m5 : bits .and .u64 ((n : Int) * 10) 65535 = n2 := by
            have := and_low (n * 10) (by omega)
            rw [hn2, ← this]
            rfl
          have hvw := HV.out
          unfold OwnB at hvw
          have hbs := Nat.le_trans hBle hb.size
          clear s1 s2 ho hbd hd hr lr hi hn2
          go_wp2_with (at_builtin; go_must (refine wpList_append_new rfl _ _ 105 rfl B 5 (.int .u8 0) 1 1 Try.underlying105 (by kernel_rfl) rfl (by decide) _ _ _ rfl hvw _ _ rfl rfl rfl (by omega) (by decide) hbs ?_))
          intro g2 cap w3 hown hg hor hlt
          have HV3 := Lib.hid (show OwnB B (.slice (some ⟨g2, 0, none⟩) (out.length + 1) cap) (out ++ [dg d]) w3 by
            unfold OwnB
            rw [bz_app, bz_one, HBD.out, List.length_append]
            simpa [vints] using hown)
          have hb3 := hb.grown hg hbs (fun r h => (own_lt hvw r h).1)
          clear hown hg hor HV hvw hb
          go_wp2
          go_roundg (16 - (j + 1))
          case measure => rw [H2.out]; omega
          case rel => exact ⟨j + 1, r, n2, _, out ++ [dg d], by omega, rfl, rfl, rfl, HS2.out, HLR.out, ln2, by rw [List.length_append, List.length_singleton]; omega, HV3.out, HO2.out, hb3⟩
end Go.Proofs.Ytfckbkhnelgjbaa
end
