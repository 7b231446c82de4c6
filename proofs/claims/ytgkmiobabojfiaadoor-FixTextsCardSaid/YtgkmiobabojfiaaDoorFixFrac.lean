/- fix.double, fix.fraction: the units that a row of digits behind the point are. -/
import Derived.Test.YtgkmiobabojfiaaDoorFixFracP
import Derived.Test.YtgkmiobabojfiaaDoorLim
import Derived.Lib.ConvBytes
import Derived.Lib.SmallJoins
import Derived.Deep.DeepMust
import Derived.Deep.LoopGhost
namespace Go.Proofs.YtgkmiobabojfiaaDoor
open Go.ChangeShapes Go.WideShapes Go.ChangeAt Go.RowKit Go.Mem
set_option linter.unusedVariables false
set_option maxHeartbeats 2000000 in
theorem fix_double (g cap : Nat) (l : List Nat) (hd : Digs l) (hl : l.length ≤ 140737488355328) (w : World) (hin : BA w g l) :
    Calls Tryd.prog 21 #[.slice (some ⟨g, 0, none⟩) l.length cap] w fun e w' => e = .returned (.int .i64 ((dbl l).1 : Nat)) ∧ BA w' g (dbl l).2 ∧ Below g w w' := by
  obtain ⟨n, hn⟩ : ∃ n, n = l.length := ⟨_, rfl⟩
  rw [← hn] at hl ⊢
  have HN := Lib.hid hn
  have HD := Lib.hid hd
  have HI := Lib.hid (show BA w g (half l n) by rw [hn, half_top]; exact hin)
  have H0 := Lib.hid (show (dbl (l.drop n)).1 = 0 by rw [hn]; simp [dbl])
  have lg := hin.1
  clear hn hd hin
  go_enter Tryd.func21, Tryd.ntmps21
  go_wp2_with fail
  go_loopg [3, 4, 5] n (fun gk v3 v4 _ wx => ∃ q : Nat, q ≤ n ∧ gk = q ∧ v3 = .int .u8 ((dbl (l.drop q)).1 : Nat) ∧ v4 = .int .i64 ((q : Int) - 1) ∧ BA wx g (half l q) ∧ Below g w wx)
  case atStart => exact ⟨n, Nat.le_refl _, rfl, by rw [H0.out]; rfl, rfl, HI.out, Below.refl _ _⟩
  case round =>
    clear HI H0
    obtain ⟨q, h1, h2, rfl, rfl, hba, hb⟩ := hrel
    have HB := Lib.hid hba
    have H2 := Lib.hid h2
    clear hba h2
    rcases Nat.eq_zero_or_pos q with rfl | hq
    · have hc := dbl_carry l HD.out
      have e0 : l.drop 0 = l := rfl
      rw [e0]
      obtain ⟨C, hC⟩ : ∃ C, C = (dbl l).1 := ⟨_, rfl⟩
      rw [← hC] at hc ⊢
      have HC := Lib.hid hC
      clear hC e0
      go_wp2
      go_ret
      refine ⟨?_, ?_, hb⟩
      · exact ret_i (by rw [← HC.out])
      · have := HB.out; rwa [half_zero] at this
    · obtain ⟨L, rfl⟩ : ∃ L, q = L + 1 := ⟨q - 1, by omega⟩
      have lL : L < l.length := by rw [← HN.out]; omega
      have eL : ((L + 1 : Nat) : Int) - 1 = (L : Int) := by omega
      rw [eL]
      have hc := dbl_carry (l.drop (L + 1)) (fun d hd => HD.out d (List.mem_of_mem_drop hd))
      have hst := half_step l L lL
      have hset := half_set l L lL
      have hdd := HD.out.get L lL
      obtain ⟨e1, e2⟩ := HB.out.2 L (by rw [half_len _ _ lL]; exact lL)
      rw [half_get l L lL] at e1
      obtain ⟨C, hC⟩ : ∃ C, C = (dbl (l.drop (L + 1))).1 := ⟨_, rfl⟩
      obtain ⟨d, hdg⟩ : ∃ d, d = l.getD L 0 := ⟨_, rfl⟩
      rw [← hC] at hc hst hset ⊢
      rw [← hdg] at hst hset hdd e1
      have HS := Lib.hid hst
      have HT := Lib.hid hset
      have m1 : IntKind.u8.wrap (2 * (d : Int)) = 2 * d := by rw [IntKind.wrap_u8]; omega
      have m2 : IntKind.u8.wrap (2 * (d : Int) + C) = 2 * d + C := by rw [IntKind.wrap_u8]; omega
      clear hst hset hC hdg eL
      go_wp2
      go_roundg L
      case measure => rw [H2.out]; omega
      case rel =>
        refine ⟨L, by omega, rfl, ?_, rfl, ?_, hb.setCell (Nat.le_refl _) _⟩
        · rw [HS.out]
          show _ = Value.int .u8 (((2 * d + C) / 10 : Nat) : Int)
          congr 1
        · rw [← HT.out]
          exact HB.out.set L _ _ (by omega)
/-- what fraction gives -/
def FracPost (l : List UInt8) (e : Ending) : Prop :=
  (vd (dbls 16 (dgs l)).2 ≠ 0 ∧ e = .returned (.tuple #[.int .i64 0, .bool false])) ∨ (vd (dbls 16 (dgs l)).2 = 0 ∧ e = .returned (.tuple #[.int .i64 ((dbls 16 (dgs l)).1 : Nat), .bool true]))
set_option maxHeartbeats 2000000 in
theorem fix_fraction (s : ByteArray) (hs : s.size ≤ 140737488355328) (hd : s.data.toList.all dgB = true) (w : World) :
    Calls Tryd.prog 11 #[.string s] w fun e w' => FracPost s.data.toList e ∧ Below w.heap.size w w' := by
  have hcv := Lib.run_convert_string_bytes (P := Tryd.prog) w 9 28 5 s (u := .string) Tryd.underlying9 Tryd.underlying28 Tryd.underlying5
  have hB : BA (Lib.bytesWorld w 5 s) w.heap.size (low s.data.toList 0) := by
    refine ⟨by rw [Lib.bytesWorld_size]; omega, fun j hj => ?_⟩
    rw [low_len] at hj
    have hj2 : j < s.size := hj
    refine ⟨?_, ?_⟩
    · rw [Lib.bytesWorld_cell w _ s j hj2]
      rw [low_zero _ _ hj]
    · unfold World.frozen?
      rw [Lib.bytesWorld_at_new]
      simp [Lib.bytesCells]
      omega
  have hbw : Below w.heap.size w (Lib.bytesWorld w 5 s) := Joins.below_bytesWorld _ _ _ _ (Nat.le_refl _)
  obtain ⟨W1, hW1⟩ : ∃ W1, W1 = Lib.bytesWorld w 5 s := ⟨_, rfl⟩
  rw [← hW1] at hcv hB hbw
  clear hW1
  obtain ⟨l, hl⟩ : ∃ l, l = s.data.toList := ⟨_, rfl⟩
  have hn : l.length = s.size := by rw [hl]; rfl
  rw [← hl] at hd hB ⊢
  obtain ⟨n, hn2⟩ : ∃ n, n = s.size := ⟨_, rfl⟩
  obtain ⟨cp, hcp⟩ : ∃ cp, cp = grownCap w s.size 0 5 := ⟨_, rfl⟩
  rw [← hcp, ← hn2] at hcv
  rw [← hn2] at hn hs
  obtain ⟨G, hG⟩ : ∃ G, G = w.heap.size := ⟨_, rfl⟩
  rw [← hG] at hB hcv hbw ⊢
  have HGE := Lib.hid hG
  have HN := Lib.hid hn
  have HD := Lib.hid hd
  have HB := Lib.hid hB
  clear hn hd hB hl hn2 hcp hG
  go_enter Tryd.func11, Tryd.ntmps11
  go_wp2_with fail
  go_loopg [5, 13] n (fun gk _ vi wx => ∃ k : Nat, k ≤ n ∧ gk = n - k ∧ vi = .int .i64 k ∧ BA wx G (low l k) ∧ Below G w wx)
  case atStart => exact ⟨0, Nat.zero_le _, rfl, rfl, HB.out, hbw⟩
  case round =>
    clear HB hbw hcv
    obtain ⟨k, h1, h2, rfl, hba, hb⟩ := hrel
    have HB := Lib.hid hba
    have H2 := Lib.hid h2
    clear hba h2
    by_cases hlt : k < n
    · have lk : k < l.length := by rw [HN.out]; exact hlt
      obtain ⟨e1, e2⟩ := HB.out.2 k (by rw [low_len]; exact lk)
      rw [low_get l k lk] at e1
      have hset := low_set l k lk
      have hc : dgB l[k] = true := List.all_eq_true.1 HD.out _ (List.getElem_mem lk)
      obtain ⟨c, hcc⟩ : ∃ c, c = l[k] := ⟨_, rfl⟩
      rw [← hcc] at hc e1 hset
      unfold dgB at hc
      simp only [Bool.and_eq_true, decide_eq_true_eq] at hc
      obtain ⟨c1, c2⟩ := hc
      obtain ⟨z, hz⟩ : ∃ z, z = c.toNat := ⟨_, rfl⟩
      rw [← hz] at c1 c2 e1 hset
      have HT := Lib.hid hset
      have m1 : IntKind.u8.wrap ((z : Int) - 48) = z - 48 := by rw [IntKind.wrap_u8]; omega
      clear hset hcc hz lk
      go_wp2
      go_roundg (n - (k + 1))
      case measure => rw [H2.out]; omega
      case rel =>
        refine ⟨k + 1, by omega, rfl, by go_num, ?_, hb.setCell (Nat.le_refl _) _⟩
        rw [← HT.out]
        exact HB.out.set k _ _ (by omega)
    · obtain rfl : k = n := by omega
      have hb2 : BA wr G (dbls 0 (dgs l)).2 := by have := HB.out; rwa [← HN.out, low_top] at this
      have HB2 := Lib.hid hb2
      clear H2 HB hb2
      go_wp2_with fail
      go_loopg [6, 23] 16 (fun gk vn vi wx => ∃ j : Nat, j ≤ 16 ∧ gk = 16 - j ∧ vn = .int .i64 ((dbls j (dgs l)).1 : Nat) ∧ vi = .int .i64 j ∧ BA wx G (dbls j (dgs l)).2 ∧ Below G w wx)
      case atStart => exact ⟨0, by omega, rfl, rfl, rfl, HB2.out, hb⟩
      case round =>
        clear HB2 hb
        obtain ⟨j, h1, h2, rfl, rfl, hba, hb⟩ := hrel
        have HB := Lib.hid hba
        have H2 := Lib.hid h2
        clear hba h2
        have hdg := dgs_digs l HD.out
        by_cases hlt : j < 16
        · have hNl := dbls_lt j _ hdg
          have hp : 2 ^ j ≤ 2 ^ 16 := Nat.pow_le_pow_right (by decide) (by omega)
          have hcr := dbl_carry _ (dbls_digs j _ hdg)
          have hsu := dbls_succ j (dgs l)
          have cd := fix_double G cp (dbls j (dgs l)).2 (dbls_digs j _ hdg) (by rw [dbls_len, dgs_len, HN.out]; exact hs)
          rw [dbls_len, dgs_len, HN.out] at cd
          obtain ⟨N, hN⟩ : ∃ N, N = (dbls j (dgs l)).1 := ⟨_, rfl⟩
          obtain ⟨Dj, hDj⟩ : ∃ Dj, Dj = (dbls j (dgs l)).2 := ⟨_, rfl⟩
          rw [← hN] at hNl hsu ⊢
          rw [← hDj] at hcr hsu cd HB
          obtain ⟨C, hC⟩ : ∃ C, C = (dbl Dj).1 := ⟨_, rfl⟩
          rw [← hC] at hcr hsu cd
          have lN : N < 65536 := by have : (2 : Nat) ^ 16 = 65536 := rfl; omega
          have m1 := or_low N C (by omega) hcr
          have CD := Lib.hid cd
          have HS := Lib.hid hsu
          clear cd hsu hN hDj hC hNl hp hdg
          have m2 : IntKind.i64.wrap (2 * (N : Int)) = 2 * N := by rw [IntKind.wrap_i64]; omega
          have m3 : IntKind.i64.wrap ((N : Int) * 2) = 2 * N := by rw [IntKind.wrap_i64]; omega
          go_wp2_with fail
          refine (CD.out _ HB.out).mono ?_
          rintro e w2 ⟨rfl, hb2, hbl⟩
          have HB3 := Lib.hid hb2
          clear hb2
          go_wp2
          go_roundg (16 - (j + 1))
          case measure => rw [H2.out]; omega
          case rel =>
            refine ⟨j + 1, by omega, rfl, ?_, by go_num, ?_, hb.trans hbl⟩
            · rw [HS.out]
              show _ = Value.int .i64 ((2 * N + C : Nat) : Int)
              congr 1
            · rw [HS.out]
              exact HB3.out
        · obtain rfl : j = 16 := by omega
          have HF := Lib.hid (show ∀ e, ((vd (dbls 16 (dgs l)).2 ≠ 0 ∧ e = .returned (.tuple #[.int .i64 0, .bool false])) ∨ (vd (dbls 16 (dgs l)).2 = 0 ∧ e = .returned (.tuple #[.int .i64 ((dbls 16 (dgs l)).1 : Nat), .bool true]))) → FracPost l e from fun e h => h)
          have hNl := dbls_lt 16 _ hdg
          have hdj := dbls_digs 16 _ hdg
          have hln : (dbls 16 (dgs l)).2.length = k := by rw [dbls_len, dgs_len, HN.out]
          obtain ⟨N, hN⟩ : ∃ N, N = (dbls 16 (dgs l)).1 := ⟨_, rfl⟩
          obtain ⟨D, hDj⟩ : ∃ D, D = (dbls 16 (dgs l)).2 := ⟨_, rfl⟩
          rw [← hN, ← hDj] at HF
          rw [← hN] at hNl ⊢
          rw [← hDj] at HB hln hdj
          have HLN := Lib.hid hln
          have HDJ := Lib.hid hdj
          clear hN hDj hln hdj H2 hdg
          go_wp2_with fail
          go_loopg [8, 33] k (fun gk _ vi wx => ∃ j : Nat, j ≤ k ∧ gk = k - j ∧ vi = .int .i64 j ∧ (∀ i, i < j → D.getD i 0 = 0) ∧ BA wx G D ∧ Below G w wx)
          case atStart => exact ⟨0, by omega, rfl, rfl, fun i hi => by omega, HB.out, hb⟩
          case round =>
            clear HB hb
            obtain ⟨j, h1, h2, rfl, hz, hba, hb⟩ := hrel
            have HB := Lib.hid hba
            have H2 := Lib.hid h2
            have HZ := Lib.hid hz
            clear hba h2 hz
            by_cases hlt : j < k
            · obtain ⟨e1, e2⟩ := HB.out.2 j (by rw [HLN.out]; exact hlt)
              have hd1 := HDJ.out.get j (by rw [HLN.out]; exact hlt)
              obtain ⟨d, hdd⟩ : ∃ d, d = D.getD j 0 := ⟨_, rfl⟩
              rw [← hdd] at e1 hd1
              have HDD := Lib.hid hdd
              clear hdd
              by_cases d0 : d = 0
              · subst d0
                go_wp2
                go_roundg (k - (j + 1))
                case measure => rw [H2.out]; omega
                case rel =>
                  refine ⟨j + 1, by omega, rfl, by go_num, fun i hi => ?_, HB.out, hb⟩
                  by_cases e : i < j
                  · exact HZ.out i e
                  · rw [show i = j by omega]; exact HDD.out.symm
              · have t0 : ((d : Int) == 0) = false := by rw [beq_eq_false_iff_ne]; omega
                go_wp2
                go_ret2
                refine ⟨HF.out _ (Or.inl ⟨fun h => d0 ?_, rfl⟩), hb⟩
                have := (vd_zero D).1 h
                rw [HDD.out]
                by_cases hj : j < D.length
                · rw [List.getD_eq_getElem?_getD, List.getElem?_eq_getElem hj]
                  exact this _ (List.getElem_mem hj)
                · rw [HLN.out] at hj; omega
            · obtain rfl : j = k := by omega
              go_wp2
              go_ret2
              refine ⟨HF.out _ (Or.inr ⟨(vd_zero D).2 fun d hd => ?_, rfl⟩), hb⟩
              obtain ⟨i, hi, rfl⟩ := List.getElem_of_mem hd
              have := HZ.out i (by rw [← HLN.out]; exact hi)
              rwa [List.getD_eq_getElem?_getD, List.getElem?_eq_getElem hi] at this
end Go.Proofs.YtgkmiobabojfiaaDoor
