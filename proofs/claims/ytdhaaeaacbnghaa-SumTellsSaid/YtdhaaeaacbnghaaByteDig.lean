/- The reference's ByteDigest. -/
import Derived.Test.YtdhaaeaacbnghaaSumBytes
namespace Go.Proofs.Ytdhaaeaacbnghaa
open Go.ChangeShapes Go.WideShapes Go.ChangeAt Go.RowKit Go.Mem
set_option linter.unusedVariables false

theorem le_drop (l : List Int) (q : Nat) (h : q < l.length) : le (l.drop q) = (l.getD q 0).toNat + 256 * le (l.drop (q + 1)) := by
  rw [List.drop_eq_getElem_cons h]
  show (l[q]).toNat + _ = _
  simp [h]

set_option maxHeartbeats 4000000 in
theorem ref_ByteDigest (a : Option Addr) (cap : Nat) (l : List Int) (hcap : l.length ≤ cap) (hl : cap ≤ 140737488355328) (hu : U8s l) (w : World) (hin : Mem.IntsAt .u8 w a l) :
    Calls Try.prog 25 #[.slice a l.length cap] w fun e w' => e = .returned (.int .u64 (bdig l : Nat)) ∧ Below w.heap.size w w' := by
  obtain ⟨n, hn⟩ : ∃ n, n = l.length := ⟨_, rfl⟩
  rw [← hn] at hcap ⊢
  have HN := Lib.hid hn
  have un : IntKind.u64.wrap (n : Int) = n := W64.u_in n (by omega)
  have cj := ref_Tied 11170449401992604703 n (by omega) (by omega) w
  obtain ⟨D, hD⟩ : ∃ D, D = tie 11170449401992604703 n := ⟨_, rfl⟩
  rw [← hD] at cj
  have lD : D < 18446744073709551616 := by rw [hD]; exact tie_lt _ _
  have HD := Lib.hid hD
  have CJ := Lib.hid cj
  have HI := Lib.hid hin
  have HU := Lib.hid hu
  clear hin hn cj hD hu
  go_enter Try.func25, Try.ntmps25
  go_wp2_with (go_at_call 22; refine (CJ.out).mono ?_; rintro e w1 ⟨rfl, hb1⟩)
  clear un
  go_loopg [3, 4, 5, 6] n (fun gk vs vi _ _ wx => ∃ (j p : Nat), p = 8 * j ∧ p < n + 8 ∧ gk = n - p ∧ vs = .int .u64 (bd j D l : Nat) ∧ vi = .int .i64 p ∧ Below w.heap.size w wx)
  case atStart => exact ⟨0, 0, rfl, by omega, rfl, rfl, rfl, hb1⟩
  case round =>
    clear hb1
    obtain ⟨j, p, hp, h1, h2, rfl, rfl, hb⟩ := hrel
    have H2 := Lib.hid h2
    have HP := Lib.hid hp
    clear h2 hp
    have lS := bd_lt j D l (by omega)
    obtain ⟨S, hS⟩ : ∃ S, S = bd j D l := ⟨_, rfl⟩
    rw [← hS] at lS ⊢
    have HS := Lib.hid hS
    clear hS
    by_cases hlt : p < n
    · obtain ⟨ch, hch⟩ : ∃ ch, ch = (l.drop (8 * j)).take 8 := ⟨_, rfl⟩
      obtain ⟨m, hm⟩ : ∃ m, m = min (n - p) 8 := ⟨_, rfl⟩
      have hcl : ch.length = m := by rw [hch, List.length_take, List.length_drop, ← HN.out, ← HP.out, hm]; omega
      have hcu : U8s ch := fun z hz => HU.out z (by rw [hch] at hz; exact List.mem_of_mem_drop (List.mem_of_mem_take hz))
      have hcg : ∀ q, q < m → ch.getD q 0 = l.getD (p + q) 0 := fun q hq => by
        rw [hch, List.getD_eq_getElem?_getD, List.getElem?_take_of_lt (by omega), List.getElem?_drop, ← HP.out, ← List.getD_eq_getElem?_getD]
      have HCH := Lib.hid hch
      have HCU := Lib.hid hcu
      have HCL := Lib.hid hcl
      have HCG := Lib.hid hcg
      have hm8 : m ≤ 8 := by omega
      have hmn : p + m ≤ n := by omega
      have hmm : (p : Int) + 8 ≤ n ∨ (n : Int) < p + 8 := by omega
      have HM := Lib.hid hm
      clear hch hcu hcl hcg hm
      rcases hmm with hmm | hmm
      all_goals
        go_wp2_with fail
        go_loopg [5, 6] m (fun gi vw vk wx => ∃ q k0 : Nat, q ≤ m ∧ gi = q ∧ k0 = p + q ∧ vk = .int .i64 ((k0 : Int) - 1) ∧ vw = .int .u64 (le (ch.drop q) : Nat) ∧ wx = wr)
        case atStart =>
          refine ⟨m, p + m, Nat.le_refl _, rfl, rfl, ?_, by rw [List.drop_eq_nil_of_le (by rw [HCL.out]; omega)]; rfl, rfl⟩
          exact congrArg (Value.int .i64) (by have := HM.out; omega)
        case round =>
          obtain ⟨q, k0, g1, g2, g3, rfl, rfl, rfl⟩ := hrel
          have G2 := Lib.hid g2
          have hdr := le_lt (ch.drop q) (fun z hz => HCU.out z (List.mem_of_mem_drop hz))
          rw [List.length_drop, HCL.out] at hdr
          rcases q with _ | q
          · obtain rfl : k0 = p := by omega
            have lW : le (ch.drop 0) < 18446744073709551616 := by
              have h4 : 256 ^ (m - 0) ≤ 256 ^ 8 := Nat.pow_le_pow_right (by omega) (by omega)
              have h5 : 256 ^ 8 = 18446744073709551616 := by decide
              omega
            obtain ⟨W, hW⟩ : ∃ W, W = le (ch.drop 0) := ⟨_, rfl⟩
            rw [← hW] at lW ⊢
            have ct := ref_Tied S W lS lW wr
            obtain ⟨T, hT⟩ : ∃ T, T = tie S W := ⟨_, rfl⟩
            rw [← hT] at ct
            have tn : bd (j + 1) D l = T := by rw [bd_succ, ← HS.out, ← HCH.out, hT, hW, List.drop_zero]
            have TN := Lib.hid tn
            have CT := Lib.hid ct
            clear hW hT tn ct g2 g3 hdr hmm
            go_wp2_with (go_at_call 22; refine (CT.out).mono ?_; rintro e w1 ⟨rfl, hb1⟩)
            go_roundg (n - (k0 + 8))
            case measure => rw [H2.out]; omega
            case rel => exact ⟨j + 1, k0 + 8, by have := HP.out; omega, by omega, rfl, by rw [TN.out], by go_num, bt hb hb1⟩
          · obtain ⟨t, ht⟩ : ∃ t, t = p + q := ⟨_, rfl⟩
            obtain rfl : k0 = t + 1 := by omega
            obtain ⟨x, rfl, hx, hc⟩ := (HI.out.below hb) (by rw [← HN.out]; omega)
            have hcell := hc t (by rw [← HN.out]; omega)
            have e1 : ((t + 1 : Nat) : Int) - 1 = t := by omega
            rw [e1]
            have hcz : ch.getD q 0 = l.getD t 0 := by rw [HCG.out q (by omega), ht]
            have hqc : q < ch.length := by rw [HCL.out]; omega
            have hcb := HCU.out (ch.getD q 0) (by simp [hqc])
            have hld := le_drop ch q hqc
            rw [hcz] at hcb hld
            obtain ⟨z, hz⟩ : ∃ z : Nat, (z : Int) = l.getD t 0 := ⟨(l.getD t 0).toNat, by omega⟩
            rw [← hz] at hcell hcb hld
            obtain ⟨W, hW⟩ : ∃ W, W = le (ch.drop (q + 1)) := ⟨_, rfl⟩
            rw [← hW] at hdr hld ⊢
            have hb8 : 256 ^ (m - (q + 1)) ≤ 256 ^ 7 := Nat.pow_le_pow_right (by omega) (by omega)
            have h57 : 256 ^ 7 = 72057594037927936 := by decide
            have lW : W < 72057594037927936 := by omega
            have lz : z < 256 := by omega
            have uz : IntKind.u64.wrap (z : Int) = z := W64.u_in z (by omega)
            have hpt : (p : Int) ≤ t := by omega
            have htn : (t : Int) < n := by omega
            have HLD := Lib.hid hld
            have HT := Lib.hid ht
            clear hc e1 hcz hcb hld hz hW hb8 h57 hdr g2 ht g3 hmm
            go_wp2
            go_roundg q
            case measure => rw [G2.out]; omega
            case rel => exact ⟨q, t, by omega, rfl, HT.out, rfl, by rw [HLD.out]; go_num, rfl⟩
    · have hj : j = (n + 7) / 8 := by have := HP.out; omega
      have ed : bdig l = S := by rw [bdig, ← HN.out, ← hj, ← HD.out, ← HS.out]
      have ED := Lib.hid ed
      clear ed hj H2
      go_wp2
      go_ret
      exact ⟨by rw [ED.out]; rfl, hb⟩
end Go.Proofs.Ytdhaaeaacbnghaa
