/- bits.Writer: groups, Nat, Int. -/
import Derived.Test.YtdhaaeaacbnghaaWriter
namespace Go.Proofs.Ytdhaaeaacbnghaa
open Go.ChangeShapes Go.WideShapes Go.ChangeAt Go.RowKit Go.Mem Go.Bp
set_option linter.unusedVariables false

set_option maxHeartbeats 4000000 in
theorem bits_groups (v : Nat) (hv : v < 18446744073709551616) (w : World) : Calls Try.prog 92 #[.int .u64 v] w fun e w' => e = .returned (.int .i64 (grp v)) ∧ w = w' := by
  obtain ⟨G, hG⟩ : ∃ G, G = grp v := ⟨_, rfl⟩
  have hb := grp_16 v hv
  rw [← hG] at hb ⊢
  have e0 : (v : Int) / 16 = ((v / 16 : Nat) : Int) := by omega
  obtain ⟨u, hu⟩ : ∃ u, u = v / 16 := ⟨_, rfl⟩
  rw [← hu] at e0
  have hgu : G = if 0 < u then 1 + grp u else 1 := by
    rw [hG]
    by_cases h : v < 16
    · rw [grp_small v h, if_neg (by omega)]
    · rw [grp_next v (by omega), if_pos (by omega), hu]; omega
  have HGU := Lib.hid hgu
  clear hG hgu
  have ul : u < 18446744073709551616 := by omega
  clear hv hu
  go_enter Try.func92, Try.ntmps92
  go_wp2
  go_loopg [0, 3, 6] u (fun gk vv vn _ wx => ∃ (x n : Nat), gk = x ∧ x < 18446744073709551616 ∧ vv = .int .u64 x ∧ vn = .int .i64 n ∧ n ≤ 16 ∧ n + (if 0 < x then grp x else 0) = G ∧ wx = w)
  case atStart => exact ⟨u, 1, rfl, ul, rfl, rfl, by omega, by rw [HGU.out]; split <;> omega, rfl⟩
  case round =>
    obtain ⟨x, n, g2, xl, rfl, rfl, n16, hn, rfl⟩ := hrel
    have G2 := Lib.hid g2
    have HN := Lib.hid hn
    clear g2 hn e0
    by_cases q : 0 < x
    · have e0 : (x : Int) / 16 = ((x / 16 : Nat) : Int) := by omega
      obtain ⟨y, hy⟩ : ∃ y, y = x / 16 := ⟨_, rfl⟩
      rw [← hy] at e0
      have hgu : grp x = 1 + if 0 < y then grp y else 0 := by
        by_cases h : x < 16
        · rw [grp_small x h, if_neg (by omega)]
        · rw [grp_next x (by omega), if_pos (by omega), hy]; omega
      have HGU2 := Lib.hid hgu
      have hn2 := HN.out
      rw [if_pos q, hgu] at hn2
      have HN2 := Lib.hid hn2
      have n15 : n + 1 ≤ 16 := by omega
      have yl : y < x := by omega
      clear hgu hn2 hy
      go_wp2
      go_roundg y
      case measure => rw [G2.out]; exact yl
      case rel => exact ⟨y, n + 1, rfl, by omega, rfl, by go_num, n15, by have := HN2.out; omega, rfl⟩
    · have hn2 := HN.out
      rw [if_neg q] at hn2
      have HN2 := Lib.hid hn2
      clear hn2
      go_wp2
      go_ret
      exact ⟨by rw [← HN2.out]; rfl, rfl⟩

theorem grp_cases (v i : Nat) : (i + 1 < grp v ∧ (decide (i + 1 < grp v)).toNat = 1) ∨ (¬ i + 1 < grp v ∧ (decide (i + 1 < grp v)).toNat = 0) := by
  by_cases h : i + 1 < grp v
  · exact .inl ⟨h, by rw [decide_eq_true h]; rfl⟩
  · exact .inr ⟨h, by rw [decide_eq_false h]; rfl⟩

set_option maxHeartbeats 16000000 in
set_option maxRecDepth 100000 in
theorem wr_Nat (w : World) (D g v : Nat) (x : Value) (L : List Bool) (hlt : v < 18446744073709551616) (hl : L.length ≤ 524288) (hD : D ≤ w.heap.size) (hw : Wr w D g x L) :
    Calls Try.prog 56 #[.pointer (some ⟨g, 0, none⟩), .int .u64 v] w (PutPost w D g x (natW L v)) := by
  have CG := Lib.hid (bits_groups v hlt)
  have HW := Lib.hid hw
  have c1 := hw.c1
  obtain ⟨m, hm⟩ : ∃ m, m = L.length := ⟨_, rfl⟩
  obtain ⟨G, hG⟩ : ∃ G, G = grp v := ⟨_, rfl⟩
  have hb := grp_16 v hlt
  unfold natW
  rw [← hG] at CG hb ⊢
  rw [← hm] at hl c1 ⊢
  have HM := Lib.hid hm
  have HG := Lib.hid hG
  clear hw hm hG
  by_cases hf : 524288 < m + 5 * G
  · rw [if_pos hf]
    go_enter Try.func56, Try.ntmps56
    go_wp2_with fail
    refine (CG.out _).mono ?_
    rintro e w1 ⟨rfl, rfl⟩
    go_wp2_with fail
    go_ret
    exact wr_same (r := (6, L)) HW.out rfl rfl
  · rw [if_neg hf]
    have hfi : ¬ (524288 : Int) < (m : Int) + 5 * G := by omega
    go_enter Try.func56, Try.ntmps56
    go_wp2_with fail
    refine (CG.out _).mono ?_
    rintro e w1 ⟨rfl, rfl⟩
    go_wp2_with fail
    clear c1
    go_loopg [6, 7, 19] G (fun gk _ _ vi wx => ∃ (k : Nat) (y : Value), k ≤ G ∧ gk = G - k ∧ vi = .int .i64 k ∧ Wr wx D g y (L ++ Bp.groups v k) ∧ Gr2 w wx (some g) x.ownBlock ∧ (∀ b, y.ownBlock = some b → x.ownBlock = some b ∨ w.heap.size ≤ b))
    case atStart => exact ⟨0, x, by omega, rfl, rfl, by have := HW.out; simpa [Bp.groups] using this, Gr2.refl _ _ _, fun b hb => .inl hb⟩
    case round =>
      obtain ⟨k, y, kn, g2, rfl, hwr, hgr, hyb⟩ := hrel
      have G2 := Lib.hid g2
      have HWR := Lib.hid hwr
      have HGR := Lib.hid hgr
      have HYB := Lib.hid hyb
      clear g2 hwr hgr hyb
      by_cases hkn : k < G
      · obtain ⟨u, hu⟩ : ∃ u, u = v / 16 ^ k := ⟨_, rfl⟩
        have hul : u < 18446744073709551616 := by rw [hu]; exact Nat.lt_of_le_of_lt (Nat.div_le_self _ _) hlt
        have e1 : (v : Int) / 2 ^ (4 * k) = u := by rw [div_cast, hu, Nat.pow_mul]
        have e2 := and15 u hul
        obtain ⟨z, hz⟩ : ∃ z, z = u % 16 := ⟨_, rfl⟩
        have hz16 : z < 16 := by omega
        rw [← hz] at e2
        obtain ⟨b, hbd⟩ : ∃ b, b = decide (k + 1 < grp v) := ⟨_, rfl⟩
        have hgp := group_put v k
        rw [← hu, ← hz, ← hbd] at hgp
        have e3 := or16 z b hz16
        obtain ⟨P, hP⟩ : ∃ P, P = z + 16 * b.toNat := ⟨_, rfl⟩
        rw [← hP] at e3 hgp
        have hb1 : b.toNat ≤ 1 := by cases b <;> simp
        have hp0 : P / 2 ^ 5 = 0 := by rw [show 2 ^ 5 = 32 by decide]; omega
        have hlen : (L ++ Bp.groups v k).length = m + 5 * k := by rw [List.length_append, groups_length, ← HM.out]
        have cp := wr_Put_ok wr D g P 5 y (L ++ Bp.groups v k) (by omega) (by omega) hp0 (by rw [hlen]; omega) (Nat.le_trans hD HGR.out.size) HWR.out
        rw [hgp, show ((5 : Nat) : Int) = 5 from rfl] at cp
        have CP := Lib.hid cp
        have hcase := grp_cases v k
        rw [← hbd, ← HG.out] at hcase
        clear cp hu hz hbd hgp hP hb1 hp0 hlen
        rcases hcase with ⟨hc, hbt⟩ | ⟨hc, hbt⟩
        · rw [hbt] at e3
          replace e3 : bits .or .u64 (z : Int) 16 = (P : Int) := e3
          clear hbt
          go_wp2_with fail
          (with_reducible refine CP.out.mono ?_)
          rintro e w2 ⟨rfl, y', hw2, hg2, hy2⟩
          have HW2 := Lib.hid hw2
          have HG2 := Lib.hid hg2
          have HY2 := Lib.hid hy2
          clear hw2 hg2 hy2
          go_wp2_with fail
          go_roundg (G - (k + 1))
          case measure => rw [G2.out]; omega
          case rel =>
            refine ⟨k + 1, y', by omega, rfl, by go_num, ?_, HGR.out.step HG2.out (fun b hb => HYB.out b hb), fun b hb => ?_⟩
            · have := HW2.out
              simp only [Bp.groups]
              rw [← List.append_assoc]
              exact this
            · rcases HY2.out b hb with h | h
              · exact HYB.out b h
              · exact .inr (Nat.le_trans HGR.out.size h)
        · rw [hbt] at e3
          replace e3 : bits .or .u64 (z : Int) 0 = (P : Int) := e3
          clear hbt
          go_wp2_with fail
          (with_reducible refine CP.out.mono ?_)
          rintro e w2 ⟨rfl, y', hw2, hg2, hy2⟩
          have HW2 := Lib.hid hw2
          have HG2 := Lib.hid hg2
          have HY2 := Lib.hid hy2
          clear hw2 hg2 hy2
          go_wp2_with fail
          go_roundg (G - (k + 1))
          case measure => rw [G2.out]; omega
          case rel =>
            refine ⟨k + 1, y', by omega, rfl, by go_num, ?_, HGR.out.step HG2.out (fun b hb => HYB.out b hb), fun b hb => ?_⟩
            · have := HW2.out
              simp only [Bp.groups]
              rw [← List.append_assoc]
              exact this
            · rcases HY2.out b hb with h | h
              · exact HYB.out b h
              · exact .inr (Nat.le_trans HGR.out.size h)
      · have hd : decide (k < G) = false := by simp; omega
        have ek : k = G := by omega
        have HEK := Lib.hid ek
        clear ek
        go_wp2
        go_ret
        exact ⟨rfl, y, by have h := HWR.out; rw [HEK.out] at h; exact h, HGR.out, HYB.out⟩

theorem zig_lt (v : Int) (h1 : -9223372036854775808 ≤ v) (h2 : v ≤ 9223372036854775807) : zig v < 18446744073709551616 := by unfold zig; split <;> omega
theorem zig_xor (v : Int) (h1 : -9223372036854775808 ≤ v) (h2 : v ≤ 9223372036854775807) :
    bits .xor .u64 (IntKind.u64.wrap (IntKind.u64.wrap v * 2)) (IntKind.u64.wrap (v / 9223372036854775808)) = ((zig v : Nat) : Int) := by
  by_cases hn : v < 0
  · have e1 : IntKind.u64.wrap (IntKind.u64.wrap v * 2) = ((18446744073709551615 - zig v : Nat) : Int) := by
      simp only [IntKind.wrap_u64, zig, if_pos hn]; omega
    have e2 : IntKind.u64.wrap (v / 9223372036854775808) = ((18446744073709551615 : Nat) : Int) := by
      rw [IntKind.wrap_u64]; omega
    have hz := zig_lt v h1 h2
    rw [e1, e2, W64.bits_xor_u64 _ _ (by omega) (by omega), Nat.xor_comm]
    have := W64.xor_max (18446744073709551615 - zig v) (by omega)
    rw [show IntKind.u64.max = ((18446744073709551615 : Nat) : Int) by decide, W64.bits_xor_u64 _ _ (by omega) (by omega)] at this
    rw [this]; congr 1; omega
  · have e1 : IntKind.u64.wrap (IntKind.u64.wrap v * 2) = ((zig v : Nat) : Int) := by
      simp only [IntKind.wrap_u64, zig, if_neg hn]; omega
    have e2 : IntKind.u64.wrap (v / 9223372036854775808) = ((0 : Nat) : Int) := by
      rw [IntKind.wrap_u64]; omega
    have hz := zig_lt v h1 h2
    rw [e1, e2, W64.bits_xor_u64 _ _ hz (by omega), Nat.xor_zero]
set_option maxHeartbeats 4000000 in
theorem wr_Int (w : World) (D g : Nat) (v : Int) (x : Value) (L : List Bool) (h1 : -9223372036854775808 ≤ v) (h2 : v ≤ 9223372036854775807) (hl : L.length ≤ 524288) (hD : D ≤ w.heap.size) (hw : Wr w D g x L) :
    Calls Try.prog 58 #[.pointer (some ⟨g, 0, none⟩), .int .i64 v] w (PutPost w D g x (natW L (zig v))) := by
  have cn := wr_Nat w D g (zig v) x L (zig_lt v h1 h2) hl hD hw
  have hx := zig_xor v h1 h2
  obtain ⟨Z, hZ⟩ : ∃ Z, Z = zig v := ⟨_, rfl⟩
  rw [← hZ] at cn hx ⊢
  have CN := Lib.hid cn
  clear hw hl hD cn hZ
  go_enter Try.func58, Try.ntmps58
  go_wp2_with fail
  refine CN.out.mono ?_
  rintro e w1 ⟨rfl, y, hw1, hg1, hy1⟩
  have HW := Lib.hid hw1
  have HY := Lib.hid hy1
  clear hw1 hy1
  go_wp2
  go_ret
  exact ⟨rfl, y, HW.out, hg1, HY.out⟩
end Go.Proofs.Ytdhaaeaacbnghaa
