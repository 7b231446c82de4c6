/- bits.Reader: Nat, Int. -/
import Derived.Test.YtdhaaeaacbnghaaReader
namespace Go.Proofs.Ytdhaaeaacbnghaa
open Go.ChangeShapes Go.WideShapes Go.ChangeAt Go.RowKit Go.Mem Go.Bp
set_option linter.unusedVariables false

theorem RdBlock.c1 {w : World} {g m c p : Nat} {a : Option Addr} (h : RdBlock w g a m c p) : w.cell? ⟨g, 1, none⟩ = some (.int .i64 p) := by rw [cell_of_row w g 1 _ _ _ h]; rfl
theorem RdBlock.f1 {w : World} {g m c p : Nat} {a : Option Addr} (h : RdBlock w g a m c p) : w.frozen? ⟨g, 1, none⟩ = false := Mem.frozen_of_row h 1
theorem RdBlock.set {w : World} {g m c p : Nat} {a : Option Addr} (h : RdBlock w g a m c p) (n : Nat) : RdBlock (w.setCell ⟨g, 1, none⟩ (.int .i64 n)) g a m c n := heap_set h 1 (.int .i64 n)
set_option maxHeartbeats 8000000 in
set_option maxRecDepth 100000 in
theorem rd_Nat (l : List Int) (g m c p : Nat) (a : Option Addr) (w : World) (hl : l.length = m) (hm : m ≤ 140737488355328) (hp : p ≤ 8 * m) (hu : By8 l) (hin : IntsAt .u8 w a l) (ha : ∀ x, a = some x → x.block ≠ g) (hg : RdBlock w g a m c p) :
    Calls Try.prog 39 #[.pointer (some ⟨g, 0, none⟩)] w fun e w' => GetPost w g a m c (natR (bitsOf l) p).2.2 (.tuple #[.int .u64 (natR (bitsOf l) p).1, .int .i64 (natR (bitsOf l) p).2.1]) w' e := by
  obtain ⟨R, hR⟩ : ∃ R, R = natR (bitsOf l) p := ⟨_, rfl⟩
  rw [← hR]
  have hLn : (bitsOf l).length = 8 * m := by rw [bitsOf_length, hl]
  have HL := Lib.hid hl
  have HLN := Lib.hid hLn
  have HI := Lib.hid hin
  have HA := Lib.hid ha
  have HU := Lib.hid hu
  have HR := Lib.hid hR
  have HG := Lib.hid hg
  have c1 := hg.c1
  clear hl hin ha hu hR hLn hg
  go_enter Try.func39, Try.ntmps39
  go_wp2_with fail
  clear c1
  go_loopg [5, 6, 7, 8] 17 (fun gk vv vi _ _ wx => ∃ i : Nat, i ≤ 16 ∧ gk = 17 - i ∧ vi = .int .i64 i ∧ vv = .int .u64 (valN (bitsOf l) p i : Nat) ∧ p + 5 * i ≤ 8 * m ∧ natF (bitsOf l) p (17 - i) i = R ∧ RdBlock wx g a m c (p + 5 * i) ∧ w.grownBy wx (some g) ∧ wx.heap.size = w.heap.size)
  case atStart => exact ⟨0, by omega, rfl, rfl, rfl, hp, HR.out.symm, HG.out, gb_refl _ _, rfl⟩
  case round =>
    obtain ⟨i, i16, g2, rfl, rfl, hpi, hnf, hr, hgb, hsz⟩ := hrel
    have G2 := Lib.hid g2
    have HRB := Lib.hid hr
    have HSZ := Lib.hid hsz
    have HGB := Lib.hid hgb
    obtain ⟨q, hq⟩ : ∃ q, q = p + 5 * i := ⟨_, rfl⟩
    have lV := valN_lt (bitsOf l) p i
    obtain ⟨V, hV⟩ : ∃ V, V = valN (bitsOf l) p i := ⟨_, rfl⟩
    have HV := Lib.hid hV
    rw [← hV] at lV ⊢
    rw [show 17 - i = (16 - i) + 1 by omega] at hnf
    have HIN := Lib.hid (HI.out.gb hgb HA.out)
    by_cases hs : 8 * m < p + 5 * i + 5
    · rw [natF_short _ _ _ _ (by rw [HLN.out]; exact hs)] at hnf
      subst hnf
      have CG := Lib.hid (rd_Get_short g m c (p + 5 * i) 5 a wr hm (by omega) hs (by omega) hr)
      clear g2 hr hsz hgb hq hV
      go_wp2_with fail
      refine CG.out.mono ?_
      rintro e w1 ⟨rfl, hr1, hgb1, hsz1⟩
      have k0 := hr1.c1
      have k1 := hr1.f1
      have HR1 := Lib.hid hr1
      have HSZ1 := Lib.hid hsz1
      clear hr1 hsz1
      go_wp2
      go_ret2
      exact ⟨rfl, HR1.out.set p, gb_set (gb_trans HGB.out hgb1) _ _, by simp [HSZ1.out, HSZ.out]⟩
    · have hb := seg5 (bitsOf l) p i (by rw [HLN.out]; omega)
      have hx := xg_lt (bitsOf l) p i
      have CG := rd_Get l g m c (p + 5 * i) 5 a wr HL.out hm (by omega) (by omega) HU.out HIN.out HA.out hr
      rw [hb] at CG
      obtain ⟨x, hxe⟩ : ∃ x, x = xg (bitsOf l) p i := ⟨_, rfl⟩
      rw [← hxe] at CG hx
      obtain ⟨f, hfe⟩ : ∃ f, f = fl (bitsOf l) p i := ⟨_, rfl⟩
      rw [← hfe] at CG
      have hnl : ¬ (bitsOf l).length < p + 5 * i + 5 := by rw [HLN.out]; exact hs
      have hvs : valN (bitsOf l) p (i + 1) = V + 16 ^ i * x := by rw [hV, hxe]; rfl
      by_cases h16 : i = 16
      · rw [natF_form _ _ _ _ hnl (.inl h16)] at hnf
        subst hnf
        subst h16
        have CG := Lib.hid CG
        clear g2 hr hsz hgb hq hV hb hxe hfe hnl hvs
        go_wp2_with fail
        refine CG.out.mono ?_
        rintro e w1 ⟨rfl, hr1, hgb1, hsz1⟩
        have k0 := hr1.c1
        have k1 := hr1.f1
        have HR1 := Lib.hid hr1
        have HSZ1 := Lib.hid hsz1
        clear hr1 hsz1
        go_wp2
        go_ret2
        exact ⟨rfl, HR1.out.set p, gb_set (gb_trans HGB.out hgb1) _ _, by simp [HSZ1.out, HSZ.out]⟩
      · have i15 : i < 16 := by omega
        have hor := nat_or V x i lV hx i15
        obtain ⟨S, hS⟩ : ∃ S, S = V + 16 ^ i * x := ⟨_, rfl⟩
        rw [← hS] at hor hvs
        have HVS := Lib.hid hvs
        cases f with
        | true =>
          rw [natF_more _ _ _ _ hnl h16 hfe.symm] at hnf
          have HNF := Lib.hid hnf
          obtain ⟨G, hG⟩ : ∃ G, G = x + 16 * true.toNat := ⟨_, rfl⟩
          rw [← hG] at CG
          have hG' : G = x + 16 := hG
          have ha := and15 G (by omega)
          rw [show G % 16 = x by omega] at ha
          have hg0 : ((G : Int) == 0) = false := by rw [beq_eq_false_iff_ne]; omega
          have hi6 : ((i : Int) == 16) = false := by rw [beq_eq_false_iff_ne]; omega
          have hg16 : ¬ (G : Int) < 16 := by omega
          have CG := Lib.hid CG
          clear g2 hr hsz hgb hq hV hb hxe hfe hnl hvs hnf h16 hG hG' hS
          go_wp2_with fail
          refine CG.out.mono ?_
          rintro e w1 ⟨rfl, hr1, hgb1, hsz1⟩
          have HR1 := Lib.hid hr1
          have HSZ1 := Lib.hid hsz1
          clear hr1 hsz1
          go_wp2
          go_roundg (17 - (i + 1))
          case measure => rw [G2.out]; omega
          case rel => exact ⟨i + 1, by omega, rfl, by go_num, by rw [HVS.out], by omega, by rw [show 17 - (i + 1) = 16 - i by omega]; exact HNF.out, by rw [show p + 5 * (i + 1) = p + 5 * i + 5 by omega]; exact HR1.out, gb_trans HGB.out hgb1, by rw [HSZ1.out, HSZ.out]⟩
        | false =>
          obtain ⟨G, hG⟩ : ∃ G, G = x + 16 * false.toNat := ⟨_, rfl⟩
          rw [← hG] at CG
          obtain rfl : G = x := hG
          have ha := and15 G (by omega)
          rw [show G % 16 = G by omega] at ha
          have hi6 : ((i : Int) == 16) = false := by rw [beq_eq_false_iff_ne]; omega
          have hg16 : (G : Int) < 16 := by omega
          by_cases h0 : 0 < i ∧ G = 0
          · obtain ⟨hi0, rfl⟩ := h0
            rw [natF_form _ _ _ _ hnl (.inr ⟨hi0, hxe.symm, hfe.symm⟩)] at hnf
            subst hnf
            have CG := Lib.hid CG
            clear g2 hr hsz hgb hq hV hb hxe hfe hnl hvs h16 hor ha hS
            go_wp2_with fail
            refine CG.out.mono ?_
            rintro e w1 ⟨rfl, hr1, hgb1, hsz1⟩
            have k0 := hr1.c1
            have k1 := hr1.f1
            have HR1 := Lib.hid hr1
            have HSZ1 := Lib.hid hsz1
            clear hr1 hsz1
            go_wp2
            go_ret2
            exact ⟨rfl, HR1.out.set p, gb_set (gb_trans HGB.out hgb1) _ _, by simp [HSZ1.out, HSZ.out]⟩
          · rw [natF_end _ _ _ _ hnl h16 hfe.symm (by rw [← hxe]; omega), hvs] at hnf
            subst hnf
            have hcase : ((0 < i ∨ ¬ 0 < i) ∧ ((G : Int) == 0) = false) ∨ (¬ 0 < i ∧ ((G : Int) == 0) = true) := by
              by_cases h : G = 0
              · exact .inr ⟨by omega, by simp [h]⟩
              · exact .inl ⟨by omega, by rw [beq_eq_false_iff_ne]; omega⟩
            have CG := Lib.hid CG
            clear g2 hr hsz hgb hq hV hb hxe hfe hnl hvs h16 h0 HV HVS hS
            rcases hcase with ⟨hc1 | hc1, hc2⟩ | ⟨hc1, hc2⟩
            all_goals
              go_wp2_with fail
              refine CG.out.mono ?_
              rintro e w1 ⟨rfl, hr1, hgb1, hsz1⟩
              have HR1 := Lib.hid hr1
              have HSZ1 := Lib.hid hsz1
              clear hr1 hsz1
              go_wp2
              go_ret2
              exact ⟨rfl, by first | exact HR1.out | (rw [show p + 5 * (i + 1) = p + 5 * i + 5 by omega]; exact HR1.out), gb_trans HGB.out hgb1, by rw [HSZ1.out, HSZ.out]⟩

theorem xor_zig (v : Nat) (h : v < 18446744073709551616) : IntKind.i64.wrap (bits .xor .u64 ((v / 2 : Nat) : Int) (IntKind.u64.wrap (-((v % 2 : Nat) : Int)))) = unz v := by
  rcases Nat.mod_two_eq_zero_or_one v with h1 | h1
  · unfold unz
    rw [h1, if_neg (by omega)]
    have e : IntKind.u64.wrap (-((0 : Nat) : Int)) = ((0 : Nat) : Int) := by rw [IntKind.wrap_u64]; omega
    rw [e, W64.bits_xor_u64 _ _ (by omega) (by omega), Nat.xor_zero, IntKind.wrap_i64]; omega
  · unfold unz
    rw [h1, if_pos rfl]
    have e : IntKind.u64.wrap (-((1 : Nat) : Int)) = ((18446744073709551615 : Nat) : Int) := by rw [IntKind.wrap_u64]; omega
    rw [e, W64.bits_xor_u64 _ _ (by omega) (by omega), Nat.xor_comm]
    have e2 : 18446744073709551615 ^^^ (v / 2) = 18446744073709551615 - v / 2 := by
      have := W64.xor_max (v / 2) (by omega)
      rw [show IntKind.u64.max = ((18446744073709551615 : Nat) : Int) by decide, W64.bits_xor_u64 _ _ (by omega) (by omega)] at this
      exact Int.ofNat.inj this
    rw [e2, IntKind.wrap_i64]; omega
theorem unz_zero : unz 0 = 0 := rfl
set_option maxHeartbeats 4000000 in
theorem rd_Int (l : List Int) (g m c p : Nat) (a : Option Addr) (w : World) (hl : l.length = m) (hm : m ≤ 140737488355328) (hp : p ≤ 8 * m) (hu : By8 l) (hin : IntsAt .u8 w a l) (ha : ∀ x, a = some x → x.block ≠ g) (hg : RdBlock w g a m c p) :
    Calls Try.prog 41 #[.pointer (some ⟨g, 0, none⟩)] w fun e w' => GetPost w g a m c (natR (bitsOf l) p).2.2 (.tuple #[.int .i64 (if (natR (bitsOf l) p).2.1 = 0 then unz (natR (bitsOf l) p).1 else 0), .int .i64 (natR (bitsOf l) p).2.1]) w' e := by
  have cn := rd_Nat l g m c p a w hl hm hp hu hin ha hg
  have hlt := natR_lt (bitsOf l) p (by rw [bitsOf_length, hl]; exact hp)
  obtain ⟨⟨v, e, q⟩, hR⟩ : ∃ R, R = natR (bitsOf l) p := ⟨_, rfl⟩
  rw [← hR] at cn hlt ⊢
  obtain ⟨lv, le, _⟩ := hlt
  have lv' : v < 18446744073709551616 := lv
  have CN := Lib.hid cn
  clear cn hR hl hin ha hg hu lv
  by_cases h0 : e = 0
  · subst h0
    have hx := xor_zig v lv'
    have hh : ((v : Int) / 2) = ((v / 2 : Nat) : Int) := by omega
    have hand : bits .and .u64 (v : Int) 1 = ((v % 2 : Nat) : Int) := by
      have := W64.bits_and_u64 v 1 lv' (by omega)
      rw [show ((1 : Nat) : Int) = 1 from rfl] at this
      rw [this, Nat.and_one_is_mod]
    obtain ⟨h2, hh2⟩ : ∃ h2, h2 = v / 2 := ⟨_, rfl⟩
    obtain ⟨r2, hr2⟩ : ∃ r2, r2 = v % 2 := ⟨_, rfl⟩
    obtain ⟨U, hU⟩ : ∃ U, U = unz v := ⟨_, rfl⟩
    rw [← hh2, ← hr2, ← hU] at hx
    rw [← hh2] at hh
    rw [← hr2] at hand
    have HU := Lib.hid hU
    have hr3 : r2 < 2 := by omega
    clear hh2 hr2 hU le
    go_enter Try.func41, Try.ntmps41
    go_wp2_with fail
    refine CN.out.mono ?_
    rintro e w1 ⟨rfl, hr, hgb, hsz⟩
    have HSZ := Lib.hid hsz
    clear hsz
    go_wp2
    go_ret2
    exact ⟨by rw [← HU.out]; rfl, hr, hgb, HSZ.out⟩
  · have he : (e : Int) = 3 ∨ (e : Int) = 14 := by
      have : e = 0 ∨ e = 3 ∨ e = 14 := le
      omega
    have he0 : ((e : Int) != 0) = true := by simp; omega
    clear le he lv'
    go_enter Try.func41, Try.ntmps41
    go_wp2_with fail
    refine CN.out.mono ?_
    rintro e w1 ⟨rfl, hr, hgb, hsz⟩
    have HSZ := Lib.hid hsz
    clear hsz
    go_wp2
    go_ret2
    exact ⟨rfl, hr, hgb, HSZ.out⟩
end Go.Proofs.Ytdhaaeaacbnghaa
