/- kind.Holds. -/
import Derived.Test.YtfckbkhnelgjbaaKindFit
import Derived.Test.YtfckbkhnelgjbaaEqI
namespace Go.Proofs.Ytfckbkhnelgjbaa
open Go.ChangeShapes Go.WideShapes Go.ChangeAt Go.RowKit Go.Nm Go.Mem
set_option linter.unusedVariables false
def holdsB (k : KindV) (vals : List Int) : Bool := decide (fitE k vals = 0) && decide (fitL k.fields vals = vals)
theorem fit_len {k : KindV} {vals : List Int} (h : fitE k vals = 0) : (fitL k.fields vals).length = vals.length := by
  unfold fitE at h
  by_cases h1 : kindE k ≠ 0
  · rw [if_pos h1] at h; exact absurd h h1
  · rw [if_neg h1] at h
    by_cases h2 : vals.length ≠ k.fields.length
    · rw [if_pos h2] at h; exact absurd h (by decide)
    · unfold fitL
      rw [List.length_zipWith]; omega
set_option maxHeartbeats 8000000 in
theorem kind_Holds (k : KindV) (a : Option Addr) (n cap : Nat) (vals : List Int) (av : Option Addr) (m cv : Nat) (hn : k.fields.length = n) (hm : vals.length = m) (hm9 : m ≤ 17592186044000) (hnm : k.name.size ≤ 9223372036854775807) (hnc : n ≤ cap) (hcm : cap ≤ 9223372036854775807) (W : World) (hz : SlAt 3 FieldAt W a k.fields) (hv : IntsAt .i64 W av vals) :
    Calls Try.prog 98 #[.agg #[.string k.name, .slice a n cap], .slice av m cv] W fun e w' => e = .returned (.bool (holdsB k vals)) ∧ Below W.heap.size W w' := by
  have hb0 := (Below.refl W.heap.size W).alloc (Nat.le_refl _) (.cells #[.string k.name, .slice a n cap] 102)
  have hc := kind_Fit k a n cap vals av m cv hn hm (by omega) hnm hnc hcm _ (hz.below FieldAt.abides hb0) (hv.below hb0)
  have HB0 := Lib.hid hb0
  have HM := Lib.hid hm
  have HV := Lib.hid hv
  obtain ⟨R, hR⟩ : ∃ R, R = holdsB k vals := ⟨_, rfl⟩
  rw [← hR]
  have HR := Lib.hid hR
  have HC := Lib.hid hc
  clear hb0 hc hm hv hR hz
  obtain ⟨nm, hnme⟩ : ∃ nm, nm = k.name := ⟨_, rfl⟩
  rw [← hnme] at HC HB0 ⊢
  clear hnme hnm
  by_cases he : fitE k vals = 0
  · have HE := Lib.hid he
    have HLN := Lib.hid (fit_len he)
    have HR2 := Lib.hid (show R = decide (fitL k.fields vals = vals) by rw [HR.out]; unfold holdsB; rw [he]; rfl)
    clear he
    go_enter Try.func98, Try.ntmps98
    go_wp2_with fail
    refine HC.out.mono ?_
    rintro e w1 ⟨_, hpo, hb1⟩
    obtain ⟨ao, co, rfl, hout⟩ := hpo HE.out
    obtain ⟨zs, hzs⟩ : ∃ zs, zs = fitL k.fields vals := ⟨_, rfl⟩
    rw [← hzs] at hout HR2 HLN
    rw [HM.out] at HLN
    rw [HM.out]
    have hbw := HB0.out.trans (hb1.mono (by simp))
    have HB1 := Lib.hid hbw
    have HA := Lib.hid hout
    have hs1 := hbw.size
    clear hpo hb1 hbw HC HB0 hout hzs
    go_wp2_with fail
    go_loopg [7, 18] m (fun gk v7 vi wx => ∃ i : Nat, i ≤ m ∧ gk = m - i ∧ vi = .int .i64 i ∧ (∀ j, j < i → zs.getD j 0 = vals.getD j 0) ∧ Below w1.heap.size w1 wx)
    case atStart => exact ⟨0, Nat.zero_le _, rfl, rfl, fun j h => by omega, Below.refl _ _⟩
    case round =>
      obtain ⟨i, hi, g2, rfl, heq, hb⟩ := hrel
      have G2 := Lib.hid g2
      have HEQ := Lib.hid heq
      have HB := Lib.hid hb
      clear g2 heq hb
      by_cases hlt : i < m
      · obtain ⟨x, rfl, hx, hcx⟩ := (HA.out.below HB.out) (by rw [HLN.out]; omega)
        obtain ⟨y, rfl, hy, hcy⟩ := (HV.out.below (HB1.out.trans (HB.out.mono HB1.out.size))) (by rw [HM.out]; omega)
        obtain ⟨p, hp⟩ : ∃ p, p = zs.getD i 0 := ⟨_, rfl⟩
        obtain ⟨q, hq⟩ : ∃ q, q = vals.getD i 0 := ⟨_, rfl⟩
        have cx : wr.cell? (x.add i) = some (.int .i64 p) := by rw [hp]; exact hcx i (by rw [HLN.out]; exact hlt)
        have cy : wr.cell? (y.add i) = some (.int .i64 q) := by rw [hq]; exact hcy i (by rw [HM.out]; exact hlt)
        have i1 : (0 : Int) ≤ (i : Int) := by omega
        have i2 : (i : Int) < (m : Int) := by omega
        have HPQ := Lib.hid (And.intro hp hq)
        clear hcx hcy hp hq
        by_cases e : p = q
        · subst e
          have hee : (p != p) = false := by simp
          go_wp2
          go_quiet (fail)
          go_wp2
          go_roundg (m - (i + 1))
          case measure => rw [G2.out]; omega
          case rel => exact ⟨i + 1, by omega, rfl, by go_num, fun j hj => by
            by_cases q : j = i
            · rw [q, ← HPQ.out.1, ← HPQ.out.2]
            · exact HEQ.out j (by omega), below_drewN HB.out _⟩
        · have hee : (p != q) = true := by rw [bne_iff_ne]; exact e
          have HF := Lib.hid (show R = false by
            rw [HR2.out, decide_eq_false_iff_not]
            exact list_ne_of_getD i (by rw [HLN.out]; exact hlt) (by rw [HLN.out, HM.out]) (by rw [← HPQ.out.1, ← HPQ.out.2]; exact e))
          clear e
          go_wp2
          go_quiet (fail)
          go_wp2
          go_ret
          exact ⟨by rw [HF.out]; rfl, HB1.out.trans ((below_drewN HB.out _).mono HB1.out.size)⟩
      · have hie : i = m := by omega
        have HF := Lib.hid (show R = true by
          rw [HR2.out, decide_eq_true_iff]
          refine List.ext_getElem (by rw [HLN.out, HM.out]) (fun j h1 h2 => ?_)
          have := HEQ.out j (by rw [HM.out] at h2; omega)
          rw [List.getD_eq_getElem?_getD, List.getD_eq_getElem?_getD, List.getElem?_eq_getElem h1, List.getElem?_eq_getElem h2] at this
          exact this)
        clear hie
        go_wp2_with fail
        go_ret
        exact ⟨by rw [HF.out]; rfl, HB1.out.trans (HB.out.mono HB1.out.size)⟩
  · have HE := Lib.hid he
    have HF := Lib.hid (show R = false by rw [HR.out]; unfold holdsB; rw [decide_eq_false he]; rfl)
    obtain ⟨e1, he1⟩ : ∃ e1, e1 = fitE k vals := ⟨_, rfl⟩
    have t1 : (e1 != 0) = true := by rw [bne_iff_ne, he1]; exact he
    have HE1 := Lib.hid he1
    clear he he1
    go_enter Try.func98, Try.ntmps98
    go_wp2_with fail
    refine HC.out.mono ?_
    rintro e w1 ⟨hpo, _, hb1⟩
    obtain rfl := hpo HE.out
    rw [← HE1.out]
    have HB1 := Lib.hid (HB0.out.trans (hb1.mono (by simp)))
    clear hb1 hpo
    go_wp2_with fail
    go_ret
    exact ⟨by rw [HF.out]; rfl, HB1.out⟩
end Go.Proofs.Ytfckbkhnelgjbaa
