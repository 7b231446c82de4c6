/- Counts in memory; slices.BinarySearchFunc at counts. -/
import Derived.Test.YtlahmcbaiebapaaEvO
import Derived.Test.YtlahmcbaiebapaaSlotL
import Derived.Test.YtlahmcbaiebapaaCloneI
namespace Go.Proofs.Ytlahmcbaiebapaa
open Go.ChangeShapes Go.WideShapes Go.ChangeAt Go.RowKit Go.Mem Go.Slt
set_option linter.unusedVariables false
def CtAt (w : World) (p : Addr) (y : Int × Int) : Prop := w.cell? p = some (.int .i64 y.1) ∧ w.cell? ⟨p.block, p.off + 1, none⟩ = some (.int .i64 y.2)
theorem CtAt.abides : Abides CtAt := fun w w' p y h hb => ⟨cell_abides h.1 hb, cell_abides h.2 hb⟩
theorem getD_pair (E : List (Int × Int)) (i : Nat) (h : i < E.length) : E.getD i (0, 0) = E[i] := by rw [List.getD_eq_getElem?_getD, List.getElem?_eq_getElem h]; rfl
theorem CtAt.of_own {w : World} {base e n cap : Nat} {a : Option Addr} {E : List (Int × Int)} (h : w.ownsRow base e 2 (.slice a n cap) n (entC E)) (hn : n = E.length) : SlAt 2 CtAt w a E := by
  intro hz
  rcases a with _ | ad
  · obtain ⟨g, cap', hv, _⟩ := h.form (by omega)
    cases hv
  · obtain ⟨g, cap', hv, _, hlt⟩ := h.form (by omega)
    injection hv with hv
    injection hv with hv
    subst hv
    refine ⟨_, rfl, hlt, fun i hi => ?_⟩
    obtain ⟨g0, g1⟩ := entC_get E i hi
    rw [getD_pair E i hi] at g0 g1
    have k0 := h.cells (g := g) rfl _ _ g0
    have k1 := h.cells (g := g) rfl _ _ g1
    rw [Addr.add_lit, Nat.zero_add] at k0 k1
    rw [Addr.add_lit, Nat.zero_add]
    exact ⟨k0, k1⟩
def BsPost {α : Type} (cf : α → Int) (l : List α) (W : World) (e : Ending) (w' : World) : Prop :=
  ∃ (i : Nat) (ok : Bool), i ≤ l.length ∧ (∀ t (h : t < l.length), t < i → cf l[t] < 0) ∧ (∀ t (h : t < l.length), i ≤ t → 0 ≤ cf l[t]) ∧ (ok = true ↔ ∃ h : i < l.length, cf l[i] = 0) ∧ e = .returned (.tuple #[.int .i64 (i : Int), .bool ok]) ∧ Below W.heap.size W w'
def CfUp {α : Type} (cf : α → Int) (l : List α) : Prop := ∀ a b (ha : a < l.length) (hb : b < l.length), a ≤ b → cf l[b] < 0 → cf l[a] < 0
set_option maxRecDepth 100000 in
set_option maxHeartbeats 8000000 in
theorem bs_cts (l : List (Int × Int)) (a : Option Addr) (n c : Nat) (q : Int) (hn : l.length = n) (h1 : n ≤ 4398046511104) (hm : CfUp (fun y => cmpI y.1 q) l) (W : World) (hz : SlAt 2 CtAt W a l) :
    Calls Try.prog 99 #[.slice a n c, .int .i64 q, .func (.func 100) #[] #[]] W (BsPost (fun y : Int × Int => cmpI y.1 q) l W) := by
  have HN := Lib.hid hn
  have HZ := Lib.hid hz
  have HM := Lib.hid hm
  clear hn hz hm
  go_enter Try.func99, Try.ntmps99
  go_wp2_with fail
  go_loopg [9, 10] n (fun gk s9 s10 wx => ∃ lo hi : Nat, s9 = .int .i64 lo ∧ s10 = .int .i64 hi ∧ lo ≤ hi ∧ hi ≤ n ∧ hi - lo ≤ gk ∧ Hid (Below W.heap.size W wx) ∧ Hid ((∀ t (h : t < l.length), t < lo → cmpI (l[t]).1 q < 0) ∧ (∀ t (h : t < l.length), hi ≤ t → 0 ≤ cmpI (l[t]).1 q)))
  case atStart => exact ⟨0, n, rfl, rfl, Nat.zero_le _, Nat.le_refl _, by omega, Lib.hid (Below.refl _ _), Lib.hid ⟨fun t h h2 => absurd h2 (by omega), fun t h h2 => by rw [HN.out] at h; omega⟩⟩
  case round =>
    obtain ⟨lo, hi, rfl, rfl, hlh, hin, hg, HB, HI⟩ := hrel
    by_cases hlt : lo < hi
    · obtain ⟨x, rfl, hx, hix⟩ := HZ.out.below CtAt.abides HB.out (by rw [HN.out]; omega)
      obtain ⟨c0, c1⟩ := hix ((lo + hi) / 2) (by rw [HN.out]; omega)
      obtain ⟨y, hy⟩ : ∃ y, y = l[(lo + hi) / 2]'(by rw [HN.out]; omega) := ⟨_, rfl⟩
      rw [← hy] at c0 c1
      obtain ⟨y1, y2⟩ := y
      have HC := Lib.hid (ct_order y1 y2 q wr)
      obtain ⟨k, hk⟩ : ∃ k, k = cmpI y1 q := ⟨_, rfl⟩
      rw [← hk] at HC
      have HK := Lib.hid (show cmpI (l[(lo + hi) / 2]'(by rw [HN.out]; omega)).1 q = k by rw [← hy]; exact hk.symm)
      clear hix hy hk
      have j1 : (0 : Int) ≤ ((lo : Int) + (hi : Int)) / 2 := by omega
      have j2 : ((lo : Int) + (hi : Int)) / 2 < (n : Int) := by omega
      by_cases hk0 : k < 0
      · have HS := Lib.hid hk0
        go_wp2_with fail
        refine HC.out.mono ?_
        rintro e w5 ⟨rfl, hb⟩
        have HB5 := Lib.hid (HB.out.trans (hb.mono HB.out.size))
        clear hb HC HB
        go_wp2_with fail
        go_roundg (hi - ((lo + hi) / 2 + 1))
        case measure => omega
        case rel => exact ⟨(lo + hi) / 2 + 1, hi, by rw [show ((lo : Int) + (hi : Int)) / 2 + 1 = (((lo + hi) / 2 + 1 : Nat) : Int) by omega], rfl, by omega, hin, Nat.le_refl _, HB5, Lib.hid ⟨fun t h ht => HM.out t ((lo + hi) / 2) h (by rw [HN.out]; omega) (by omega) (by show cmpI _ q < 0; rw [HK.out]; exact HS.out), HI.out.2⟩⟩
      · have HS := Lib.hid hk0
        have hk1 : 0 ≤ k := by omega
        go_wp2_with fail
        refine HC.out.mono ?_
        rintro e w5 ⟨rfl, hb⟩
        have HB5 := Lib.hid (HB.out.trans (hb.mono HB.out.size))
        clear hb HC HB
        go_wp2_with fail
        go_roundg ((lo + hi) / 2 - lo)
        case measure => omega
        case rel => exact ⟨lo, (lo + hi) / 2, rfl, by rw [show ((lo : Int) + (hi : Int)) / 2 = (((lo + hi) / 2 : Nat) : Int) by omega], by omega, by omega, Nat.le_refl _, HB5, Lib.hid ⟨HI.out.1, fun t h ht => by
          have h2 := HM.out ((lo + hi) / 2) t (by rw [HN.out]; omega) h ht
          simp only [HK.out] at h2
          have h3 := HS.out
          omega⟩⟩
    · obtain rfl : lo = hi := by omega
      by_cases hln : lo < n
      · obtain ⟨x, rfl, hx, hix⟩ := HZ.out.below CtAt.abides HB.out (by rw [HN.out]; omega)
        obtain ⟨c0, c1⟩ := hix lo (by rw [HN.out]; omega)
        obtain ⟨y, hy⟩ : ∃ y, y = l[lo]'(by rw [HN.out]; omega) := ⟨_, rfl⟩
        rw [← hy] at c0 c1
        obtain ⟨y1, y2⟩ := y
        have HC := Lib.hid (ct_order y1 y2 q wr)
        obtain ⟨k, hk⟩ : ∃ k, k = cmpI y1 q := ⟨_, rfl⟩
        rw [← hk] at HC
        have HK := Lib.hid (show cmpI (l[lo]'(by rw [HN.out]; omega)).1 q = k by rw [← hy]; exact hk.symm)
        clear hix hy hk
        have j1 : (0 : Int) ≤ (lo : Int) := by omega
        have j2 : (lo : Int) < (n : Int) := by omega
        obtain ⟨r, hr⟩ : ∃ r, r = (k == 0) := ⟨_, rfl⟩
        have HR := Lib.hid hr
        have hr' := hr.symm
        clear hr
        go_wp2_with fail
        refine HC.out.mono ?_
        rintro e w5 ⟨rfl, hb⟩
        have HB5 := Lib.hid (HB.out.trans (hb.mono HB.out.size))
        clear hb HC HB
        go_wp2_with fail
        go_ret2
        refine ⟨lo, r, by rw [HN.out]; omega, HI.out.1, HI.out.2, ?_, rfl, HB5.out⟩
        rw [HR.out]
        constructor
        · intro h
          exact ⟨by rw [HN.out]; exact hln, by show cmpI _ q = 0; rw [HK.out]; simpa using h⟩
        · rintro ⟨h, h2⟩
          have h3 : cmpI _ q = 0 := h2
          rw [HK.out] at h3
          simpa using h3
      · obtain rfl : lo = n := by omega
        go_wp2_with fail
        go_ret2
        exact ⟨lo, false, by rw [HN.out]; exact Nat.le_refl _, HI.out.1, HI.out.2, ⟨(fun h => by cases h), (fun ⟨h, _⟩ => by rw [HN.out] at h; omega)⟩, rfl, HB.out⟩
end Go.Proofs.Ytlahmcbaiebapaa
