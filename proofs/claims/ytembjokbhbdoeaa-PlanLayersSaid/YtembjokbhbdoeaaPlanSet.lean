/- Lists that meet: slices.Index, Contains, ContainsFunc with the closures of plan.Conflict; plan.Conflict. -/
import Derived.Test.YtembjokbhbdoeaaRd
import Derived.BigQuiet
import Derived.Deep.QuietTactic
import Derived.Deep.LoopGhost
namespace Go.Proofs.Ytembjokbhbdoeaa
open Go.ChangeShapes Go.WideShapes Go.ChangeAt Go.RowKit Go.Mem
set_option linter.unusedVariables false
theorem getD_mem {l : List Int} {i : Nat} (h : i < l.length) : l.getD i 0 ∈ l := by
  rw [List.getD_eq_getElem?_getD, List.getElem?_eq_getElem h]; exact List.getElem_mem h
theorem mem_getD {l : List Int} {k : Int} (h : k ∈ l) : ∃ i, i < l.length ∧ l.getD i 0 = k := by
  obtain ⟨i, hi, rfl⟩ := List.getElem_of_mem h
  exact ⟨i, hi, by rw [List.getD_eq_getElem?_getD, List.getElem?_eq_getElem hi]; rfl⟩
set_option maxHeartbeats 2000000 in
theorem index_ints (a : Option Addr) (c n : Nat) (l : List Int) (k : Int) (hn : l.length = n) (h1 : n ≤ 9223372036854775807) (w : World) (ha : IntsAt .i64 w a l) :
    Calls Try.prog 26 #[.slice a n c, .int .i64 k] w fun e w' => (∃ r : Int, e = .returned (.int .i64 r) ∧ (0 ≤ r ↔ k ∈ l)) ∧ Below w.heap.size w w' := by
  have HN := Lib.hid hn
  have HA := Lib.hid ha
  clear hn ha
  go_enter Try.func26, Try.ntmps26
  go_wp2_with fail
  go_loopg [5, 8] n (fun gk _ vi wx => ∃ i : Nat, i ≤ n ∧ gk = n - i ∧ vi = .int .i64 i ∧ (∀ j, j < i → l.getD j 0 ≠ k) ∧ Below w.heap.size w wx)
  case atStart => exact ⟨0, by omega, rfl, rfl, fun j h => by omega, Below.refl _ _⟩
  case round =>
    obtain ⟨i, g1, g2, rfl, hne, hbw⟩ := hrel
    have G2 := Lib.hid g2
    have HNE := Lib.hid hne
    clear g2 hne
    by_cases hlt : i < n
    · obtain ⟨x, rfl, hx, hcx⟩ := HA.out (by rw [HN.out]; omega)
      obtain ⟨p, hp⟩ : ∃ p, p = l.getD i 0 := ⟨_, rfl⟩
      have cx := (hbw.cell (by rw [block_of_add]; exact hx)).trans (hcx i (by rw [HN.out]; omega))
      rw [← hp] at cx
      have HP := Lib.hid hp
      clear hcx hp
      by_cases e : k = p
      · subst e
        have hee : (k == k) = true := by simp
        have hm : k ∈ l := by rw [HP.out]; exact getD_mem (by rw [HN.out]; exact hlt)
        have HM := Lib.hid hm
        clear hm
        go_wp2
        go_ret
        exact ⟨⟨(i : Int), rfl, ⟨fun _ => HM.out, fun _ => by omega⟩⟩, hbw⟩
      · have hee : (k == p) = false := by rw [beq_eq_false_iff_ne]; exact e
        go_wp2
        go_roundg (n - (i + 1))
        case measure => rw [G2.out]; omega
        case rel => exact ⟨i + 1, by omega, rfl, by go_num, fun j hj => by
          by_cases q : j = i
          · rw [q, ← HP.out]; exact fun h => e h.symm
          · exact HNE.out j (by omega), hbw⟩
    · go_wp2
      go_ret
      refine ⟨⟨-1, rfl, ⟨fun h => absurd h (by decide), fun h => ?_⟩⟩, hbw⟩
      obtain ⟨j, hj, hk⟩ := mem_getD h
      exact absurd hk (HNE.out j (by rw [HN.out] at hj; omega))
theorem contains_ints (a : Option Addr) (c n : Nat) (l : List Int) (k : Int) (hn : l.length = n) (h1 : n ≤ 9223372036854775807) (w : World) (ha : IntsAt .i64 w a l) :
    Calls Try.prog 22 #[.slice a n c, .int .i64 k] w fun e w' => e = .returned (.bool (decide (k ∈ l))) ∧ Below w.heap.size w w' := by
  have CI := Lib.hid (index_ints a c n l k hn h1 w ha)
  obtain ⟨b, hb⟩ : ∃ b, b = decide (k ∈ l) := ⟨_, rfl⟩
  rw [← hb]
  have HB := Lib.hid hb
  clear hb ha hn
  go_enter Try.func22, Try.ntmps22
  go_wp2_with fail
  refine CI.out.mono ?_
  rintro e w1 ⟨⟨r, rfl, hr⟩, hb1⟩
  by_cases h0 : 0 ≤ r
  · have HE := Lib.hid (show b = true by rw [HB.out]; exact decide_eq_true (hr.1 h0))
    clear hr
    go_wp2
    go_ret
    exact ⟨by rw [HE.out]; simp, hb1⟩
  · have HE := Lib.hid (show b = false by rw [HB.out]; exact decide_eq_false (fun h => h0 (hr.2 h)))
    clear hr
    go_wp2
    go_ret
    exact ⟨by rw [HE.out]; simp [h0], hb1⟩
/-- the closure: its list lies in a box -/
def BoxAt (w : World) (g : Nat) (l : List Int) : Prop := ∃ a c, w.cell? ⟨g, 0, none⟩ = some (.slice a l.length c) ∧ IntsAt .i64 w a l
theorem BoxAt.below {w w' : World} {g : Nat} {l : List Int} (h : BoxAt w g l) (hb : Below w.heap.size w w') : BoxAt w' g l := by
  obtain ⟨a, c, h1, h2⟩ := h
  exact ⟨a, c, cell_abides h1 hb, h2.below hb⟩
theorem clos_has (g : Nat) (l : List Int) (k : Int) (h1 : l.length ≤ 9223372036854775807) (w : World) (hx : BoxAt w g l) :
    Calls Try.prog 21 #[.int .i64 k, .pointer (some ⟨g, 0, none⟩)] w fun e w' => e = .returned (.bool (decide (k ∈ l))) ∧ Below w.heap.size w w' := by
  obtain ⟨a, c, hc, ha⟩ := hx
  obtain ⟨n, hn⟩ : ∃ n, n = l.length := ⟨_, rfl⟩
  have CC := Lib.hid (contains_ints a c n l k hn.symm (by omega) w ha)
  rw [← hn] at hc
  obtain ⟨b, hb⟩ : ∃ b, b = decide (k ∈ l) := ⟨_, rfl⟩
  rw [← hb] at CC ⊢
  clear hn ha hb
  go_enter Try.func21, Try.ntmps21
  go_wp2_with fail
  refine CC.out.mono ?_
  rintro e w1 ⟨rfl, hb1⟩
  go_wp2
  go_ret
  exact ⟨rfl, hb1⟩
set_option maxHeartbeats 2000000 in
theorem idxf_ints (a : Option Addr) (c n g : Nat) (l y : List Int) (hn : l.length = n) (h1 : n ≤ 9223372036854775807) (h2 : y.length ≤ 9223372036854775807) (w : World) (ha : IntsAt .i64 w a l) (hx : BoxAt w g y) :
    Calls Try.prog 25 #[.slice a n c, .func (.func 21) #[] #[.pointer (some ⟨g, 0, none⟩)]] w fun e w' => (∃ r : Int, e = .returned (.int .i64 r) ∧ (0 ≤ r ↔ ∃ k ∈ l, k ∈ y)) ∧ Below w.heap.size w w' := by
  have HN := Lib.hid hn
  have HA := Lib.hid ha
  have HX := Lib.hid hx
  clear hn ha hx
  go_enter Try.func25, Try.ntmps25
  go_wp2_with fail
  go_loopg [5, 8] n (fun gk _ vi wx => ∃ i : Nat, i ≤ n ∧ gk = n - i ∧ vi = .int .i64 i ∧ (∀ j, j < i → ¬ l.getD j 0 ∈ y) ∧ Below w.heap.size w wx)
  case atStart => exact ⟨0, by omega, rfl, rfl, fun j h => by omega, Below.refl _ _⟩
  case round =>
    obtain ⟨i, g1, g2, rfl, hne, hbw⟩ := hrel
    have G2 := Lib.hid g2
    have HNE := Lib.hid hne
    clear g2 hne
    by_cases hlt : i < n
    · obtain ⟨x, rfl, hx, hcx⟩ := HA.out (by rw [HN.out]; omega)
      obtain ⟨p, hp⟩ : ∃ p, p = l.getD i 0 := ⟨_, rfl⟩
      have cx := (hbw.cell (by rw [block_of_add]; exact hx)).trans (hcx i (by rw [HN.out]; omega))
      rw [← hp] at cx
      have HP := Lib.hid hp
      have CC := Lib.hid (clos_has g y p h2 wr (HX.out.below hbw))
      obtain ⟨b, hb⟩ : ∃ b, b = decide (p ∈ y) := ⟨_, rfl⟩
      rw [← hb] at CC
      have HB := Lib.hid hb
      clear hcx hp hb
      go_wp2_with fail
      refine CC.out.mono ?_
      rintro e w1 ⟨rfl, hb1⟩
      have hbw2 := bt hbw hb1
      clear hbw hb1 CC
      cases b with
      | true =>
        have hm : ∃ k ∈ l, k ∈ y := ⟨p, by rw [HP.out]; exact getD_mem (by rw [HN.out]; exact hlt), of_decide_eq_true HB.out.symm⟩
        have HM := Lib.hid hm
        clear hm
        go_wp2
        go_ret
        exact ⟨⟨(i : Int), rfl, ⟨fun _ => HM.out, fun _ => by omega⟩⟩, hbw2⟩
      | false =>
        have HE := Lib.hid (of_decide_eq_false HB.out.symm)
        go_wp2
        go_roundg (n - (i + 1))
        case measure => rw [G2.out]; omega
        case rel => exact ⟨i + 1, by omega, rfl, by go_num, fun j hj => by
          by_cases q : j = i
          · rw [q, ← HP.out]; exact HE.out
          · exact HNE.out j (by omega), hbw2⟩
    · go_wp2
      go_ret
      refine ⟨⟨-1, rfl, ⟨fun h => absurd h (by decide), fun h => ?_⟩⟩, hbw⟩
      obtain ⟨k, hk, hky⟩ := h
      obtain ⟨j, hj, rfl⟩ := mem_getD hk
      exact absurd hky (HNE.out j (by rw [HN.out] at hj; omega))
/-- two lists that meet -/
def meetB (x y : List Int) : Bool := x.any fun k => decide (k ∈ y)
theorem meetB_iff (x y : List Int) : meetB x y = true ↔ ∃ k ∈ x, k ∈ y := by unfold meetB; simp
theorem conf_ints (a : Option Addr) (c n g : Nat) (l y : List Int) (hn : l.length = n) (h1 : n ≤ 9223372036854775807) (h2 : y.length ≤ 9223372036854775807) (w : World) (ha : IntsAt .i64 w a l) (hx : BoxAt w g y) :
    Calls Try.prog 20 #[.slice a n c, .func (.func 21) #[] #[.pointer (some ⟨g, 0, none⟩)]] w fun e w' => e = .returned (.bool (meetB l y)) ∧ Below w.heap.size w w' := by
  have CI := Lib.hid (idxf_ints a c n g l y hn h1 h2 w ha hx)
  obtain ⟨b, hb⟩ : ∃ b, b = meetB l y := ⟨_, rfl⟩
  rw [← hb]
  have HB := Lib.hid hb
  clear hb ha hn hx
  go_enter Try.func20, Try.ntmps20
  go_wp2_with fail
  refine CI.out.mono ?_
  rintro e w1 ⟨⟨r, rfl, hr⟩, hb1⟩
  by_cases h0 : 0 ≤ r
  · have HE := Lib.hid (show b = true by rw [HB.out]; exact (meetB_iff _ _).2 (hr.1 h0))
    clear hr
    go_wp2
    go_ret
    exact ⟨by rw [HE.out]; simp, hb1⟩
  · have HE := Lib.hid (show b = false by rw [HB.out, Bool.eq_false_iff]; exact fun h => h0 (hr.2 ((meetB_iff _ _).1 h)))
    clear hr
    go_wp2
    go_ret
    exact ⟨by rw [HE.out]; simp [h0], hb1⟩
set_option maxHeartbeats 2000000 in
theorem hits_ints (a b : Option Addr) (ca cb n m : Nat) (l y : List Int) (hn : l.length = n) (hm : y.length = m) (h1 : n ≤ 9223372036854775807) (h2 : m ≤ 9223372036854775807) (w : World) (ha : IntsAt .i64 w a l) (hb : IntsAt .i64 w b y) :
    Calls Try.prog 19 #[.slice a n ca, .slice b m cb] w fun e w' => e = .returned (.bool (meetB l y)) ∧ Below w.heap.size w w' := by
  have hb0 := (Below.refl w.heap.size w).alloc (Nat.le_refl _) (.cells #[.slice b m cb] 26)
  have hbox : BoxAt (w.alloc (.cells #[.slice b m cb] 26)) w.heap.size y := ⟨b, cb, by
    rw [hm]
    have := heap_alloc_new w (.cells #[.slice b m cb] 26)
    unfold World.cell?
    rw [this]; rfl, hb.below hb0⟩
  have CC := Lib.hid (conf_ints a ca n w.heap.size l y hn (by omega) (by omega) _ (ha.below hb0) hbox)
  have HB0 := Lib.hid hb0
  clear ha hb hb0 hbox hn hm
  go_enter Try.func19, Try.ntmps19
  go_wp2_with fail
  refine CC.out.mono ?_
  rintro e w1 ⟨rfl, hb1⟩
  go_wp2
  go_ret
  exact ⟨rfl, bt HB0.out hb1⟩
end Go.Proofs.Ytembjokbhbdoeaa
