/- Lemmas for the law SystemChecks: SystP, PlanSet, SystCl, SystQ, SystF. No conditions. -/
import Derived.Test.YtijeninfmjhbnaaDoorM02
import Derived.Test.YtijeninfmjhbnaaDoorM11
import Derived.BigQuiet
import Derived.Deep.QuietTactic
import Derived.Deep.LoopGhost
import Derived.Test.YtijeninfmjhbnaaDoorM06
import Derived.Test.YtijeninfmjhbnaaDoorM05
/- What a system's check computes: plain. -/
section
namespace Go.Proofs.YtijeninfmjhbnaaDoor
set_option linter.unusedVariables false
open Go.Nm
def refOk (ks : List KindV) (rk rf : Int) : Bool := decide (0 ≤ rk) && (decide (rk < ks.length) && (decide (0 ≤ rf) && decide (rf < (ks.getD rk.toNat default).fields.length)))
def setsB (d : Int) : Bool := decide (0 ≤ d) && decide (d ≤ 7)
def twoB (d : Int) : Bool := (decide (1 ≤ d) && decide (d ≤ 6)) || decide (d = 12)
def chB (d : Int) : Bool := decide (d = 8) || decide (d = 9)
def a1B (ks : List KindV) (x : ArgV) : Bool := if x.has then !refOk ks x.rk x.rf else decide (x.n < -1099511627776) || decide (1099511627776 < x.n)
def a2B (x : ArgV) : Bool := if x.has then decide (x.n ≠ 0) else !(decide (x.rk = 0) && decide (x.rf = 0))
def a3B (rs ws : List Int) (x : ArgV) : Bool := x.has && (!decide (x.rk ∈ rs) && !decide (x.rk ∈ ws))
def zeroB (x : ArgV) : Bool := !x.has && (decide (x.n = 0) && (decide (x.rk = 0) && decide (x.rf = 0)))
def op6 (rs ws : List Int) (o : OpV) : Int := if (a3B rs ws o.a || a3B rs ws o.b) = true then 8 else 0
def op5 (rs ws : List Int) (o : OpV) : Int := if (setsB o.do_ && !decide (o.tk ∈ ws)) = true then 8 else op6 rs ws o
def bad4 (ks : List KindV) (o : OpV) : Bool := setsB o.do_ && !refOk ks o.tk o.tf || chB o.do_ && (decide (o.tk < 0) || decide ((ks.length : Int) ≤ o.tk))
def op4 (ks : List KindV) (rs ws : List Int) (o : OpV) : Int := if bad4 ks o = true then 1 else op5 rs ws o
def bad3 (o : OpV) : Bool := !twoB o.do_ && !zeroB o.b || (!setsB o.do_ && !chB o.do_ && !(decide (o.tk = 0) && decide (o.tf = 0)) || chB o.do_ && decide (o.tf ≠ 0))
def op3 (ks : List KindV) (rs ws : List Int) (o : OpV) : Int := if bad3 o = true then 3 else op4 ks rs ws o
def op2 (ks : List KindV) (rs ws : List Int) (o : OpV) : Int := if (a2B o.a || a2B o.b) = true then 3 else op3 ks rs ws o
def op1 (ks : List KindV) (rs ws : List Int) (o : OpV) : Int := if (a1B ks o.a || a1B ks o.b) = true then 1 else op2 ks rs ws o
def opE (ks : List KindV) (rs ws : List Int) (o : OpV) : Int := if o.do_ < 0 ∨ 12 < o.do_ then 1 else op1 ks rs ws o
def setGo (n : Int) : Int → List Int → Int
  | _, [] => 0
  | last, x :: r => if x < 0 ∨ n ≤ x then 1 else if x ≤ last then 9 else setGo n x r
def setE (n : Nat) (l : List Int) : Int := setGo n (-1) l
def opsGo (ks : List KindV) (rs ws : List Int) : List OpV → Int
  | [] => 0
  | o :: r => if opE ks rs ws o ≠ 0 then opE ks rs ws o else opsGo ks rs ws r
def systE (ks : List KindV) (s : SystV) : Int :=
  if kindsE ks ≠ 0 then kindsE ks else if nameB s.name.data.toList = false then 3 else if 20 < s.ops.length then 2 else
  if setE ks.length s.withs ≠ 0 then setE ks.length s.withs else if setE ks.length s.without ≠ 0 then setE ks.length s.without else
  if setE ks.length s.reads ≠ 0 then setE ks.length s.reads else if setE ks.length s.writes ≠ 0 then setE ks.length s.writes else
  if s.withs.any (fun x => decide (x ∈ s.without)) = true then 10 else
  if (s.reads ++ s.writes).any (fun x => !decide (x ∈ s.withs)) = true then 8 else
  if fitAllE ks s.spawn ≠ 0 then fitAllE ks s.spawn else opsGo ks s.reads s.writes s.ops
end Go.Proofs.YtijeninfmjhbnaaDoor
end
/- Lists that meet: slices.Index, Contains, ContainsFunc with the closures of plan.Conflict; plan.Conflict. -/
section
namespace Go.Proofs.YtijeninfmjhbnaaDoor
open Go.ChangeShapes Go.WideShapes Go.ChangeAt Go.RowKit Go.Mem
set_option linter.unusedVariables false
theorem getD_mem {l : List Int} {i : Nat} (h : i < l.length) : l.getD i 0 ∈ l := by
  rw [List.getD_eq_getElem?_getD, List.getElem?_eq_getElem h]; exact List.getElem_mem h
theorem mem_getD {l : List Int} {k : Int} (h : k ∈ l) : ∃ i, i < l.length ∧ l.getD i 0 = k := by
  obtain ⟨i, hi, rfl⟩ := List.getElem_of_mem h
  exact ⟨i, hi, by rw [List.getD_eq_getElem?_getD, List.getElem?_eq_getElem hi]; rfl⟩
set_option maxHeartbeats 2000000 in
theorem index_ints (a : Option Addr) (c n : Nat) (l : List Int) (k : Int) (hn : l.length = n) (h1 : n ≤ 9223372036854775807) (w : World) (ha : IntsAt .i64 w a l) :
    Calls Tryd.prog 41 #[.slice a n c, .int .i64 k] w fun e w' => (∃ r : Int, e = .returned (.int .i64 r) ∧ (0 ≤ r ↔ k ∈ l)) ∧ Below w.heap.size w w' := by
  have HN := Lib.hid hn
  have HA := Lib.hid ha
  clear hn ha
  go_enter Tryd.func41, Tryd.ntmps41
  go_wp2_with fail
  go_loopg [5, 8] n (fun gk _ vi wx => ∃ i : Nat, i ≤ n ∧ gk = n - i ∧ vi = .int .i64 i ∧ (∀ j, j < i → l.getD j 0 ≠ k) ∧ Below w.heap.size w wx)
  case atStart => exact ⟨0, by omega, rfl, rfl, fun j h => by omega, Below.refl _ _⟩
  case round =>
    obtain ⟨i, g1, g2, rfl, hne, hbw⟩ := hrel
    have G2 := Lib.hid g2
    have HNE := Lib.hid hne
    clear g2 hne
    by_cases hlt : i < n
    · obtain ⟨x, rfl, hx, hcx⟩ := HA.out (by rw [HN.out]; omega)
      obtain ⟨p, hp⟩ : ∃ p, p = l.getD i 0 := ⟨_, rfl⟩
      have cx := (hbw.cell (by rw [block_of_add]; exact hx)).trans (hcx i (by rw [HN.out]; omega))
      rw [← hp] at cx
      have HP := Lib.hid hp
      clear hcx hp
      by_cases e : k = p
      · subst e
        have hee : (k == k) = true := by simp
        have hm : k ∈ l := by rw [HP.out]; exact getD_mem (by rw [HN.out]; exact hlt)
        have HM := Lib.hid hm
        clear hm
        go_wp2
        go_ret
        exact ⟨⟨(i : Int), rfl, ⟨fun _ => HM.out, fun _ => by omega⟩⟩, hbw⟩
      · have hee : (k == p) = false := by rw [beq_eq_false_iff_ne]; exact e
        go_wp2
        go_roundg (n - (i + 1))
        case measure => rw [G2.out]; omega
        case rel => exact ⟨i + 1, by omega, rfl, by go_num, fun j hj => by
          by_cases q : j = i
          · rw [q, ← HP.out]; exact fun h => e h.symm
          · exact HNE.out j (by omega), hbw⟩
    · go_wp2
      go_ret
      refine ⟨⟨-1, rfl, ⟨fun h => absurd h (by decide), fun h => ?_⟩⟩, hbw⟩
      obtain ⟨j, hj, hk⟩ := mem_getD h
      exact absurd hk (HNE.out j (by rw [HN.out] at hj; omega))
theorem contains_ints (a : Option Addr) (c n : Nat) (l : List Int) (k : Int) (hn : l.length = n) (h1 : n ≤ 9223372036854775807) (w : World) (ha : IntsAt .i64 w a l) :
    Calls Tryd.prog 21 #[.slice a n c, .int .i64 k] w fun e w' => e = .returned (.bool (decide (k ∈ l))) ∧ Below w.heap.size w w' := by
  have CI := Lib.hid (index_ints a c n l k hn h1 w ha)
  obtain ⟨b, hb⟩ : ∃ b, b = decide (k ∈ l) := ⟨_, rfl⟩
  rw [← hb]
  have HB := Lib.hid hb
  clear hb ha hn
  go_enter Tryd.func21, Tryd.ntmps21
  go_wp2_with fail
  refine CI.out.mono ?_
  rintro e w1 ⟨⟨r, rfl, hr⟩, hb1⟩
  by_cases h0 : 0 ≤ r
  · have HE := Lib.hid (show b = true by rw [HB.out]; exact decide_eq_true (hr.1 h0))
    clear hr
    go_wp2
    go_ret
    exact ⟨by rw [HE.out]; simp, hb1⟩
  · have HE := Lib.hid (show b = false by rw [HB.out]; exact decide_eq_false (fun h => h0 (hr.2 h)))
    clear hr
    go_wp2
    go_ret
    exact ⟨by rw [HE.out]; simp [h0], hb1⟩
/-- the closure: its list lies in a box -/
def BoxAt (w : World) (g : Nat) (l : List Int) : Prop := ∃ a c, w.cell? ⟨g, 0, none⟩ = some (.slice a l.length c) ∧ IntsAt .i64 w a l
theorem BoxAt.below {w w' : World} {g : Nat} {l : List Int} (h : BoxAt w g l) (hb : Below w.heap.size w w') : BoxAt w' g l := by
  obtain ⟨a, c, h1, h2⟩ := h
  exact ⟨a, c, cell_abides h1 hb, h2.below hb⟩
/-- two lists that meet -/
def meetB (x y : List Int) : Bool := x.any fun k => decide (k ∈ y)
theorem meetB_iff (x y : List Int) : meetB x y = true ↔ ∃ k ∈ x, k ∈ y := by unfold meetB; simp
end Go.Proofs.YtijeninfmjhbnaaDoor
end
/- slices.ContainsFunc at integers with the closures of system.Check. By program (gen_systcl.py). -/
section
namespace Go.Proofs.YtijeninfmjhbnaaDoor
open Go.ChangeShapes Go.WideShapes Go.ChangeAt Go.RowKit Go.Mem
set_option linter.unusedVariables false
/-- a list at the place q of a boxed struct -/
def BoxF (w : World) (g q : Nat) (l : List Int) : Prop := ∃ a c, w.cell? ⟨g, q, none⟩ = some (.slice a l.length c) ∧ IntsAt .i64 w a l
theorem BoxF.below {w w' : World} {g q : Nat} {l : List Int} (h : BoxF w g q l) (hb : Below w.heap.size w w') : BoxF w' g q l := by
  obtain ⟨a, c, h1, h2⟩ := h
  exact ⟨a, c, cell_abides h1 hb, h2.below hb⟩
def inP (k : Int) (l : List Int) : Bool := decide (k ∈ l)
theorem clos_in (g : Nat) (l : List Int) (k : Int) (h1 : l.length ≤ 9223372036854775807) (w : World) (hx : BoxF w g 2 l) :
    Calls Tryd.prog 20 #[.int .i64 k, .pointer (some ⟨g, 0, none⟩)] w fun e w' => e = .returned (.bool (inP k l)) ∧ Below w.heap.size w w' := by
  obtain ⟨a, c, hc, ha⟩ := hx
  obtain ⟨n, hn⟩ : ∃ n, n = l.length := ⟨_, rfl⟩
  have CC := Lib.hid (contains_ints a c n l k hn.symm (by omega) w ha)
  rw [← hn] at hc
  unfold inP
  obtain ⟨b, hb⟩ : ∃ b, b = decide (k ∈ l) := ⟨_, rfl⟩
  rw [← hb] at CC ⊢
  clear hn ha hb
  go_enter Tryd.func20, Tryd.ntmps20
  go_wp2_with fail
  refine CC.out.mono ?_
  rintro e w1 ⟨rfl, hb1⟩
  go_wp2
  go_ret
  exact ⟨rfl, hb1⟩
set_option maxHeartbeats 2000000 in
theorem idxf_in (a : Option Addr) (c n g : Nat) (l y : List Int) (hn : l.length = n) (h1 : n ≤ 9223372036854775807) (h2 : y.length ≤ 9223372036854775807) (w : World) (ha : IntsAt .i64 w a l) (hx : BoxF w g 2 y) :
    Calls Tryd.prog 40 #[.slice a n c, .func (.func 20) #[] #[.pointer (some ⟨g, 0, none⟩)]] w fun e w' => (∃ r : Int, e = .returned (.int .i64 r) ∧ (0 ≤ r ↔ ∃ k ∈ l, inP k y = true)) ∧ Below w.heap.size w w' := by
  have HN := Lib.hid hn
  have HA := Lib.hid ha
  have HX := Lib.hid hx
  clear hn ha hx
  go_enter Tryd.func40, Tryd.ntmps40
  go_wp2_with fail
  go_loopg [5, 8] n (fun gk _ vi wx => ∃ i : Nat, i ≤ n ∧ gk = n - i ∧ vi = .int .i64 i ∧ (∀ j, j < i → inP (l.getD j 0) y = false) ∧ Below w.heap.size w wx)
  case atStart => exact ⟨0, by omega, rfl, rfl, fun j h => by omega, Below.refl _ _⟩
  case round =>
    obtain ⟨i, g1, g2, rfl, hne, hbw⟩ := hrel
    have G2 := Lib.hid g2
    have HNE := Lib.hid hne
    clear g2 hne
    by_cases hlt : i < n
    · obtain ⟨x, rfl, hx, hcx⟩ := HA.out (by rw [HN.out]; omega)
      obtain ⟨p, hp⟩ : ∃ p, p = l.getD i 0 := ⟨_, rfl⟩
      have cx := (hbw.cell (by rw [block_of_add]; exact hx)).trans (hcx i (by rw [HN.out]; omega))
      rw [← hp] at cx
      have HP := Lib.hid hp
      have CC := Lib.hid (clos_in g y p h2 wr (HX.out.below hbw))
      obtain ⟨b, hb⟩ : ∃ b, b = inP p y := ⟨_, rfl⟩
      rw [← hb] at CC
      have HB := Lib.hid hb
      clear hcx hp hb
      go_wp2_with fail
      refine CC.out.mono ?_
      rintro e w1 ⟨rfl, hb1⟩
      have hbw2 := bt hbw hb1
      clear hbw hb1 CC
      cases b with
      | true =>
        have hm : ∃ k ∈ l, inP k y = true := ⟨p, by rw [HP.out]; exact getD_mem (by rw [HN.out]; exact hlt), HB.out.symm⟩
        have HM := Lib.hid hm
        clear hm
        go_wp2
        go_ret
        exact ⟨⟨(i : Int), rfl, ⟨fun _ => HM.out, fun _ => by omega⟩⟩, hbw2⟩
      | false =>
        go_wp2
        go_roundg (n - (i + 1))
        case measure => rw [G2.out]; omega
        case rel => exact ⟨i + 1, by omega, rfl, by go_num, fun j hj => by
          by_cases q : j = i
          · rw [q, ← HP.out]; exact HB.out.symm
          · exact HNE.out j (by omega), hbw2⟩
    · go_wp2
      go_ret
      refine ⟨⟨-1, rfl, ⟨fun h => absurd h (by decide), fun h => ?_⟩⟩, hbw⟩
      obtain ⟨k, hk, hky⟩ := h
      obtain ⟨j, hj, rfl⟩ := mem_getD hk
      rw [HNE.out j (by rw [HN.out] at hj; omega)] at hky
      cases hky
theorem conf_in (a : Option Addr) (c n g : Nat) (l y : List Int) (hn : l.length = n) (h1 : n ≤ 9223372036854775807) (h2 : y.length ≤ 9223372036854775807) (w : World) (ha : IntsAt .i64 w a l) (hx : BoxF w g 2 y) :
    Calls Tryd.prog 19 #[.slice a n c, .func (.func 20) #[] #[.pointer (some ⟨g, 0, none⟩)]] w fun e w' => e = .returned (.bool (l.any fun k => inP k y)) ∧ Below w.heap.size w w' := by
  have CI := Lib.hid (idxf_in a c n g l y hn h1 h2 w ha hx)
  obtain ⟨b, hb⟩ : ∃ b, b = l.any fun k => inP k y := ⟨_, rfl⟩
  have hiff : (l.any fun k => inP k y) = true ↔ ∃ k ∈ l, inP k y = true := by rw [List.any_eq_true]
  rw [← hb] at hiff ⊢
  have HIFF := Lib.hid hiff
  clear hb ha hn hx hiff
  go_enter Tryd.func19, Tryd.ntmps19
  go_wp2_with fail
  refine CI.out.mono ?_
  rintro e w1 ⟨⟨r, rfl, hr⟩, hb1⟩
  by_cases h0 : 0 ≤ r
  · have HE := Lib.hid (show b = true from HIFF.out.2 (hr.1 h0))
    clear hr
    go_wp2
    go_ret
    exact ⟨by rw [HE.out]; simp, hb1⟩
  · have HE := Lib.hid (show b = false by rw [Bool.eq_false_iff]; exact fun h => h0 (hr.2 (HIFF.out.1 h)))
    clear hr
    go_wp2
    go_ret
    exact ⟨by rw [HE.out]; simp [h0], hb1⟩
def outP (k : Int) (l : List Int) : Bool := !decide (k ∈ l)
theorem clos_out (g : Nat) (l : List Int) (k : Int) (h1 : l.length ≤ 9223372036854775807) (w : World) (hx : BoxF w g 1 l) :
    Calls Tryd.prog 23 #[.int .i64 k, .pointer (some ⟨g, 0, none⟩)] w fun e w' => e = .returned (.bool (outP k l)) ∧ Below w.heap.size w w' := by
  obtain ⟨a, c, hc, ha⟩ := hx
  obtain ⟨n, hn⟩ : ∃ n, n = l.length := ⟨_, rfl⟩
  have CC := Lib.hid (contains_ints a c n l k hn.symm (by omega) w ha)
  rw [← hn] at hc
  unfold outP
  obtain ⟨b, hb⟩ : ∃ b, b = decide (k ∈ l) := ⟨_, rfl⟩
  rw [← hb] at CC ⊢
  clear hn ha hb
  go_enter Tryd.func23, Tryd.ntmps23
  go_wp2_with fail
  refine CC.out.mono ?_
  rintro e w1 ⟨rfl, hb1⟩
  go_wp2
  go_ret
  exact ⟨rfl, hb1⟩
set_option maxHeartbeats 2000000 in
theorem idxf_out (a : Option Addr) (c n g : Nat) (l y : List Int) (hn : l.length = n) (h1 : n ≤ 9223372036854775807) (h2 : y.length ≤ 9223372036854775807) (w : World) (ha : IntsAt .i64 w a l) (hx : BoxF w g 1 y) :
    Calls Tryd.prog 40 #[.slice a n c, .func (.func 23) #[] #[.pointer (some ⟨g, 0, none⟩)]] w fun e w' => (∃ r : Int, e = .returned (.int .i64 r) ∧ (0 ≤ r ↔ ∃ k ∈ l, outP k y = true)) ∧ Below w.heap.size w w' := by
  have HN := Lib.hid hn
  have HA := Lib.hid ha
  have HX := Lib.hid hx
  clear hn ha hx
  go_enter Tryd.func40, Tryd.ntmps40
  go_wp2_with fail
  go_loopg [5, 8] n (fun gk _ vi wx => ∃ i : Nat, i ≤ n ∧ gk = n - i ∧ vi = .int .i64 i ∧ (∀ j, j < i → outP (l.getD j 0) y = false) ∧ Below w.heap.size w wx)
  case atStart => exact ⟨0, by omega, rfl, rfl, fun j h => by omega, Below.refl _ _⟩
  case round =>
    obtain ⟨i, g1, g2, rfl, hne, hbw⟩ := hrel
    have G2 := Lib.hid g2
    have HNE := Lib.hid hne
    clear g2 hne
    by_cases hlt : i < n
    · obtain ⟨x, rfl, hx, hcx⟩ := HA.out (by rw [HN.out]; omega)
      obtain ⟨p, hp⟩ : ∃ p, p = l.getD i 0 := ⟨_, rfl⟩
      have cx := (hbw.cell (by rw [block_of_add]; exact hx)).trans (hcx i (by rw [HN.out]; omega))
      rw [← hp] at cx
      have HP := Lib.hid hp
      have CC := Lib.hid (clos_out g y p h2 wr (HX.out.below hbw))
      obtain ⟨b, hb⟩ : ∃ b, b = outP p y := ⟨_, rfl⟩
      rw [← hb] at CC
      have HB := Lib.hid hb
      clear hcx hp hb
      go_wp2_with fail
      refine CC.out.mono ?_
      rintro e w1 ⟨rfl, hb1⟩
      have hbw2 := bt hbw hb1
      clear hbw hb1 CC
      cases b with
      | true =>
        have hm : ∃ k ∈ l, outP k y = true := ⟨p, by rw [HP.out]; exact getD_mem (by rw [HN.out]; exact hlt), HB.out.symm⟩
        have HM := Lib.hid hm
        clear hm
        go_wp2
        go_ret
        exact ⟨⟨(i : Int), rfl, ⟨fun _ => HM.out, fun _ => by omega⟩⟩, hbw2⟩
      | false =>
        go_wp2
        go_roundg (n - (i + 1))
        case measure => rw [G2.out]; omega
        case rel => exact ⟨i + 1, by omega, rfl, by go_num, fun j hj => by
          by_cases q : j = i
          · rw [q, ← HP.out]; exact HB.out.symm
          · exact HNE.out j (by omega), hbw2⟩
    · go_wp2
      go_ret
      refine ⟨⟨-1, rfl, ⟨fun h => absurd h (by decide), fun h => ?_⟩⟩, hbw⟩
      obtain ⟨k, hk, hky⟩ := h
      obtain ⟨j, hj, rfl⟩ := mem_getD hk
      rw [HNE.out j (by rw [HN.out] at hj; omega)] at hky
      cases hky
theorem conf_out (a : Option Addr) (c n g : Nat) (l y : List Int) (hn : l.length = n) (h1 : n ≤ 9223372036854775807) (h2 : y.length ≤ 9223372036854775807) (w : World) (ha : IntsAt .i64 w a l) (hx : BoxF w g 1 y) :
    Calls Tryd.prog 19 #[.slice a n c, .func (.func 23) #[] #[.pointer (some ⟨g, 0, none⟩)]] w fun e w' => e = .returned (.bool (l.any fun k => outP k y)) ∧ Below w.heap.size w w' := by
  have CI := Lib.hid (idxf_out a c n g l y hn h1 h2 w ha hx)
  obtain ⟨b, hb⟩ : ∃ b, b = l.any fun k => outP k y := ⟨_, rfl⟩
  have hiff : (l.any fun k => outP k y) = true ↔ ∃ k ∈ l, outP k y = true := by rw [List.any_eq_true]
  rw [← hb] at hiff ⊢
  have HIFF := Lib.hid hiff
  clear hb ha hn hx hiff
  go_enter Tryd.func19, Tryd.ntmps19
  go_wp2_with fail
  refine CI.out.mono ?_
  rintro e w1 ⟨⟨r, rfl, hr⟩, hb1⟩
  by_cases h0 : 0 ≤ r
  · have HE := Lib.hid (show b = true from HIFF.out.2 (hr.1 h0))
    clear hr
    go_wp2
    go_ret
    exact ⟨by rw [HE.out]; simp, hb1⟩
  · have HE := Lib.hid (show b = false by rw [Bool.eq_false_iff]; exact fun h => h0 (hr.2 (HIFF.out.1 h)))
    clear hr
    go_wp2
    go_ret
    exact ⟨by rw [HE.out]; simp [h0], hb1⟩
end Go.Proofs.YtijeninfmjhbnaaDoor
end
/- What system.Check computes: plain, by stages. -/
section
namespace Go.Proofs.YtijeninfmjhbnaaDoor
open Go.Nm
set_option linter.unusedVariables false
def fourL (s : SystV) : List (List Int) := [s.withs, s.without, s.reads, s.writes]
def setsGo (n : Nat) : List (List Int) → Int
  | [] => 0
  | l :: r => if setE n l ≠ 0 then setE n l else setsGo n r
def sy5 (ks : List KindV) (s : SystV) : Int := if fitAllE ks s.spawn ≠ 0 then fitAllE ks s.spawn else opsGo ks s.reads s.writes s.ops
def sy4 (ks : List KindV) (s : SystV) : Int := if ((s.reads ++ s.writes).any fun x => outP x s.withs) = true then 8 else sy5 ks s
def sy3 (ks : List KindV) (s : SystV) : Int := if (s.withs.any fun x => inP x s.without) = true then 10 else sy4 ks s
def sy2 (ks : List KindV) (s : SystV) : Int := if setsGo ks.length (fourL s) ≠ 0 then setsGo ks.length (fourL s) else sy3 ks s
def sy1 (ks : List KindV) (s : SystV) : Int := if nameB s.name.data.toList = false then 3 else if 20 < s.ops.length then 2 else sy2 ks s
def sysE (ks : List KindV) (s : SystV) : Int := if kindsE ks ≠ 0 then kindsE ks else sy1 ks s
theorem setGo_len (n : Nat) : ∀ (l : List Int) (last : Int), -1 ≤ last → setGo n last l = 0 → (l.length : Int) + last + 1 ≤ max (n : Int) (last + 1)
  | [], last, h0, _ => by simp; omega
  | x :: r, last, h0, h => by
    unfold setGo at h
    split at h
    · cases h
    · split at h
      · cases h
      · have := setGo_len n r x (by omega) h
        simp only [List.length_cons]
        omega
theorem setE_len {n : Nat} {l : List Int} (h : setE n l = 0) : l.length ≤ n := by
  have := setGo_len n l (-1) (by omega) h
  omega
theorem setsGo_all {n : Nat} : ∀ {L : List (List Int)}, setsGo n L = 0 → ∀ l ∈ L, setE n l = 0
  | [], _, l, hl => by cases hl
  | x :: r, h, l, hl => by
    unfold setsGo at h
    split at h
    · exact absurd h (by assumption)
    · rename_i hx
      rcases List.mem_cons.1 hl with rfl | hl
      · exact Decidable.not_not.1 hx
      · exact setsGo_all h l hl
end Go.Proofs.YtijeninfmjhbnaaDoor
end
/- system.isField, sets, two, set: by program (gen_systf.py). -/
section
namespace Go.Proofs.YtijeninfmjhbnaaDoor
open Go.ChangeShapes Go.WideShapes Go.ChangeAt Go.RowKit Go.Nm Go.Mem
set_option linter.unusedVariables false
theorem list28 {α : Type} {vs : List α} (h : vs.length = 28) : ∃ x0 x1 x2 x3 x4 x5 x6 x7 x8 x9 x10 x11 x12 x13 x14 x15 x16 x17 x18 x19 x20 x21 x22 x23 x24 x25 x26 x27, vs = [x0, x1, x2, x3, x4, x5, x6, x7, x8, x9, x10, x11, x12, x13, x14, x15, x16, x17, x18, x19, x20, x21, x22, x23, x24, x25, x26, x27] := by
  obtain ⟨x0, t0, rfl, h0⟩ := cons_of h
  obtain ⟨x1, t1, rfl, h1⟩ := cons_of h0
  obtain ⟨x2, t2, rfl, h2⟩ := cons_of h1
  obtain ⟨x3, t3, rfl, h3⟩ := cons_of h2
  obtain ⟨x4, t4, rfl, h4⟩ := cons_of h3
  obtain ⟨x5, t5, rfl, h5⟩ := cons_of h4
  obtain ⟨x6, t6, rfl, h6⟩ := cons_of h5
  obtain ⟨x7, t7, rfl, h7⟩ := cons_of h6
  obtain ⟨x8, t8, rfl, h8⟩ := cons_of h7
  obtain ⟨x9, t9, rfl, h9⟩ := cons_of h8
  obtain ⟨x10, t10, rfl, h10⟩ := cons_of h9
  obtain ⟨x11, t11, rfl, h11⟩ := cons_of h10
  obtain ⟨x12, t12, rfl, h12⟩ := cons_of h11
  obtain ⟨x13, t13, rfl, h13⟩ := cons_of h12
  obtain ⟨x14, t14, rfl, h14⟩ := cons_of h13
  obtain ⟨x15, t15, rfl, h15⟩ := cons_of h14
  obtain ⟨x16, t16, rfl, h16⟩ := cons_of h15
  obtain ⟨x17, t17, rfl, h17⟩ := cons_of h16
  obtain ⟨x18, t18, rfl, h18⟩ := cons_of h17
  obtain ⟨x19, t19, rfl, h19⟩ := cons_of h18
  obtain ⟨x20, t20, rfl, h20⟩ := cons_of h19
  obtain ⟨x21, t21, rfl, h21⟩ := cons_of h20
  obtain ⟨x22, t22, rfl, h22⟩ := cons_of h21
  obtain ⟨x23, t23, rfl, h23⟩ := cons_of h22
  obtain ⟨x24, t24, rfl, h24⟩ := cons_of h23
  obtain ⟨x25, t25, rfl, h25⟩ := cons_of h24
  obtain ⟨x26, t26, rfl, h26⟩ := cons_of h25
  obtain ⟨x27, t27, rfl, h27⟩ := cons_of h26
  exact ⟨x0, x1, x2, x3, x4, x5, x6, x7, x8, x9, x10, x11, x12, x13, x14, x15, x16, x17, x18, x19, x20, x21, x22, x23, x24, x25, x26, x27, by rw [List.eq_nil_of_length_eq_zero h27]⟩
def F_isfa (WB n cap : Nat) (a : Option Addr) (rk rf : Int) (jq : Nat) (v : Value) (w : World) : Prop :=
  match jq with
  | 0 => v = .pointer (some ⟨WB, 0, none⟩)
  | 1 => v = .int .i64 rk
  | 2 => v = .bool false
  | 3 => v = .bool false
  | 4 => v = undef
  | 5 => v = undef
  | 6 => v = undef
  | 7 => v = undef
  | 8 => v = undef
  | 9 => v = .bool false
  | 10 => v = .bool false
  | 11 => v = undef
  | 12 => v = undef
  | 13 => v = undef
  | 14 => v = .bool false
  | 15 => v = .bool false
  | 16 => v = undef
  | 17 => v = undef
  | 18 => v = undef
  | 19 => v = undef
  | 20 => v = undef
  | 21 => v = undef
  | 22 => v = undef
  | 23 => v = undef
  | 24 => v = undef
  | 25 => v = undef
  | 26 => v = .bool false
  | 27 => v = .bool false
  | _ => True
theorem F_isfa_mono (WB n cap : Nat) (a : Option Addr) (rk rf : Int) : Facts (F_isfa WB n cap  a  rk rf ) := ⟨by
  intro jq v w w' h hb
  unfold F_isfa at h ⊢
  split at h
  all_goals first
    | exact h
    | trivial⟩
def F_isfb (WB n cap : Nat) (a : Option Addr) (rk rf : Int) (jq : Nat) (v : Value) (w : World) : Prop :=
  match jq with
  | 0 => v = .pointer (some ⟨WB, 0, none⟩)
  | 1 => v = .int .i64 rk
  | 2 => v = .bool true
  | 3 => v = .bool true
  | 4 => v = .pointer (some ⟨WB, 0, none⟩)
  | 5 => v = .int .i64 rk
  | 6 => v = .slice a n cap
  | 7 => v = .int .i64 (n : Int)
  | 8 => v = .bool false
  | 9 => v = .bool false
  | 10 => v = .bool false
  | 11 => v = undef
  | 12 => v = undef
  | 13 => v = undef
  | 14 => v = .bool false
  | 15 => v = .bool false
  | 16 => v = undef
  | 17 => v = undef
  | 18 => v = undef
  | 19 => v = undef
  | 20 => v = undef
  | 21 => v = undef
  | 22 => v = undef
  | 23 => v = undef
  | 24 => v = undef
  | 25 => v = undef
  | 26 => v = .bool false
  | 27 => v = .bool false
  | _ => True
theorem F_isfb_mono (WB n cap : Nat) (a : Option Addr) (rk rf : Int) : Facts (F_isfb WB n cap  a  rk rf ) := ⟨by
  intro jq v w w' h hb
  unfold F_isfb at h ⊢
  split at h
  all_goals first
    | exact h
    | trivial⟩
def F_isfc (WB n cap kb ko q : Nat) (rf : Int) (af : Option Addr) (nf cf : Nat) (BB : Bool) (jq : Nat) (v : Value) (w : World) : Prop :=
  match jq with
  | 0 => v = .pointer (some ⟨WB, 0, none⟩)
  | 1 => v = .int .i64 (q : Int)
  | 2 => v = .bool true
  | 3 => v = .bool true
  | 4 => v = .pointer (some ⟨WB, 0, none⟩)
  | 5 => v = .int .i64 (q : Int)
  | 6 => v = .slice (some ⟨kb, ko, none⟩) n cap
  | 7 => v = .int .i64 (n : Int)
  | 8 => v = .bool true
  | 9 => v = .bool true
  | 10 => v = .bool true
  | 11 => v = .pointer (some ⟨WB, 1, none⟩)
  | 12 => v = .int .i64 rf
  | 13 => v = .bool false
  | 14 => v = .bool false
  | 15 => v = .bool false
  | 16 => v = undef
  | 17 => v = undef
  | 18 => v = undef
  | 19 => v = undef
  | 20 => v = undef
  | 21 => v = undef
  | 22 => v = undef
  | 23 => v = undef
  | 24 => v = undef
  | 25 => v = undef
  | 26 => v = .bool false
  | 27 => v = .bool false
  | _ => True
theorem F_isfc_mono (WB n cap kb ko q : Nat) (rf : Int) (af : Option Addr) (nf cf : Nat) (BB : Bool) : Facts (F_isfc WB n cap kb ko q  rf  af  nf cf  BB ) := ⟨by
  intro jq v w w' h hb
  unfold F_isfc at h ⊢
  split at h
  all_goals first
    | exact h
    | trivial⟩
def F_isfd (WB n cap kb ko q : Nat) (rf : Int) (af : Option Addr) (nf cf : Nat) (BB : Bool) (jq : Nat) (v : Value) (w : World) : Prop :=
  match jq with
  | 0 => v = .pointer (some ⟨WB, 0, none⟩)
  | 1 => v = .int .i64 (q : Int)
  | 2 => v = .bool true
  | 3 => v = .bool true
  | 4 => v = .pointer (some ⟨WB, 0, none⟩)
  | 5 => v = .int .i64 (q : Int)
  | 6 => v = .slice (some ⟨kb, ko, none⟩) n cap
  | 7 => v = .int .i64 (n : Int)
  | 8 => v = .bool true
  | 9 => v = .bool true
  | 10 => v = .bool true
  | 11 => v = .pointer (some ⟨WB, 1, none⟩)
  | 12 => v = .int .i64 rf
  | 13 => v = .bool true
  | 14 => v = .bool true
  | 15 => v = .bool true
  | 16 => v = .pointer (some ⟨WB, 1, none⟩)
  | 17 => v = .int .i64 rf
  | 18 => v = .slice (some ⟨kb, ko, none⟩) n cap
  | 19 => v = .pointer (some ⟨WB, 0, none⟩)
  | 20 => v = .int .i64 (q : Int)
  | 21 => v = .pointer (some ⟨kb, ko + q * 2, none⟩)
  | 22 => v = .pointer (some ⟨kb, ko + q * 2 + 1, none⟩)
  | 23 => v = .slice af nf cf
  | 24 => v = .int .i64 (nf : Int)
  | 25 => v = .bool BB
  | 26 => v = .bool BB
  | 27 => v = .bool BB
  | _ => True
theorem F_isfd_mono (WB n cap kb ko q : Nat) (rf : Int) (af : Option Addr) (nf cf : Nat) (BB : Bool) : Facts (F_isfd WB n cap kb ko q  rf  af  nf cf  BB ) := ⟨by
  intro jq v w w' h hb
  unfold F_isfd at h ⊢
  split at h
  all_goals first
    | exact h
    | trivial⟩

theorem sys_sets (d : Int) (w : World) : Calls Tryd.prog 51 #[.int .i64 d] w fun e w' => e = .returned (.bool (setsB d)) ∧ w = w' := by
  obtain ⟨B, hB⟩ : ∃ B, B = setsB d := ⟨_, rfl⟩
  rw [← hB]
  unfold setsB at hB
  go_enter Tryd.func51, Tryd.ntmps51
  by_cases h1 : d < 0
  · have f1 := decide_eq_false (show ¬ 0 ≤ d by omega)
    rw [f1] at hB
    have HB := Lib.hid hB
    clear hB
    go_wp2
    go_ret
    exact ⟨by rw [HB.out]; rfl, rfl⟩
  · have f1 := decide_eq_true (show 0 ≤ d by omega)
    rw [f1] at hB
    have HB := Lib.hid hB
    clear hB
    go_wp2
    go_ret
    exact ⟨by rw [HB.out]; simp, rfl⟩
theorem sys_two (d : Int) (w : World) : Calls Tryd.prog 50 #[.int .i64 d] w fun e w' => e = .returned (.bool (twoB d)) ∧ w = w' := by
  obtain ⟨B, hB⟩ : ∃ B, B = twoB d := ⟨_, rfl⟩
  rw [← hB]
  unfold twoB at hB
  have HB := Lib.hid hB
  clear hB
  go_enter Tryd.func50, Tryd.ntmps50
  by_cases h1 : d < 1
  · have f1 := decide_eq_false (show ¬ 1 ≤ d by omega)
    have f2 := decide_eq_false (show ¬ d = 12 by omega)
    have e := HB.out
    rw [f1, f2] at e
    have HB2 := Lib.hid e
    have f3 : (d == 12) = false := by rw [beq_eq_false_iff_ne]; omega
    clear HB e
    go_wp2
    go_ret
    exact ⟨by rw [HB2.out]; rfl, rfl⟩
  · have f1 := decide_eq_true (show 1 ≤ d by omega)
    by_cases h2 : d ≤ 6
    · have f2 := decide_eq_true h2
      have e := HB.out
      rw [f1, f2] at e
      have HB2 := Lib.hid e
      clear HB e
      go_wp2
      go_ret
      exact ⟨by rw [HB2.out]; rfl, rfl⟩
    · have f2 := decide_eq_false h2
      by_cases h3 : d = 12
      · have f3 : (d == 12) = true := by rw [beq_iff_eq]; exact h3
        have e := HB.out
        rw [f1, f2, decide_eq_true h3] at e
        have HB2 := Lib.hid e
        clear HB e
        go_wp2
        go_ret
        exact ⟨by rw [HB2.out]; rfl, rfl⟩
      · have f3 : (d == 12) = false := by rw [beq_eq_false_iff_ne]; exact h3
        have e := HB.out
        rw [f1, f2, decide_eq_false h3] at e
        have HB2 := Lib.hid e
        clear HB e
        go_wp2
        go_ret
        exact ⟨by rw [HB2.out]; rfl, rfl⟩
set_option maxRecDepth 20000 in
theorem sys_isField (ks : List KindV) (a : Option Addr) (n cap : Nat) (rk rf : Int) (hn : ks.length = n) (h1 : n ≤ 9223372036854775807) (W : World) (hz : SlAt 2 KindAt W a ks) :
    Calls Tryd.prog 49 #[.slice a n cap, .agg #[.int .i64 rk, .int .i64 rf]] W fun e w' => e = .returned (.bool (refOk ks rk rf)) ∧ Below W.heap.size W w' := by
  obtain ⟨B, hB⟩ : ∃ B, B = refOk ks rk rf := ⟨_, rfl⟩
  rw [← hB]
  unfold refOk at hB
  rw [hn] at hB
  have hb0 := (Below.refl W.heap.size W).alloc (Nat.le_refl _) (.cells #[.int .i64 rk, .int .i64 rf] 53)
  have hr := heap_alloc_new W (.cells #[.int .i64 rk, .int .i64 rf] 53)
  obtain ⟨wr, hwr⟩ : ∃ w, w = W.alloc (.cells #[.int .i64 rk, .int .i64 rf] 53) := ⟨_, rfl⟩
  rw [← hwr] at hb0 hr
  have Q0 := Lib.hid (cell_of_row _ _ 0 _ _ _ hr)
  have Q1 := Lib.hid (cell_of_row _ _ 1 _ _ _ hr)
  have HW := Lib.hid hwr
  have HZ := Lib.hid (hz.below KindAt.abides hb0)
  have HN := Lib.hid hn
  have HB := Lib.hid hB
  have HB0 := Lib.hid hb0
  have H1 := Lib.hid h1
  clear hB hb0 hr hwr hz hn h1
  go_enter Tryd.func49, Tryd.ntmps49
  by_cases h1 : rk < 0
  · have e := HB.out
    rw [decide_eq_false (show ¬ 0 ≤ rk by omega)] at e
    have HB2 := Lib.hid e
    have hcmp : ¬ 0 ≤ rk := by omega
    clear HB e
    go_wp2_with fail
    rw [← HW.out]
    refine wp_region_facts_t rfl 28 (by kernel_rfl) (F_isfa W.heap.size n cap a rk rf) (F_isfa_mono W.heap.size n cap a rk rf) ?_ ?_
    · refine ⟨?_, ?_, ?_, ?_, ?_, ?_, ?_, ?_, ?_, ?_, ?_, ?_, ?_, ?_, ?_, ?_, ?_, ?_, ?_, ?_, ?_, ?_, ?_, ?_, ?_, ?_, ?_, ?_, trivial⟩
      · intro vs w' F hb hd hF hl hT
        have e := (hF 3).trans (look_out _ 3 _ _ (by kernel_rfl))
        exact one_field _ _ _ rfl rfl _ _ e (0) (fun w => by kernel_rfl) ⟨_, rfl, Below.refl _ _, rfl⟩
      · intro vs w' F hb hd hF hl hT
        have e := ((hF 5).trans (look_at _ 5 0 _ _ (by kernel_rfl) (by kernel_rfl) hl)).trans (dep_of (Fact := F_isfa W.heap.size n cap a rk rf) hd 0 (by kernel_rfl))
        exact one_load _ _ rfl rfl _ _ e (cell_abides Q0.out hb) (by kernel_rfl) ⟨_, rfl, Below.refl _ _, rfl⟩
      · intro vs w' F hb hd hF hl hT
        have e1 := ((hF 6).trans (look_at _ 6 1 _ _ (by kernel_rfl) (by kernel_rfl) hl)).trans (dep_of (Fact := F_isfa W.heap.size n cap a rk rf) hd 1 (by kernel_rfl))
        exact rg_geq _ _ _ _ rfl rfl .i64 (rk) (0) false e1 rfl (decide_eq_false (by omega)) ⟨_, rfl, Below.refl _ _, rfl⟩
      · intro vs w' F hb hd hF hl hT
        have e := ((hF 7).trans (look_at _ 7 2 _ _ (by kernel_rfl) (by kernel_rfl) hl)).trans (dep_of (Fact := F_isfa W.heap.size n cap a rk rf) hd 2 (by kernel_rfl))
        exact one_move _ rfl (by first | exact Or.inl rfl | exact Or.inr rfl) ⟨_, rfl, Below.refl _ _, e⟩
      · intro vs w' F hb hd hF hl hT
        have eg := ((hF 8).trans (look_at _ 8 3 _ _ (by kernel_rfl) (by kernel_rfl) hl)).trans (dep_of (Fact := F_isfa W.heap.size n cap a rk rf) hd 3 (by kernel_rfl))
        exact wpList_off rfl (t := 8) (d := false) (by kernel_rfl) eg (by decide) ⟨_, rfl, Below.refl _ _, rfl⟩
      · intro vs w' F hb hd hF hl hT
        have eg := ((hF 8).trans (look_at _ 8 3 _ _ (by kernel_rfl) (by kernel_rfl) hl)).trans (dep_of (Fact := F_isfa W.heap.size n cap a rk rf) hd 3 (by kernel_rfl))
        exact wpList_off rfl (t := 8) (d := false) (by kernel_rfl) eg (by decide) ⟨_, rfl, Below.refl _ _, rfl⟩
      · intro vs w' F hb hd hF hl hT
        have eg := ((hF 8).trans (look_at _ 8 3 _ _ (by kernel_rfl) (by kernel_rfl) hl)).trans (dep_of (Fact := F_isfa W.heap.size n cap a rk rf) hd 3 (by kernel_rfl))
        exact wpList_off rfl (t := 8) (d := false) (by kernel_rfl) eg (by decide) ⟨_, rfl, Below.refl _ _, rfl⟩
      · intro vs w' F hb hd hF hl hT
        have eg := ((hF 8).trans (look_at _ 8 3 _ _ (by kernel_rfl) (by kernel_rfl) hl)).trans (dep_of (Fact := F_isfa W.heap.size n cap a rk rf) hd 3 (by kernel_rfl))
        exact wpList_off rfl (t := 8) (d := false) (by kernel_rfl) eg (by decide) ⟨_, rfl, Below.refl _ _, rfl⟩
      · intro vs w' F hb hd hF hl hT
        have eg := ((hF 8).trans (look_at _ 8 3 _ _ (by kernel_rfl) (by kernel_rfl) hl)).trans (dep_of (Fact := F_isfa W.heap.size n cap a rk rf) hd 3 (by kernel_rfl))
        exact wpList_off rfl (t := 8) (d := false) (by kernel_rfl) eg (by decide) ⟨_, rfl, Below.refl _ _, rfl⟩
      · intro vs w' F hb hd hF hl hT
        have ec := ((hF 8).trans (look_at _ 8 3 _ _ (by kernel_rfl) (by kernel_rfl) hl)).trans (dep_of (Fact := F_isfa W.heap.size n cap a rk rf) hd 3 (by kernel_rfl))
        exact one_pick_f _ _ _ rfl rfl _ ec rfl ⟨_, rfl, Below.refl _ _, rfl⟩
      · intro vs w' F hb hd hF hl hT
        have e := ((hF 14).trans (look_at _ 14 9 _ _ (by kernel_rfl) (by kernel_rfl) hl)).trans (dep_of (Fact := F_isfa W.heap.size n cap a rk rf) hd 9 (by kernel_rfl))
        exact one_move _ rfl (by first | exact Or.inl rfl | exact Or.inr rfl) ⟨_, rfl, Below.refl _ _, e⟩
      · intro vs w' F hb hd hF hl hT
        have eg := ((hF 15).trans (look_at _ 15 10 _ _ (by kernel_rfl) (by kernel_rfl) hl)).trans (dep_of (Fact := F_isfa W.heap.size n cap a rk rf) hd 10 (by kernel_rfl))
        exact wpList_off rfl (t := 15) (d := false) (by kernel_rfl) eg (by decide) ⟨_, rfl, Below.refl _ _, rfl⟩
      · intro vs w' F hb hd hF hl hT
        have eg := ((hF 15).trans (look_at _ 15 10 _ _ (by kernel_rfl) (by kernel_rfl) hl)).trans (dep_of (Fact := F_isfa W.heap.size n cap a rk rf) hd 10 (by kernel_rfl))
        exact wpList_off rfl (t := 15) (d := false) (by kernel_rfl) eg (by decide) ⟨_, rfl, Below.refl _ _, rfl⟩
      · intro vs w' F hb hd hF hl hT
        have eg := ((hF 15).trans (look_at _ 15 10 _ _ (by kernel_rfl) (by kernel_rfl) hl)).trans (dep_of (Fact := F_isfa W.heap.size n cap a rk rf) hd 10 (by kernel_rfl))
        exact wpList_off rfl (t := 15) (d := false) (by kernel_rfl) eg (by decide) ⟨_, rfl, Below.refl _ _, rfl⟩
      · intro vs w' F hb hd hF hl hT
        have ec := ((hF 15).trans (look_at _ 15 10 _ _ (by kernel_rfl) (by kernel_rfl) hl)).trans (dep_of (Fact := F_isfa W.heap.size n cap a rk rf) hd 10 (by kernel_rfl))
        exact one_pick_f _ _ _ rfl rfl _ ec rfl ⟨_, rfl, Below.refl _ _, rfl⟩
      · intro vs w' F hb hd hF hl hT
        have e := ((hF 19).trans (look_at _ 19 14 _ _ (by kernel_rfl) (by kernel_rfl) hl)).trans (dep_of (Fact := F_isfa W.heap.size n cap a rk rf) hd 14 (by kernel_rfl))
        exact one_move _ rfl (by first | exact Or.inl rfl | exact Or.inr rfl) ⟨_, rfl, Below.refl _ _, e⟩
      · intro vs w' F hb hd hF hl hT
        have eg := ((hF 20).trans (look_at _ 20 15 _ _ (by kernel_rfl) (by kernel_rfl) hl)).trans (dep_of (Fact := F_isfa W.heap.size n cap a rk rf) hd 15 (by kernel_rfl))
        exact wpList_off rfl (t := 20) (d := false) (by kernel_rfl) eg (by decide) ⟨_, rfl, Below.refl _ _, rfl⟩
      · intro vs w' F hb hd hF hl hT
        have eg := ((hF 20).trans (look_at _ 20 15 _ _ (by kernel_rfl) (by kernel_rfl) hl)).trans (dep_of (Fact := F_isfa W.heap.size n cap a rk rf) hd 15 (by kernel_rfl))
        exact wpList_off rfl (t := 20) (d := false) (by kernel_rfl) eg (by decide) ⟨_, rfl, Below.refl _ _, rfl⟩
      · intro vs w' F hb hd hF hl hT
        have eg := ((hF 20).trans (look_at _ 20 15 _ _ (by kernel_rfl) (by kernel_rfl) hl)).trans (dep_of (Fact := F_isfa W.heap.size n cap a rk rf) hd 15 (by kernel_rfl))
        exact wpList_off rfl (t := 20) (d := false) (by kernel_rfl) eg (by decide) ⟨_, rfl, Below.refl _ _, rfl⟩
      · intro vs w' F hb hd hF hl hT
        have eg := ((hF 20).trans (look_at _ 20 15 _ _ (by kernel_rfl) (by kernel_rfl) hl)).trans (dep_of (Fact := F_isfa W.heap.size n cap a rk rf) hd 15 (by kernel_rfl))
        exact wpList_off rfl (t := 20) (d := false) (by kernel_rfl) eg (by decide) ⟨_, rfl, Below.refl _ _, rfl⟩
      · intro vs w' F hb hd hF hl hT
        have eg := ((hF 20).trans (look_at _ 20 15 _ _ (by kernel_rfl) (by kernel_rfl) hl)).trans (dep_of (Fact := F_isfa W.heap.size n cap a rk rf) hd 15 (by kernel_rfl))
        exact wpList_off rfl (t := 20) (d := false) (by kernel_rfl) eg (by decide) ⟨_, rfl, Below.refl _ _, rfl⟩
      · intro vs w' F hb hd hF hl hT
        have eg := ((hF 20).trans (look_at _ 20 15 _ _ (by kernel_rfl) (by kernel_rfl) hl)).trans (dep_of (Fact := F_isfa W.heap.size n cap a rk rf) hd 15 (by kernel_rfl))
        exact wpList_off rfl (t := 20) (d := false) (by kernel_rfl) eg (by decide) ⟨_, rfl, Below.refl _ _, rfl⟩
      · intro vs w' F hb hd hF hl hT
        have eg := ((hF 20).trans (look_at _ 20 15 _ _ (by kernel_rfl) (by kernel_rfl) hl)).trans (dep_of (Fact := F_isfa W.heap.size n cap a rk rf) hd 15 (by kernel_rfl))
        exact wpList_off rfl (t := 20) (d := false) (by kernel_rfl) eg (by decide) ⟨_, rfl, Below.refl _ _, rfl⟩
      · intro vs w' F hb hd hF hl hT
        have eg := ((hF 20).trans (look_at _ 20 15 _ _ (by kernel_rfl) (by kernel_rfl) hl)).trans (dep_of (Fact := F_isfa W.heap.size n cap a rk rf) hd 15 (by kernel_rfl))
        exact wpList_off rfl (t := 20) (d := false) (by kernel_rfl) eg (by decide) ⟨_, rfl, Below.refl _ _, rfl⟩
      · intro vs w' F hb hd hF hl hT
        have eg := ((hF 20).trans (look_at _ 20 15 _ _ (by kernel_rfl) (by kernel_rfl) hl)).trans (dep_of (Fact := F_isfa W.heap.size n cap a rk rf) hd 15 (by kernel_rfl))
        exact wpList_off rfl (t := 20) (d := false) (by kernel_rfl) eg (by decide) ⟨_, rfl, Below.refl _ _, rfl⟩
      · intro vs w' F hb hd hF hl hT
        have eg := ((hF 20).trans (look_at _ 20 15 _ _ (by kernel_rfl) (by kernel_rfl) hl)).trans (dep_of (Fact := F_isfa W.heap.size n cap a rk rf) hd 15 (by kernel_rfl))
        exact wpList_off rfl (t := 20) (d := false) (by kernel_rfl) eg (by decide) ⟨_, rfl, Below.refl _ _, rfl⟩
      · intro vs w' F hb hd hF hl hT
        have ec := ((hF 20).trans (look_at _ 20 15 _ _ (by kernel_rfl) (by kernel_rfl) hl)).trans (dep_of (Fact := F_isfa W.heap.size n cap a rk rf) hd 15 (by kernel_rfl))
        exact one_pick_f _ _ _ rfl rfl _ ec rfl ⟨_, rfl, Below.refl _ _, rfl⟩
      · intro vs w' F hb hd hF hl hT
        have e := ((hF 31).trans (look_at _ 31 26 _ _ (by kernel_rfl) (by kernel_rfl) hl)).trans (dep_of (Fact := F_isfa W.heap.size n cap a rk rf) hd 26 (by kernel_rfl))
        exact one_move _ rfl (by first | exact Or.inl rfl | exact Or.inr rfl) ⟨_, rfl, Below.refl _ _, e⟩
    · intro vs8 W8 hl hb hI
      have hv : vs8.getD 27 undef = .bool false := hI 27 (by omega)
      obtain ⟨x0, x1, x2, x3, x4, x5, x6, x7, x8, x9, x10, x11, x12, x13, x14, x15, x16, x17, x18, x19, x20, x21, x22, x23, x24, x25, x26, x27, hvs⟩ := list28 hl
      subst hvs
      replace hv : x27 = .bool false := hv
      subst hv
      clear hI hl
      simp only [fillAll, Act.put, List.setIfInBounds_toArray, List.set_cons_succ, List.set_cons_zero]
      show wpList _ _ _ [] _ _
      go_wp2
      go_ret
      exact ⟨by rw [HB2.out]; rfl, bt HB0.out hb⟩
  · by_cases h2 : (n : Int) ≤ rk
    · have e := HB.out
      rw [decide_eq_true (show 0 ≤ rk by omega), decide_eq_false (show ¬ rk < (n : Int) by omega)] at e
      have HB2 := Lib.hid e
      clear HB e
      go_wp2_with fail
      rw [← HW.out]
      refine wp_region_facts_t rfl 28 (by kernel_rfl) (F_isfb W.heap.size n cap a rk rf) (F_isfb_mono W.heap.size n cap a rk rf) ?_ ?_
      · refine ⟨?_, ?_, ?_, ?_, ?_, ?_, ?_, ?_, ?_, ?_, ?_, ?_, ?_, ?_, ?_, ?_, ?_, ?_, ?_, ?_, ?_, ?_, ?_, ?_, ?_, ?_, ?_, ?_, trivial⟩
        · intro vs w' F hb hd hF hl hT
          have e := (hF 3).trans (look_out _ 3 _ _ (by kernel_rfl))
          exact one_field _ _ _ rfl rfl _ _ e (0) (fun w => by kernel_rfl) ⟨_, rfl, Below.refl _ _, rfl⟩
        · intro vs w' F hb hd hF hl hT
          have e := ((hF 5).trans (look_at _ 5 0 _ _ (by kernel_rfl) (by kernel_rfl) hl)).trans (dep_of (Fact := F_isfb W.heap.size n cap a rk rf) hd 0 (by kernel_rfl))
          exact one_load _ _ rfl rfl _ _ e (cell_abides Q0.out hb) (by kernel_rfl) ⟨_, rfl, Below.refl _ _, rfl⟩
        · intro vs w' F hb hd hF hl hT
          have e1 := ((hF 6).trans (look_at _ 6 1 _ _ (by kernel_rfl) (by kernel_rfl) hl)).trans (dep_of (Fact := F_isfb W.heap.size n cap a rk rf) hd 1 (by kernel_rfl))
          exact rg_geq _ _ _ _ rfl rfl .i64 (rk) (0) true e1 rfl (decide_eq_true (by omega)) ⟨_, rfl, Below.refl _ _, rfl⟩
        · intro vs w' F hb hd hF hl hT
          have e := ((hF 7).trans (look_at _ 7 2 _ _ (by kernel_rfl) (by kernel_rfl) hl)).trans (dep_of (Fact := F_isfb W.heap.size n cap a rk rf) hd 2 (by kernel_rfl))
          exact one_move _ rfl (by first | exact Or.inl rfl | exact Or.inr rfl) ⟨_, rfl, Below.refl _ _, e⟩
        · intro vs w' F hb hd hF hl hT
          have eg := ((hF 8).trans (look_at _ 8 3 _ _ (by kernel_rfl) (by kernel_rfl) hl)).trans (dep_of (Fact := F_isfb W.heap.size n cap a rk rf) hd 3 (by kernel_rfl))
          refine wpList_on rfl (t := 8) (by kernel_rfl) eg ?_
          have e := (hF 3).trans (look_out _ 3 _ _ (by kernel_rfl))
          exact one_field _ _ _ rfl rfl _ _ e (0) (fun w => by kernel_rfl) ⟨_, rfl, Below.refl _ _, rfl⟩
        · intro vs w' F hb hd hF hl hT
          have eg := ((hF 8).trans (look_at _ 8 3 _ _ (by kernel_rfl) (by kernel_rfl) hl)).trans (dep_of (Fact := F_isfb W.heap.size n cap a rk rf) hd 3 (by kernel_rfl))
          refine wpList_on rfl (t := 8) (by kernel_rfl) eg ?_
          have e := ((hF 9).trans (look_at _ 9 4 _ _ (by kernel_rfl) (by kernel_rfl) hl)).trans (dep_of (Fact := F_isfb W.heap.size n cap a rk rf) hd 4 (by kernel_rfl))
          exact one_load _ _ rfl rfl _ _ e (cell_abides Q0.out hb) (by kernel_rfl) ⟨_, rfl, Below.refl _ _, rfl⟩
        · intro vs w' F hb hd hF hl hT
          have eg := ((hF 8).trans (look_at _ 8 3 _ _ (by kernel_rfl) (by kernel_rfl) hl)).trans (dep_of (Fact := F_isfb W.heap.size n cap a rk rf) hd 3 (by kernel_rfl))
          refine wpList_on rfl (t := 8) (by kernel_rfl) eg ?_
          have e := (hF 0).trans (look_out _ 0 _ _ (by kernel_rfl))
          exact one_move _ rfl (by first | exact Or.inl rfl | exact Or.inr rfl) ⟨_, rfl, Below.refl _ _, e⟩
        · intro vs w' F hb hd hF hl hT
          have eg := ((hF 8).trans (look_at _ 8 3 _ _ (by kernel_rfl) (by kernel_rfl) hl)).trans (dep_of (Fact := F_isfb W.heap.size n cap a rk rf) hd 3 (by kernel_rfl))
          refine wpList_on rfl (t := 8) (by kernel_rfl) eg ?_
          have e := ((hF 11).trans (look_at _ 11 6 _ _ (by kernel_rfl) (by kernel_rfl) hl)).trans (dep_of (Fact := F_isfb W.heap.size n cap a rk rf) hd 6 (by kernel_rfl))
          exact rg_len _ 22 43 rfl rfl Tryd.underlying22 a (n) (cap) e ⟨_, rfl, Below.refl _ _, rfl⟩
        · intro vs w' F hb hd hF hl hT
          have eg := ((hF 8).trans (look_at _ 8 3 _ _ (by kernel_rfl) (by kernel_rfl) hl)).trans (dep_of (Fact := F_isfb W.heap.size n cap a rk rf) hd 3 (by kernel_rfl))
          refine wpList_on rfl (t := 8) (by kernel_rfl) eg ?_
          have e1 := ((hF 10).trans (look_at _ 10 5 _ _ (by kernel_rfl) (by kernel_rfl) hl)).trans (dep_of (Fact := F_isfb W.heap.size n cap a rk rf) hd 5 (by kernel_rfl))
          have e2 := ((hF 12).trans (look_at _ 12 7 _ _ (by kernel_rfl) (by kernel_rfl) hl)).trans (dep_of (Fact := F_isfb W.heap.size n cap a rk rf) hd 7 (by kernel_rfl))
          exact rg_lss _ _ _ _ rfl rfl .i64 (rk) ((n : Int)) false e1 e2 (decide_eq_false (by omega)) ⟨_, rfl, Below.refl _ _, rfl⟩
        · intro vs w' F hb hd hF hl hT
          have ec := ((hF 8).trans (look_at _ 8 3 _ _ (by kernel_rfl) (by kernel_rfl) hl)).trans (dep_of (Fact := F_isfb W.heap.size n cap a rk rf) hd 3 (by kernel_rfl))
          have e := ((hF 13).trans (look_at _ 13 8 _ _ (by kernel_rfl) (by kernel_rfl) hl)).trans (dep_of (Fact := F_isfb W.heap.size n cap a rk rf) hd 8 (by kernel_rfl))
          exact one_pick_t _ _ _ rfl rfl _ ec e ⟨_, rfl, Below.refl _ _, rfl⟩
        · intro vs w' F hb hd hF hl hT
          have e := ((hF 14).trans (look_at _ 14 9 _ _ (by kernel_rfl) (by kernel_rfl) hl)).trans (dep_of (Fact := F_isfb W.heap.size n cap a rk rf) hd 9 (by kernel_rfl))
          exact one_move _ rfl (by first | exact Or.inl rfl | exact Or.inr rfl) ⟨_, rfl, Below.refl _ _, e⟩
        · intro vs w' F hb hd hF hl hT
          have eg := ((hF 15).trans (look_at _ 15 10 _ _ (by kernel_rfl) (by kernel_rfl) hl)).trans (dep_of (Fact := F_isfb W.heap.size n cap a rk rf) hd 10 (by kernel_rfl))
          exact wpList_off rfl (t := 15) (d := false) (by kernel_rfl) eg (by decide) ⟨_, rfl, Below.refl _ _, rfl⟩
        · intro vs w' F hb hd hF hl hT
          have eg := ((hF 15).trans (look_at _ 15 10 _ _ (by kernel_rfl) (by kernel_rfl) hl)).trans (dep_of (Fact := F_isfb W.heap.size n cap a rk rf) hd 10 (by kernel_rfl))
          exact wpList_off rfl (t := 15) (d := false) (by kernel_rfl) eg (by decide) ⟨_, rfl, Below.refl _ _, rfl⟩
        · intro vs w' F hb hd hF hl hT
          have eg := ((hF 15).trans (look_at _ 15 10 _ _ (by kernel_rfl) (by kernel_rfl) hl)).trans (dep_of (Fact := F_isfb W.heap.size n cap a rk rf) hd 10 (by kernel_rfl))
          exact wpList_off rfl (t := 15) (d := false) (by kernel_rfl) eg (by decide) ⟨_, rfl, Below.refl _ _, rfl⟩
        · intro vs w' F hb hd hF hl hT
          have ec := ((hF 15).trans (look_at _ 15 10 _ _ (by kernel_rfl) (by kernel_rfl) hl)).trans (dep_of (Fact := F_isfb W.heap.size n cap a rk rf) hd 10 (by kernel_rfl))
          exact one_pick_f _ _ _ rfl rfl _ ec rfl ⟨_, rfl, Below.refl _ _, rfl⟩
        · intro vs w' F hb hd hF hl hT
          have e := ((hF 19).trans (look_at _ 19 14 _ _ (by kernel_rfl) (by kernel_rfl) hl)).trans (dep_of (Fact := F_isfb W.heap.size n cap a rk rf) hd 14 (by kernel_rfl))
          exact one_move _ rfl (by first | exact Or.inl rfl | exact Or.inr rfl) ⟨_, rfl, Below.refl _ _, e⟩
        · intro vs w' F hb hd hF hl hT
          have eg := ((hF 20).trans (look_at _ 20 15 _ _ (by kernel_rfl) (by kernel_rfl) hl)).trans (dep_of (Fact := F_isfb W.heap.size n cap a rk rf) hd 15 (by kernel_rfl))
          exact wpList_off rfl (t := 20) (d := false) (by kernel_rfl) eg (by decide) ⟨_, rfl, Below.refl _ _, rfl⟩
        · intro vs w' F hb hd hF hl hT
          have eg := ((hF 20).trans (look_at _ 20 15 _ _ (by kernel_rfl) (by kernel_rfl) hl)).trans (dep_of (Fact := F_isfb W.heap.size n cap a rk rf) hd 15 (by kernel_rfl))
          exact wpList_off rfl (t := 20) (d := false) (by kernel_rfl) eg (by decide) ⟨_, rfl, Below.refl _ _, rfl⟩
        · intro vs w' F hb hd hF hl hT
          have eg := ((hF 20).trans (look_at _ 20 15 _ _ (by kernel_rfl) (by kernel_rfl) hl)).trans (dep_of (Fact := F_isfb W.heap.size n cap a rk rf) hd 15 (by kernel_rfl))
          exact wpList_off rfl (t := 20) (d := false) (by kernel_rfl) eg (by decide) ⟨_, rfl, Below.refl _ _, rfl⟩
        · intro vs w' F hb hd hF hl hT
          have eg := ((hF 20).trans (look_at _ 20 15 _ _ (by kernel_rfl) (by kernel_rfl) hl)).trans (dep_of (Fact := F_isfb W.heap.size n cap a rk rf) hd 15 (by kernel_rfl))
          exact wpList_off rfl (t := 20) (d := false) (by kernel_rfl) eg (by decide) ⟨_, rfl, Below.refl _ _, rfl⟩
        · intro vs w' F hb hd hF hl hT
          have eg := ((hF 20).trans (look_at _ 20 15 _ _ (by kernel_rfl) (by kernel_rfl) hl)).trans (dep_of (Fact := F_isfb W.heap.size n cap a rk rf) hd 15 (by kernel_rfl))
          exact wpList_off rfl (t := 20) (d := false) (by kernel_rfl) eg (by decide) ⟨_, rfl, Below.refl _ _, rfl⟩
        · intro vs w' F hb hd hF hl hT
          have eg := ((hF 20).trans (look_at _ 20 15 _ _ (by kernel_rfl) (by kernel_rfl) hl)).trans (dep_of (Fact := F_isfb W.heap.size n cap a rk rf) hd 15 (by kernel_rfl))
          exact wpList_off rfl (t := 20) (d := false) (by kernel_rfl) eg (by decide) ⟨_, rfl, Below.refl _ _, rfl⟩
        · intro vs w' F hb hd hF hl hT
          have eg := ((hF 20).trans (look_at _ 20 15 _ _ (by kernel_rfl) (by kernel_rfl) hl)).trans (dep_of (Fact := F_isfb W.heap.size n cap a rk rf) hd 15 (by kernel_rfl))
          exact wpList_off rfl (t := 20) (d := false) (by kernel_rfl) eg (by decide) ⟨_, rfl, Below.refl _ _, rfl⟩
        · intro vs w' F hb hd hF hl hT
          have eg := ((hF 20).trans (look_at _ 20 15 _ _ (by kernel_rfl) (by kernel_rfl) hl)).trans (dep_of (Fact := F_isfb W.heap.size n cap a rk rf) hd 15 (by kernel_rfl))
          exact wpList_off rfl (t := 20) (d := false) (by kernel_rfl) eg (by decide) ⟨_, rfl, Below.refl _ _, rfl⟩
        · intro vs w' F hb hd hF hl hT
          have eg := ((hF 20).trans (look_at _ 20 15 _ _ (by kernel_rfl) (by kernel_rfl) hl)).trans (dep_of (Fact := F_isfb W.heap.size n cap a rk rf) hd 15 (by kernel_rfl))
          exact wpList_off rfl (t := 20) (d := false) (by kernel_rfl) eg (by decide) ⟨_, rfl, Below.refl _ _, rfl⟩
        · intro vs w' F hb hd hF hl hT
          have eg := ((hF 20).trans (look_at _ 20 15 _ _ (by kernel_rfl) (by kernel_rfl) hl)).trans (dep_of (Fact := F_isfb W.heap.size n cap a rk rf) hd 15 (by kernel_rfl))
          exact wpList_off rfl (t := 20) (d := false) (by kernel_rfl) eg (by decide) ⟨_, rfl, Below.refl _ _, rfl⟩
        · intro vs w' F hb hd hF hl hT
          have ec := ((hF 20).trans (look_at _ 20 15 _ _ (by kernel_rfl) (by kernel_rfl) hl)).trans (dep_of (Fact := F_isfb W.heap.size n cap a rk rf) hd 15 (by kernel_rfl))
          exact one_pick_f _ _ _ rfl rfl _ ec rfl ⟨_, rfl, Below.refl _ _, rfl⟩
        · intro vs w' F hb hd hF hl hT
          have e := ((hF 31).trans (look_at _ 31 26 _ _ (by kernel_rfl) (by kernel_rfl) hl)).trans (dep_of (Fact := F_isfb W.heap.size n cap a rk rf) hd 26 (by kernel_rfl))
          exact one_move _ rfl (by first | exact Or.inl rfl | exact Or.inr rfl) ⟨_, rfl, Below.refl _ _, e⟩
      · intro vs8 W8 hl hb hI
        have hv : vs8.getD 27 undef = .bool false := hI 27 (by omega)
        obtain ⟨x0, x1, x2, x3, x4, x5, x6, x7, x8, x9, x10, x11, x12, x13, x14, x15, x16, x17, x18, x19, x20, x21, x22, x23, x24, x25, x26, x27, hvs⟩ := list28 hl
        subst hvs
        replace hv : x27 = .bool false := hv
        subst hv
        clear hI hl
        simp only [fillAll, Act.put, List.setIfInBounds_toArray, List.set_cons_succ, List.set_cons_zero]
        show wpList _ _ _ [] _ _
        go_wp2
        go_ret
        exact ⟨by rw [HB2.out]; rfl, bt HB0.out hb⟩
    · obtain ⟨q, rfl⟩ : ∃ q : Nat, rk = (q : Int) := ⟨rk.toNat, by omega⟩
      have hq : q < n := by omega
      obtain ⟨x, rfl, hx, _⟩ := HZ.out (by rw [HN.out]; omega)
      obtain ⟨kb, ko, rfl, af, cf, hck, _⟩ := kind_cells HZ.out q (by rw [HN.out]; exact hq)
      have e := HB.out
      rw [decide_eq_true (show (0 : Int) ≤ (q : Int) by omega), decide_eq_true (show (q : Int) < (n : Int) by omega), Int.toNat_natCast, show ks.getD q default = ks[q]'(by rw [HN.out]; exact hq) by rw [List.getD_eq_getElem?_getD, List.getElem?_eq_getElem (by rw [HN.out]; exact hq)]; rfl] at e
      obtain ⟨nf, hnf⟩ : ∃ nf, nf = (ks[q]'(by rw [HN.out]; exact hq)).fields.length := ⟨_, rfl⟩
      rw [← hnf] at hck e
      have HCK := Lib.hid (hck 1 _ rfl)
      clear hck hnf hx
      by_cases h3 : rf < 0
      · rw [decide_eq_false (show ¬ 0 ≤ rf by omega)] at e
        have HB2 := Lib.hid e
        clear HB e
        go_wp2_with fail
        rw [← HW.out]
        refine wp_region_facts_t rfl 28 (by kernel_rfl) (F_isfc W.heap.size n cap kb ko q rf af nf cf true) (F_isfc_mono W.heap.size n cap kb ko q rf af nf cf true) ?_ ?_
        · refine ⟨?_, ?_, ?_, ?_, ?_, ?_, ?_, ?_, ?_, ?_, ?_, ?_, ?_, ?_, ?_, ?_, ?_, ?_, ?_, ?_, ?_, ?_, ?_, ?_, ?_, ?_, ?_, ?_, trivial⟩
          · intro vs w' F hb hd hF hl hT
            have e := (hF 3).trans (look_out _ 3 _ _ (by kernel_rfl))
            exact one_field _ _ _ rfl rfl _ _ e (0) (fun w => by kernel_rfl) ⟨_, rfl, Below.refl _ _, rfl⟩
          · intro vs w' F hb hd hF hl hT
            have e := ((hF 5).trans (look_at _ 5 0 _ _ (by kernel_rfl) (by kernel_rfl) hl)).trans (dep_of (Fact := F_isfc W.heap.size n cap kb ko q rf af nf cf true) hd 0 (by kernel_rfl))
            exact one_load _ _ rfl rfl _ _ e (cell_abides Q0.out hb) (by kernel_rfl) ⟨_, rfl, Below.refl _ _, rfl⟩
          · intro vs w' F hb hd hF hl hT
            have e1 := ((hF 6).trans (look_at _ 6 1 _ _ (by kernel_rfl) (by kernel_rfl) hl)).trans (dep_of (Fact := F_isfc W.heap.size n cap kb ko q rf af nf cf true) hd 1 (by kernel_rfl))
            exact rg_geq _ _ _ _ rfl rfl .i64 ((q : Int)) (0) true e1 rfl (decide_eq_true (by omega)) ⟨_, rfl, Below.refl _ _, rfl⟩
          · intro vs w' F hb hd hF hl hT
            have e := ((hF 7).trans (look_at _ 7 2 _ _ (by kernel_rfl) (by kernel_rfl) hl)).trans (dep_of (Fact := F_isfc W.heap.size n cap kb ko q rf af nf cf true) hd 2 (by kernel_rfl))
            exact one_move _ rfl (by first | exact Or.inl rfl | exact Or.inr rfl) ⟨_, rfl, Below.refl _ _, e⟩
          · intro vs w' F hb hd hF hl hT
            have eg := ((hF 8).trans (look_at _ 8 3 _ _ (by kernel_rfl) (by kernel_rfl) hl)).trans (dep_of (Fact := F_isfc W.heap.size n cap kb ko q rf af nf cf true) hd 3 (by kernel_rfl))
            refine wpList_on rfl (t := 8) (by kernel_rfl) eg ?_
            have e := (hF 3).trans (look_out _ 3 _ _ (by kernel_rfl))
            exact one_field _ _ _ rfl rfl _ _ e (0) (fun w => by kernel_rfl) ⟨_, rfl, Below.refl _ _, rfl⟩
          · intro vs w' F hb hd hF hl hT
            have eg := ((hF 8).trans (look_at _ 8 3 _ _ (by kernel_rfl) (by kernel_rfl) hl)).trans (dep_of (Fact := F_isfc W.heap.size n cap kb ko q rf af nf cf true) hd 3 (by kernel_rfl))
            refine wpList_on rfl (t := 8) (by kernel_rfl) eg ?_
            have e := ((hF 9).trans (look_at _ 9 4 _ _ (by kernel_rfl) (by kernel_rfl) hl)).trans (dep_of (Fact := F_isfc W.heap.size n cap kb ko q rf af nf cf true) hd 4 (by kernel_rfl))
            exact one_load _ _ rfl rfl _ _ e (cell_abides Q0.out hb) (by kernel_rfl) ⟨_, rfl, Below.refl _ _, rfl⟩
          · intro vs w' F hb hd hF hl hT
            have eg := ((hF 8).trans (look_at _ 8 3 _ _ (by kernel_rfl) (by kernel_rfl) hl)).trans (dep_of (Fact := F_isfc W.heap.size n cap kb ko q rf af nf cf true) hd 3 (by kernel_rfl))
            refine wpList_on rfl (t := 8) (by kernel_rfl) eg ?_
            have e := (hF 0).trans (look_out _ 0 _ _ (by kernel_rfl))
            exact one_move _ rfl (by first | exact Or.inl rfl | exact Or.inr rfl) ⟨_, rfl, Below.refl _ _, e⟩
          · intro vs w' F hb hd hF hl hT
            have eg := ((hF 8).trans (look_at _ 8 3 _ _ (by kernel_rfl) (by kernel_rfl) hl)).trans (dep_of (Fact := F_isfc W.heap.size n cap kb ko q rf af nf cf true) hd 3 (by kernel_rfl))
            refine wpList_on rfl (t := 8) (by kernel_rfl) eg ?_
            have e := ((hF 11).trans (look_at _ 11 6 _ _ (by kernel_rfl) (by kernel_rfl) hl)).trans (dep_of (Fact := F_isfc W.heap.size n cap kb ko q rf af nf cf true) hd 6 (by kernel_rfl))
            exact rg_len _ 22 43 rfl rfl Tryd.underlying22 (some ⟨kb, ko, none⟩) (n) (cap) e ⟨_, rfl, Below.refl _ _, rfl⟩
          · intro vs w' F hb hd hF hl hT
            have eg := ((hF 8).trans (look_at _ 8 3 _ _ (by kernel_rfl) (by kernel_rfl) hl)).trans (dep_of (Fact := F_isfc W.heap.size n cap kb ko q rf af nf cf true) hd 3 (by kernel_rfl))
            refine wpList_on rfl (t := 8) (by kernel_rfl) eg ?_
            have e1 := ((hF 10).trans (look_at _ 10 5 _ _ (by kernel_rfl) (by kernel_rfl) hl)).trans (dep_of (Fact := F_isfc W.heap.size n cap kb ko q rf af nf cf true) hd 5 (by kernel_rfl))
            have e2 := ((hF 12).trans (look_at _ 12 7 _ _ (by kernel_rfl) (by kernel_rfl) hl)).trans (dep_of (Fact := F_isfc W.heap.size n cap kb ko q rf af nf cf true) hd 7 (by kernel_rfl))
            exact rg_lss _ _ _ _ rfl rfl .i64 ((q : Int)) ((n : Int)) true e1 e2 (decide_eq_true (by omega)) ⟨_, rfl, Below.refl _ _, rfl⟩
          · intro vs w' F hb hd hF hl hT
            have ec := ((hF 8).trans (look_at _ 8 3 _ _ (by kernel_rfl) (by kernel_rfl) hl)).trans (dep_of (Fact := F_isfc W.heap.size n cap kb ko q rf af nf cf true) hd 3 (by kernel_rfl))
            have e := ((hF 13).trans (look_at _ 13 8 _ _ (by kernel_rfl) (by kernel_rfl) hl)).trans (dep_of (Fact := F_isfc W.heap.size n cap kb ko q rf af nf cf true) hd 8 (by kernel_rfl))
            exact one_pick_t _ _ _ rfl rfl _ ec e ⟨_, rfl, Below.refl _ _, rfl⟩
          · intro vs w' F hb hd hF hl hT
            have e := ((hF 14).trans (look_at _ 14 9 _ _ (by kernel_rfl) (by kernel_rfl) hl)).trans (dep_of (Fact := F_isfc W.heap.size n cap kb ko q rf af nf cf true) hd 9 (by kernel_rfl))
            exact one_move _ rfl (by first | exact Or.inl rfl | exact Or.inr rfl) ⟨_, rfl, Below.refl _ _, e⟩
          · intro vs w' F hb hd hF hl hT
            have eg := ((hF 15).trans (look_at _ 15 10 _ _ (by kernel_rfl) (by kernel_rfl) hl)).trans (dep_of (Fact := F_isfc W.heap.size n cap kb ko q rf af nf cf true) hd 10 (by kernel_rfl))
            refine wpList_on rfl (t := 15) (by kernel_rfl) eg ?_
            have e := (hF 3).trans (look_out _ 3 _ _ (by kernel_rfl))
            exact one_field _ _ _ rfl rfl _ _ e (1) (fun w => by kernel_rfl) ⟨_, rfl, Below.refl _ _, rfl⟩
          · intro vs w' F hb hd hF hl hT
            have eg := ((hF 15).trans (look_at _ 15 10 _ _ (by kernel_rfl) (by kernel_rfl) hl)).trans (dep_of (Fact := F_isfc W.heap.size n cap kb ko q rf af nf cf true) hd 10 (by kernel_rfl))
            refine wpList_on rfl (t := 15) (by kernel_rfl) eg ?_
            have e := ((hF 16).trans (look_at _ 16 11 _ _ (by kernel_rfl) (by kernel_rfl) hl)).trans (dep_of (Fact := F_isfc W.heap.size n cap kb ko q rf af nf cf true) hd 11 (by kernel_rfl))
            exact one_load _ _ rfl rfl _ _ e (cell_abides Q1.out hb) (by kernel_rfl) ⟨_, rfl, Below.refl _ _, rfl⟩
          · intro vs w' F hb hd hF hl hT
            have eg := ((hF 15).trans (look_at _ 15 10 _ _ (by kernel_rfl) (by kernel_rfl) hl)).trans (dep_of (Fact := F_isfc W.heap.size n cap kb ko q rf af nf cf true) hd 10 (by kernel_rfl))
            refine wpList_on rfl (t := 15) (by kernel_rfl) eg ?_
            have e1 := ((hF 17).trans (look_at _ 17 12 _ _ (by kernel_rfl) (by kernel_rfl) hl)).trans (dep_of (Fact := F_isfc W.heap.size n cap kb ko q rf af nf cf true) hd 12 (by kernel_rfl))
            exact rg_geq _ _ _ _ rfl rfl .i64 (rf) (0) false e1 rfl (decide_eq_false (by omega)) ⟨_, rfl, Below.refl _ _, rfl⟩
          · intro vs w' F hb hd hF hl hT
            have ec := ((hF 15).trans (look_at _ 15 10 _ _ (by kernel_rfl) (by kernel_rfl) hl)).trans (dep_of (Fact := F_isfc W.heap.size n cap kb ko q rf af nf cf true) hd 10 (by kernel_rfl))
            have e := ((hF 18).trans (look_at _ 18 13 _ _ (by kernel_rfl) (by kernel_rfl) hl)).trans (dep_of (Fact := F_isfc W.heap.size n cap kb ko q rf af nf cf true) hd 13 (by kernel_rfl))
            exact one_pick_t _ _ _ rfl rfl _ ec e ⟨_, rfl, Below.refl _ _, rfl⟩
          · intro vs w' F hb hd hF hl hT
            have e := ((hF 19).trans (look_at _ 19 14 _ _ (by kernel_rfl) (by kernel_rfl) hl)).trans (dep_of (Fact := F_isfc W.heap.size n cap kb ko q rf af nf cf true) hd 14 (by kernel_rfl))
            exact one_move _ rfl (by first | exact Or.inl rfl | exact Or.inr rfl) ⟨_, rfl, Below.refl _ _, e⟩
          · intro vs w' F hb hd hF hl hT
            have eg := ((hF 20).trans (look_at _ 20 15 _ _ (by kernel_rfl) (by kernel_rfl) hl)).trans (dep_of (Fact := F_isfc W.heap.size n cap kb ko q rf af nf cf true) hd 15 (by kernel_rfl))
            exact wpList_off rfl (t := 20) (d := false) (by kernel_rfl) eg (by decide) ⟨_, rfl, Below.refl _ _, rfl⟩
          · intro vs w' F hb hd hF hl hT
            have eg := ((hF 20).trans (look_at _ 20 15 _ _ (by kernel_rfl) (by kernel_rfl) hl)).trans (dep_of (Fact := F_isfc W.heap.size n cap kb ko q rf af nf cf true) hd 15 (by kernel_rfl))
            exact wpList_off rfl (t := 20) (d := false) (by kernel_rfl) eg (by decide) ⟨_, rfl, Below.refl _ _, rfl⟩
          · intro vs w' F hb hd hF hl hT
            have eg := ((hF 20).trans (look_at _ 20 15 _ _ (by kernel_rfl) (by kernel_rfl) hl)).trans (dep_of (Fact := F_isfc W.heap.size n cap kb ko q rf af nf cf true) hd 15 (by kernel_rfl))
            exact wpList_off rfl (t := 20) (d := false) (by kernel_rfl) eg (by decide) ⟨_, rfl, Below.refl _ _, rfl⟩
          · intro vs w' F hb hd hF hl hT
            have eg := ((hF 20).trans (look_at _ 20 15 _ _ (by kernel_rfl) (by kernel_rfl) hl)).trans (dep_of (Fact := F_isfc W.heap.size n cap kb ko q rf af nf cf true) hd 15 (by kernel_rfl))
            exact wpList_off rfl (t := 20) (d := false) (by kernel_rfl) eg (by decide) ⟨_, rfl, Below.refl _ _, rfl⟩
          · intro vs w' F hb hd hF hl hT
            have eg := ((hF 20).trans (look_at _ 20 15 _ _ (by kernel_rfl) (by kernel_rfl) hl)).trans (dep_of (Fact := F_isfc W.heap.size n cap kb ko q rf af nf cf true) hd 15 (by kernel_rfl))
            exact wpList_off rfl (t := 20) (d := false) (by kernel_rfl) eg (by decide) ⟨_, rfl, Below.refl _ _, rfl⟩
          · intro vs w' F hb hd hF hl hT
            have eg := ((hF 20).trans (look_at _ 20 15 _ _ (by kernel_rfl) (by kernel_rfl) hl)).trans (dep_of (Fact := F_isfc W.heap.size n cap kb ko q rf af nf cf true) hd 15 (by kernel_rfl))
            exact wpList_off rfl (t := 20) (d := false) (by kernel_rfl) eg (by decide) ⟨_, rfl, Below.refl _ _, rfl⟩
          · intro vs w' F hb hd hF hl hT
            have eg := ((hF 20).trans (look_at _ 20 15 _ _ (by kernel_rfl) (by kernel_rfl) hl)).trans (dep_of (Fact := F_isfc W.heap.size n cap kb ko q rf af nf cf true) hd 15 (by kernel_rfl))
            exact wpList_off rfl (t := 20) (d := false) (by kernel_rfl) eg (by decide) ⟨_, rfl, Below.refl _ _, rfl⟩
          · intro vs w' F hb hd hF hl hT
            have eg := ((hF 20).trans (look_at _ 20 15 _ _ (by kernel_rfl) (by kernel_rfl) hl)).trans (dep_of (Fact := F_isfc W.heap.size n cap kb ko q rf af nf cf true) hd 15 (by kernel_rfl))
            exact wpList_off rfl (t := 20) (d := false) (by kernel_rfl) eg (by decide) ⟨_, rfl, Below.refl _ _, rfl⟩
          · intro vs w' F hb hd hF hl hT
            have eg := ((hF 20).trans (look_at _ 20 15 _ _ (by kernel_rfl) (by kernel_rfl) hl)).trans (dep_of (Fact := F_isfc W.heap.size n cap kb ko q rf af nf cf true) hd 15 (by kernel_rfl))
            exact wpList_off rfl (t := 20) (d := false) (by kernel_rfl) eg (by decide) ⟨_, rfl, Below.refl _ _, rfl⟩
          · intro vs w' F hb hd hF hl hT
            have eg := ((hF 20).trans (look_at _ 20 15 _ _ (by kernel_rfl) (by kernel_rfl) hl)).trans (dep_of (Fact := F_isfc W.heap.size n cap kb ko q rf af nf cf true) hd 15 (by kernel_rfl))
            exact wpList_off rfl (t := 20) (d := false) (by kernel_rfl) eg (by decide) ⟨_, rfl, Below.refl _ _, rfl⟩
          · intro vs w' F hb hd hF hl hT
            have ec := ((hF 20).trans (look_at _ 20 15 _ _ (by kernel_rfl) (by kernel_rfl) hl)).trans (dep_of (Fact := F_isfc W.heap.size n cap kb ko q rf af nf cf true) hd 15 (by kernel_rfl))
            exact one_pick_f _ _ _ rfl rfl _ ec rfl ⟨_, rfl, Below.refl _ _, rfl⟩
          · intro vs w' F hb hd hF hl hT
            have e := ((hF 31).trans (look_at _ 31 26 _ _ (by kernel_rfl) (by kernel_rfl) hl)).trans (dep_of (Fact := F_isfc W.heap.size n cap kb ko q rf af nf cf true) hd 26 (by kernel_rfl))
            exact one_move _ rfl (by first | exact Or.inl rfl | exact Or.inr rfl) ⟨_, rfl, Below.refl _ _, e⟩
        · intro vs8 W8 hl hb hI
          have hv : vs8.getD 27 undef = .bool false := hI 27 (by omega)
          obtain ⟨x0, x1, x2, x3, x4, x5, x6, x7, x8, x9, x10, x11, x12, x13, x14, x15, x16, x17, x18, x19, x20, x21, x22, x23, x24, x25, x26, x27, hvs⟩ := list28 hl
          subst hvs
          replace hv : x27 = .bool false := hv
          subst hv
          clear hI hl
          simp only [fillAll, Act.put, List.setIfInBounds_toArray, List.set_cons_succ, List.set_cons_zero]
          show wpList _ _ _ [] _ _
          go_wp2
          go_ret
          exact ⟨by rw [HB2.out]; rfl, bt HB0.out hb⟩
      · rw [decide_eq_true (show 0 ≤ rf by omega)] at e
        obtain ⟨BB, hBB⟩ : ∃ BB, BB = decide (rf < (nf : Int)) := ⟨_, rfl⟩
        rw [← hBB] at e
        have HB2 := Lib.hid e
        have HBB := Lib.hid hBB.symm
        clear HB e hBB
        go_wp2_with fail
        rw [← HW.out]
        refine wp_region_facts_t rfl 28 (by kernel_rfl) (F_isfd W.heap.size n cap kb ko q rf af nf cf BB) (F_isfd_mono W.heap.size n cap kb ko q rf af nf cf BB) ?_ ?_
        · refine ⟨?_, ?_, ?_, ?_, ?_, ?_, ?_, ?_, ?_, ?_, ?_, ?_, ?_, ?_, ?_, ?_, ?_, ?_, ?_, ?_, ?_, ?_, ?_, ?_, ?_, ?_, ?_, ?_, trivial⟩
          · intro vs w' F hb hd hF hl hT
            have e := (hF 3).trans (look_out _ 3 _ _ (by kernel_rfl))
            exact one_field _ _ _ rfl rfl _ _ e (0) (fun w => by kernel_rfl) ⟨_, rfl, Below.refl _ _, rfl⟩
          · intro vs w' F hb hd hF hl hT
            have e := ((hF 5).trans (look_at _ 5 0 _ _ (by kernel_rfl) (by kernel_rfl) hl)).trans (dep_of (Fact := F_isfd W.heap.size n cap kb ko q rf af nf cf BB) hd 0 (by kernel_rfl))
            exact one_load _ _ rfl rfl _ _ e (cell_abides Q0.out hb) (by kernel_rfl) ⟨_, rfl, Below.refl _ _, rfl⟩
          · intro vs w' F hb hd hF hl hT
            have e1 := ((hF 6).trans (look_at _ 6 1 _ _ (by kernel_rfl) (by kernel_rfl) hl)).trans (dep_of (Fact := F_isfd W.heap.size n cap kb ko q rf af nf cf BB) hd 1 (by kernel_rfl))
            exact rg_geq _ _ _ _ rfl rfl .i64 ((q : Int)) (0) true e1 rfl (decide_eq_true (by omega)) ⟨_, rfl, Below.refl _ _, rfl⟩
          · intro vs w' F hb hd hF hl hT
            have e := ((hF 7).trans (look_at _ 7 2 _ _ (by kernel_rfl) (by kernel_rfl) hl)).trans (dep_of (Fact := F_isfd W.heap.size n cap kb ko q rf af nf cf BB) hd 2 (by kernel_rfl))
            exact one_move _ rfl (by first | exact Or.inl rfl | exact Or.inr rfl) ⟨_, rfl, Below.refl _ _, e⟩
          · intro vs w' F hb hd hF hl hT
            have eg := ((hF 8).trans (look_at _ 8 3 _ _ (by kernel_rfl) (by kernel_rfl) hl)).trans (dep_of (Fact := F_isfd W.heap.size n cap kb ko q rf af nf cf BB) hd 3 (by kernel_rfl))
            refine wpList_on rfl (t := 8) (by kernel_rfl) eg ?_
            have e := (hF 3).trans (look_out _ 3 _ _ (by kernel_rfl))
            exact one_field _ _ _ rfl rfl _ _ e (0) (fun w => by kernel_rfl) ⟨_, rfl, Below.refl _ _, rfl⟩
          · intro vs w' F hb hd hF hl hT
            have eg := ((hF 8).trans (look_at _ 8 3 _ _ (by kernel_rfl) (by kernel_rfl) hl)).trans (dep_of (Fact := F_isfd W.heap.size n cap kb ko q rf af nf cf BB) hd 3 (by kernel_rfl))
            refine wpList_on rfl (t := 8) (by kernel_rfl) eg ?_
            have e := ((hF 9).trans (look_at _ 9 4 _ _ (by kernel_rfl) (by kernel_rfl) hl)).trans (dep_of (Fact := F_isfd W.heap.size n cap kb ko q rf af nf cf BB) hd 4 (by kernel_rfl))
            exact one_load _ _ rfl rfl _ _ e (cell_abides Q0.out hb) (by kernel_rfl) ⟨_, rfl, Below.refl _ _, rfl⟩
          · intro vs w' F hb hd hF hl hT
            have eg := ((hF 8).trans (look_at _ 8 3 _ _ (by kernel_rfl) (by kernel_rfl) hl)).trans (dep_of (Fact := F_isfd W.heap.size n cap kb ko q rf af nf cf BB) hd 3 (by kernel_rfl))
            refine wpList_on rfl (t := 8) (by kernel_rfl) eg ?_
            have e := (hF 0).trans (look_out _ 0 _ _ (by kernel_rfl))
            exact one_move _ rfl (by first | exact Or.inl rfl | exact Or.inr rfl) ⟨_, rfl, Below.refl _ _, e⟩
          · intro vs w' F hb hd hF hl hT
            have eg := ((hF 8).trans (look_at _ 8 3 _ _ (by kernel_rfl) (by kernel_rfl) hl)).trans (dep_of (Fact := F_isfd W.heap.size n cap kb ko q rf af nf cf BB) hd 3 (by kernel_rfl))
            refine wpList_on rfl (t := 8) (by kernel_rfl) eg ?_
            have e := ((hF 11).trans (look_at _ 11 6 _ _ (by kernel_rfl) (by kernel_rfl) hl)).trans (dep_of (Fact := F_isfd W.heap.size n cap kb ko q rf af nf cf BB) hd 6 (by kernel_rfl))
            exact rg_len _ 22 43 rfl rfl Tryd.underlying22 (some ⟨kb, ko, none⟩) (n) (cap) e ⟨_, rfl, Below.refl _ _, rfl⟩
          · intro vs w' F hb hd hF hl hT
            have eg := ((hF 8).trans (look_at _ 8 3 _ _ (by kernel_rfl) (by kernel_rfl) hl)).trans (dep_of (Fact := F_isfd W.heap.size n cap kb ko q rf af nf cf BB) hd 3 (by kernel_rfl))
            refine wpList_on rfl (t := 8) (by kernel_rfl) eg ?_
            have e1 := ((hF 10).trans (look_at _ 10 5 _ _ (by kernel_rfl) (by kernel_rfl) hl)).trans (dep_of (Fact := F_isfd W.heap.size n cap kb ko q rf af nf cf BB) hd 5 (by kernel_rfl))
            have e2 := ((hF 12).trans (look_at _ 12 7 _ _ (by kernel_rfl) (by kernel_rfl) hl)).trans (dep_of (Fact := F_isfd W.heap.size n cap kb ko q rf af nf cf BB) hd 7 (by kernel_rfl))
            exact rg_lss _ _ _ _ rfl rfl .i64 ((q : Int)) ((n : Int)) true e1 e2 (decide_eq_true (by omega)) ⟨_, rfl, Below.refl _ _, rfl⟩
          · intro vs w' F hb hd hF hl hT
            have ec := ((hF 8).trans (look_at _ 8 3 _ _ (by kernel_rfl) (by kernel_rfl) hl)).trans (dep_of (Fact := F_isfd W.heap.size n cap kb ko q rf af nf cf BB) hd 3 (by kernel_rfl))
            have e := ((hF 13).trans (look_at _ 13 8 _ _ (by kernel_rfl) (by kernel_rfl) hl)).trans (dep_of (Fact := F_isfd W.heap.size n cap kb ko q rf af nf cf BB) hd 8 (by kernel_rfl))
            exact one_pick_t _ _ _ rfl rfl _ ec e ⟨_, rfl, Below.refl _ _, rfl⟩
          · intro vs w' F hb hd hF hl hT
            have e := ((hF 14).trans (look_at _ 14 9 _ _ (by kernel_rfl) (by kernel_rfl) hl)).trans (dep_of (Fact := F_isfd W.heap.size n cap kb ko q rf af nf cf BB) hd 9 (by kernel_rfl))
            exact one_move _ rfl (by first | exact Or.inl rfl | exact Or.inr rfl) ⟨_, rfl, Below.refl _ _, e⟩
          · intro vs w' F hb hd hF hl hT
            have eg := ((hF 15).trans (look_at _ 15 10 _ _ (by kernel_rfl) (by kernel_rfl) hl)).trans (dep_of (Fact := F_isfd W.heap.size n cap kb ko q rf af nf cf BB) hd 10 (by kernel_rfl))
            refine wpList_on rfl (t := 15) (by kernel_rfl) eg ?_
            have e := (hF 3).trans (look_out _ 3 _ _ (by kernel_rfl))
            exact one_field _ _ _ rfl rfl _ _ e (1) (fun w => by kernel_rfl) ⟨_, rfl, Below.refl _ _, rfl⟩
          · intro vs w' F hb hd hF hl hT
            have eg := ((hF 15).trans (look_at _ 15 10 _ _ (by kernel_rfl) (by kernel_rfl) hl)).trans (dep_of (Fact := F_isfd W.heap.size n cap kb ko q rf af nf cf BB) hd 10 (by kernel_rfl))
            refine wpList_on rfl (t := 15) (by kernel_rfl) eg ?_
            have e := ((hF 16).trans (look_at _ 16 11 _ _ (by kernel_rfl) (by kernel_rfl) hl)).trans (dep_of (Fact := F_isfd W.heap.size n cap kb ko q rf af nf cf BB) hd 11 (by kernel_rfl))
            exact one_load _ _ rfl rfl _ _ e (cell_abides Q1.out hb) (by kernel_rfl) ⟨_, rfl, Below.refl _ _, rfl⟩
          · intro vs w' F hb hd hF hl hT
            have eg := ((hF 15).trans (look_at _ 15 10 _ _ (by kernel_rfl) (by kernel_rfl) hl)).trans (dep_of (Fact := F_isfd W.heap.size n cap kb ko q rf af nf cf BB) hd 10 (by kernel_rfl))
            refine wpList_on rfl (t := 15) (by kernel_rfl) eg ?_
            have e1 := ((hF 17).trans (look_at _ 17 12 _ _ (by kernel_rfl) (by kernel_rfl) hl)).trans (dep_of (Fact := F_isfd W.heap.size n cap kb ko q rf af nf cf BB) hd 12 (by kernel_rfl))
            exact rg_geq _ _ _ _ rfl rfl .i64 (rf) (0) true e1 rfl (decide_eq_true (by omega)) ⟨_, rfl, Below.refl _ _, rfl⟩
          · intro vs w' F hb hd hF hl hT
            have ec := ((hF 15).trans (look_at _ 15 10 _ _ (by kernel_rfl) (by kernel_rfl) hl)).trans (dep_of (Fact := F_isfd W.heap.size n cap kb ko q rf af nf cf BB) hd 10 (by kernel_rfl))
            have e := ((hF 18).trans (look_at _ 18 13 _ _ (by kernel_rfl) (by kernel_rfl) hl)).trans (dep_of (Fact := F_isfd W.heap.size n cap kb ko q rf af nf cf BB) hd 13 (by kernel_rfl))
            exact one_pick_t _ _ _ rfl rfl _ ec e ⟨_, rfl, Below.refl _ _, rfl⟩
          · intro vs w' F hb hd hF hl hT
            have e := ((hF 19).trans (look_at _ 19 14 _ _ (by kernel_rfl) (by kernel_rfl) hl)).trans (dep_of (Fact := F_isfd W.heap.size n cap kb ko q rf af nf cf BB) hd 14 (by kernel_rfl))
            exact one_move _ rfl (by first | exact Or.inl rfl | exact Or.inr rfl) ⟨_, rfl, Below.refl _ _, e⟩
          · intro vs w' F hb hd hF hl hT
            have eg := ((hF 20).trans (look_at _ 20 15 _ _ (by kernel_rfl) (by kernel_rfl) hl)).trans (dep_of (Fact := F_isfd W.heap.size n cap kb ko q rf af nf cf BB) hd 15 (by kernel_rfl))
            refine wpList_on rfl (t := 20) (by kernel_rfl) eg ?_
            have e := (hF 3).trans (look_out _ 3 _ _ (by kernel_rfl))
            exact one_field _ _ _ rfl rfl _ _ e (1) (fun w => by kernel_rfl) ⟨_, rfl, Below.refl _ _, rfl⟩
          · intro vs w' F hb hd hF hl hT
            have eg := ((hF 20).trans (look_at _ 20 15 _ _ (by kernel_rfl) (by kernel_rfl) hl)).trans (dep_of (Fact := F_isfd W.heap.size n cap kb ko q rf af nf cf BB) hd 15 (by kernel_rfl))
            refine wpList_on rfl (t := 20) (by kernel_rfl) eg ?_
            have e := ((hF 21).trans (look_at _ 21 16 _ _ (by kernel_rfl) (by kernel_rfl) hl)).trans (dep_of (Fact := F_isfd W.heap.size n cap kb ko q rf af nf cf BB) hd 16 (by kernel_rfl))
            exact one_load _ _ rfl rfl _ _ e (cell_abides Q1.out hb) (by kernel_rfl) ⟨_, rfl, Below.refl _ _, rfl⟩
          · intro vs w' F hb hd hF hl hT
            have eg := ((hF 20).trans (look_at _ 20 15 _ _ (by kernel_rfl) (by kernel_rfl) hl)).trans (dep_of (Fact := F_isfd W.heap.size n cap kb ko q rf af nf cf BB) hd 15 (by kernel_rfl))
            refine wpList_on rfl (t := 20) (by kernel_rfl) eg ?_
            have e := (hF 0).trans (look_out _ 0 _ _ (by kernel_rfl))
            exact one_move _ rfl (by first | exact Or.inl rfl | exact Or.inr rfl) ⟨_, rfl, Below.refl _ _, e⟩
          · intro vs w' F hb hd hF hl hT
            have eg := ((hF 20).trans (look_at _ 20 15 _ _ (by kernel_rfl) (by kernel_rfl) hl)).trans (dep_of (Fact := F_isfd W.heap.size n cap kb ko q rf af nf cf BB) hd 15 (by kernel_rfl))
            refine wpList_on rfl (t := 20) (by kernel_rfl) eg ?_
            have e := (hF 3).trans (look_out _ 3 _ _ (by kernel_rfl))
            exact one_field _ _ _ rfl rfl _ _ e (0) (fun w => by kernel_rfl) ⟨_, rfl, Below.refl _ _, rfl⟩
          · intro vs w' F hb hd hF hl hT
            have eg := ((hF 20).trans (look_at _ 20 15 _ _ (by kernel_rfl) (by kernel_rfl) hl)).trans (dep_of (Fact := F_isfd W.heap.size n cap kb ko q rf af nf cf BB) hd 15 (by kernel_rfl))
            refine wpList_on rfl (t := 20) (by kernel_rfl) eg ?_
            have e := ((hF 24).trans (look_at _ 24 19 _ _ (by kernel_rfl) (by kernel_rfl) hl)).trans (dep_of (Fact := F_isfd W.heap.size n cap kb ko q rf af nf cf BB) hd 19 (by kernel_rfl))
            exact one_load _ _ rfl rfl _ _ e (cell_abides Q0.out hb) (by kernel_rfl) ⟨_, rfl, Below.refl _ _, rfl⟩
          · intro vs w' F hb hd hF hl hT
            have eg := ((hF 20).trans (look_at _ 20 15 _ _ (by kernel_rfl) (by kernel_rfl) hl)).trans (dep_of (Fact := F_isfd W.heap.size n cap kb ko q rf af nf cf BB) hd 15 (by kernel_rfl))
            refine wpList_on rfl (t := 20) (by kernel_rfl) eg ?_
            have ex := ((hF 23).trans (look_at _ 23 18 _ _ (by kernel_rfl) (by kernel_rfl) hl)).trans (dep_of (Fact := F_isfd W.heap.size n cap kb ko q rf af nf cf BB) hd 18 (by kernel_rfl))
            have ey := ((hF 25).trans (look_at _ 25 20 _ _ (by kernel_rfl) (by kernel_rfl) hl)).trans (dep_of (Fact := F_isfd W.heap.size n cap kb ko q rf af nf cf BB) hd 20 (by kernel_rfl))
            exact one_index 22 _ _ rfl rfl (.slice (some ⟨kb, ko, none⟩) n cap) (.int .i64 (q : Int)) (.pointer (some ⟨kb, ko + q * 2, none⟩)) ex ey (fun w => rg_idx Tryd.underlying22 (show (Tryd.prog.info? 43).map (·.size) = some 2 by kernel_rfl) (kb) (ko) (n) (cap) (q) (by omega) w) ⟨_, rfl, Below.refl _ _, rfl⟩
          · intro vs w' F hb hd hF hl hT
            have eg := ((hF 20).trans (look_at _ 20 15 _ _ (by kernel_rfl) (by kernel_rfl) hl)).trans (dep_of (Fact := F_isfd W.heap.size n cap kb ko q rf af nf cf BB) hd 15 (by kernel_rfl))
            refine wpList_on rfl (t := 20) (by kernel_rfl) eg ?_
            have e := ((hF 26).trans (look_at _ 26 21 _ _ (by kernel_rfl) (by kernel_rfl) hl)).trans (dep_of (Fact := F_isfd W.heap.size n cap kb ko q rf af nf cf BB) hd 21 (by kernel_rfl))
            exact one_field _ _ _ rfl rfl _ _ e (ko + q * 2 + 1) (fun w => by kernel_rfl) ⟨_, rfl, Below.refl _ _, rfl⟩
          · intro vs w' F hb hd hF hl hT
            have eg := ((hF 20).trans (look_at _ 20 15 _ _ (by kernel_rfl) (by kernel_rfl) hl)).trans (dep_of (Fact := F_isfd W.heap.size n cap kb ko q rf af nf cf BB) hd 15 (by kernel_rfl))
            refine wpList_on rfl (t := 20) (by kernel_rfl) eg ?_
            have e := ((hF 27).trans (look_at _ 27 22 _ _ (by kernel_rfl) (by kernel_rfl) hl)).trans (dep_of (Fact := F_isfd W.heap.size n cap kb ko q rf af nf cf BB) hd 22 (by kernel_rfl))
            exact one_load _ _ rfl rfl _ _ e (cell_abides HCK.out hb) (by kernel_rfl) ⟨_, rfl, Below.refl _ _, rfl⟩
          · intro vs w' F hb hd hF hl hT
            have eg := ((hF 20).trans (look_at _ 20 15 _ _ (by kernel_rfl) (by kernel_rfl) hl)).trans (dep_of (Fact := F_isfd W.heap.size n cap kb ko q rf af nf cf BB) hd 15 (by kernel_rfl))
            refine wpList_on rfl (t := 20) (by kernel_rfl) eg ?_
            have e := ((hF 28).trans (look_at _ 28 23 _ _ (by kernel_rfl) (by kernel_rfl) hl)).trans (dep_of (Fact := F_isfd W.heap.size n cap kb ko q rf af nf cf BB) hd 23 (by kernel_rfl))
            exact rg_len _ 41 40 rfl rfl Tryd.underlying41 af (nf) (cf) e ⟨_, rfl, Below.refl _ _, rfl⟩
          · intro vs w' F hb hd hF hl hT
            have eg := ((hF 20).trans (look_at _ 20 15 _ _ (by kernel_rfl) (by kernel_rfl) hl)).trans (dep_of (Fact := F_isfd W.heap.size n cap kb ko q rf af nf cf BB) hd 15 (by kernel_rfl))
            refine wpList_on rfl (t := 20) (by kernel_rfl) eg ?_
            have e1 := ((hF 22).trans (look_at _ 22 17 _ _ (by kernel_rfl) (by kernel_rfl) hl)).trans (dep_of (Fact := F_isfd W.heap.size n cap kb ko q rf af nf cf BB) hd 17 (by kernel_rfl))
            have e2 := ((hF 29).trans (look_at _ 29 24 _ _ (by kernel_rfl) (by kernel_rfl) hl)).trans (dep_of (Fact := F_isfd W.heap.size n cap kb ko q rf af nf cf BB) hd 24 (by kernel_rfl))
            exact rg_lss _ _ _ _ rfl rfl .i64 (rf) ((nf : Int)) BB e1 e2 (HBB.out) ⟨_, rfl, Below.refl _ _, rfl⟩
          · intro vs w' F hb hd hF hl hT
            have ec := ((hF 20).trans (look_at _ 20 15 _ _ (by kernel_rfl) (by kernel_rfl) hl)).trans (dep_of (Fact := F_isfd W.heap.size n cap kb ko q rf af nf cf BB) hd 15 (by kernel_rfl))
            have e := ((hF 30).trans (look_at _ 30 25 _ _ (by kernel_rfl) (by kernel_rfl) hl)).trans (dep_of (Fact := F_isfd W.heap.size n cap kb ko q rf af nf cf BB) hd 25 (by kernel_rfl))
            exact one_pick_t _ _ _ rfl rfl _ ec e ⟨_, rfl, Below.refl _ _, rfl⟩
          · intro vs w' F hb hd hF hl hT
            have e := ((hF 31).trans (look_at _ 31 26 _ _ (by kernel_rfl) (by kernel_rfl) hl)).trans (dep_of (Fact := F_isfd W.heap.size n cap kb ko q rf af nf cf BB) hd 26 (by kernel_rfl))
            exact one_move _ rfl (by first | exact Or.inl rfl | exact Or.inr rfl) ⟨_, rfl, Below.refl _ _, e⟩
        · intro vs8 W8 hl hb hI
          have hv : vs8.getD 27 undef = .bool BB := hI 27 (by omega)
          obtain ⟨x0, x1, x2, x3, x4, x5, x6, x7, x8, x9, x10, x11, x12, x13, x14, x15, x16, x17, x18, x19, x20, x21, x22, x23, x24, x25, x26, x27, hvs⟩ := list28 hl
          subst hvs
          replace hv : x27 = .bool BB := hv
          subst hv
          clear hI hl
          simp only [fillAll, Act.put, List.setIfInBounds_toArray, List.set_cons_succ, List.set_cons_zero]
          show wpList _ _ _ [] _ _
          go_wp2
          go_ret
          exact ⟨by rw [HB2.out]; simp, bt HB0.out hb⟩
end Go.Proofs.YtijeninfmjhbnaaDoor
end
