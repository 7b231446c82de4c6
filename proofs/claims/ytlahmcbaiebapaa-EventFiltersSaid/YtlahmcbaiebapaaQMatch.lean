/- query.Match: its closures; slices.ContainsFunc with them. By program (gen_qmatch.py). -/
import Derived.Test.YtlahmcbaiebapaaApiItem
import Derived.Test.YtlahmcbaiebapaaMem3
import Derived.BigQuiet
import Derived.Deep.LoopGhost
import Derived.Shelf.Abstract
import Derived.Laws.EntriesVeiled
namespace Go.Proofs.Ytlahmcbaiebapaa
open Go.ChangeShapes Go.WideShapes Go.ChangeAt Go.RowKit Go.Mem
set_option linter.unusedVariables false
def isKind (k : Int) (c : CompV) : Bool := decide (c.kind = k)
def hasK (cs : List CompV) (k : Int) : Bool := cs.any (isKind k)
def notK (cs : List CompV) (k : Int) : Bool := !hasK cs k
def matchB (cs : List CompV) (wi wo : List Int) : Bool := !(wi.any (notK cs)) && !(wo.any (hasK cs))
def IdxR (b : Bool) (W : World) (e : Ending) (w' : World) : Prop := ∃ R : Int, e = .returned (.int .i64 R) ∧ decide (0 ≤ R) = b ∧ Below W.heap.size W w'
theorem IdxR.at {b : Bool} {W w' : World} (i : Nat) (hb : b = true) (h : Below W.heap.size W w') : IdxR b W (.returned (.int .i64 (i : Int))) w' := ⟨_, rfl, by rw [hb]; exact decide_eq_true (by omega), h⟩
theorem IdxR.none {b : Bool} {W w' : World} (hb : b = false) (h : Below W.heap.size W w') : IdxR b W (.returned (.int .i64 (-1))) w' := ⟨_, rfl, by rw [hb]; rfl, h⟩
theorem any_at {α : Type} {p : α → Bool} {l : List α} (i : Nat) (hi : i < l.length) (h : p l[i] = true) : l.any p = true := List.any_eq_true.2 ⟨_, List.getElem_mem hi, h⟩
theorem any_no {α : Type} {p : α → Bool} {l : List α} (h : ∀ j (hj : j < l.length), p l[j] = false) : l.any p = false := by
  refine List.any_eq_false.2 fun x hx => ?_
  obtain ⟨j, hj, rfl⟩ := List.getElem_of_mem hx
  rw [h j hj]; decide
theorem getD_get (l : List Int) (i : Nat) (h : i < l.length) : l.getD i 0 = l[i] := by rw [List.getD_eq_getElem?_getD, List.getElem?_eq_getElem h]; rfl
set_option maxHeartbeats 4000000 in
theorem clos_comp (y : CompV) (a : Option Addr) (n c : Nat) (k : Int) (B : Nat) (W : World) (hs : W.cell? ⟨B, 0, none⟩ = some (.int .i64 k)) :
    Calls Try.prog 92 #[.agg #[.int .i64 y.kind, .slice a n c], .pointer (some ⟨B, 0, none⟩)] W fun e w' => e = .returned (.bool (isKind k y)) ∧ Below W.heap.size W w' := by
  have hb0 := (Below.refl W.heap.size W).alloc (Nat.le_refl _) (.cells #[.int .i64 y.kind, .slice a n c] 84)
  have hs1 := cell_abides hs hb0
  have HB0 := Lib.hid hb0
  have hr : isKind k y = (y.kind == k) := rfl
  obtain ⟨r, hr2⟩ : ∃ r, r = (y.kind == k) := ⟨_, rfl⟩
  have hr' := hr2.symm
  rw [← hr2] at hr
  have HR := Lib.hid hr
  clear hs hb0 hr2 hr
  go_enter Try.func92, Try.ntmps92
  cases r
  · go_wp2_with fail
    go_ret
    exact ⟨by rw [HR.out]; rfl, HB0.out⟩
  · go_wp2_with fail
    go_ret
    exact ⟨by rw [HR.out]; rfl, HB0.out⟩
set_option maxRecDepth 100000 in
set_option maxHeartbeats 4000000 in
theorem idx_comps (l : List CompV) (a : Option Addr) (n cap : Nat) (k : Int) (B : Nat) (hn : l.length = n) (h1 : n ≤ 17592186044000) (W : World) (hz : SlAt 2 CompAt W a l) (hs : W.cell? ⟨B, 0, none⟩ = some (.int .i64 k)) :
    Calls Try.prog 118 #[.slice a n cap, (.func (.func 92) #[] #[.pointer (some ⟨B, 0, none⟩)])] W (IdxR (l.any (isKind k)) W) := by
  have HN := Lib.hid hn
  have HZ := Lib.hid hz
  have HS := Lib.hid hs
  obtain ⟨R, hR⟩ : ∃ R, R = l.any (isKind k) := ⟨_, rfl⟩
  rw [← hR]
  have HR := Lib.hid hR
  clear hn hz hR hs
  go_enter Try.func118, Try.ntmps118
  go_wp2_with fail
  go_loopg [5, 8] n (fun gk v5 vi wx => ∃ i : Nat, i ≤ n ∧ gk = n - i ∧ vi = .int .i64 i ∧ Hid (∀ j (h : j < l.length), j < i → (isKind k) l[j] = false) ∧ Hid (Below W.heap.size W wx))
  case atStart => exact ⟨0, Nat.zero_le _, rfl, rfl, Lib.hid (fun j h h2 => absurd h2 (by omega)), Lib.hid (Below.refl _ _)⟩
  case round =>
    obtain ⟨i, hi, g2, rfl, HAT, HB⟩ := hrel
    have G2 := Lib.hid g2
    clear g2
    by_cases hlt : i < n
    · obtain ⟨x, rfl, hx, hix⟩ := (HZ.out.below CompAt.abides HB.out) (by rw [HN.out]; omega)
      obtain ⟨c0, ac, cc, c1, _⟩ := hix i (by rw [HN.out]; exact hlt)
      obtain ⟨y, hy⟩ : ∃ y, y = l[i]'(by rw [HN.out]; exact hlt) := ⟨_, rfl⟩
      rw [← hy] at c0 c1
      have HY := Lib.hid hy
      have i1 : (0 : Int) ≤ (i : Int) := by omega
      have i2 : (i : Int) < (n : Int) := by omega
      clear hix hy
      have HC := Lib.hid (clos_comp y ac y.vals.length cc k B wr (cell_abides HS.out HB.out))
      obtain ⟨r, hr⟩ : ∃ r, r = (isKind k) y := ⟨_, rfl⟩
      rw [← hr] at HC
      rw [HY.out] at hr
      have HR2 := Lib.hid hr
      clear hr
      go_wp2_with fail
      refine HC.out.mono ?_
      rintro e w1 ⟨rfl, hb1⟩
      have HB2 := Lib.hid (HB.out.trans (hb1.mono HB.out.size))
      clear hb1 HC
      cases r
      · have HE := Lib.hid HR2.out.symm
        go_wp2_with fail
        go_roundg (n - (i + 1))
        case measure => rw [G2.out]; omega
        case rel => exact ⟨i + 1, hlt, rfl, by go_num, Lib.hid (fun j h hj => by
          by_cases hji : j < i
          · exact HAT.out j h hji
          · obtain rfl : j = i := by omega
            exact HE.out), HB2⟩
      · go_wp2_with fail
        go_ret
        exact IdxR.at i (HR.out.trans (any_at i (by rw [HN.out]; exact hlt) HR2.out.symm)) HB2.out
    · go_wp2_with fail
      go_ret
      exact IdxR.none (HR.out.trans (any_no fun j hj => HAT.out j hj (by rw [HN.out] at hj; omega))) HB.out
set_option maxHeartbeats 4000000 in
theorem cont_comps (l : List CompV) (a : Option Addr) (n cap : Nat) (k : Int) (B : Nat) (hn : l.length = n) (h1 : n ≤ 17592186044000) (W : World) (hz : SlAt 2 CompAt W a l) (hs : W.cell? ⟨B, 0, none⟩ = some (.int .i64 k)) :
    Calls Try.prog 91 #[.slice a n cap, (.func (.func 92) #[] #[.pointer (some ⟨B, 0, none⟩)])] W fun e w' => e = .returned (.bool (l.any (isKind k))) ∧ Below W.heap.size W w' := by
  have HC := Lib.hid (idx_comps l a n cap k B hn h1 W hz hs)
  obtain ⟨R, hR⟩ : ∃ R, R = l.any (isKind k) := ⟨_, rfl⟩
  rw [← hR] at HC ⊢
  clear hn hz hR hs
  go_enter Try.func91, Try.ntmps91
  go_wp2_with fail
  refine HC.out.mono ?_
  rintro e w1 ⟨K, rfl, hk, hb1⟩
  have HB := Lib.hid hb1
  have HK := Lib.hid hk
  clear hb1 HC hk
  cases R
  · have hlt : K < 0 := by have := of_decide_eq_false HK.out; omega
    go_wp2_with fail
    go_ret
    exact ⟨by rw [HK.out]; rfl, HB.out⟩
  · have hlt : 0 ≤ K := of_decide_eq_true HK.out
    go_wp2_with fail
    go_ret
    exact ⟨rfl, HB.out⟩
/-- the item's box, and its components -/
def ItBox (cs : List CompV) (g : Nat) (W : World) : Prop := ∃ n gn a c, W.heap[g]? = some (.cells #[.int .i64 n, .int .i64 gn, .slice a cs.length c] 80 (0, 0)) ∧ SlAt 2 CompAt W a cs
theorem ItBox.below {cs : List CompV} {g : Nat} {W w' : World} (h : ItBox cs g W) (hb : Below W.heap.size W w') : ItBox cs g w' := by
  obtain ⟨n, gn, a, c, h1, h2⟩ := h
  exact ⟨n, gn, a, c, heap_below h1 hb, h2.below CompAt.abides hb⟩
set_option maxHeartbeats 4000000 in
theorem clos_has (cs : List CompV) (h1 : cs.length ≤ 17592186044000) (k : Int) (B : Nat) (W : World) (hi : ItBox cs B W) :
    Calls Try.prog 90 #[.int .i64 k, .pointer (some ⟨B, 0, none⟩)] W fun e w' => e = .returned (.bool (hasK cs k)) ∧ Below W.heap.size W w' := by
  have hb0 := (Below.refl W.heap.size W).alloc (Nat.le_refl _) (.cells #[.int .i64 k] 3)
  obtain ⟨n, gn, a, c, hw, hz⟩ := hi.below hb0
  obtain ⟨m, hm⟩ : ∃ m, m = cs.length := ⟨_, rfl⟩
  rw [← hm] at hw h1
  have c2 := cell_of_row _ _ 2 _ _ _ hw
  simp only [List.getElem?_toArray, List.getElem?_cons_zero, List.getElem?_cons_succ] at c2
  have hbx := heap_alloc_new W (.cells #[.int .i64 k] 3)
  have HC := Lib.hid (cont_comps cs a m c k W.heap.size hm.symm h1 (W.alloc (.cells #[.int .i64 k] 3)) hz (by rw [cell_of_row _ _ 0 _ _ _ hbx]; rfl))
  have HB0 := Lib.hid hb0
  have hr : hasK cs k = cs.any (isKind k) := rfl
  rw [← hr] at HC
  clear hb0 hi hw hz hm hbx hr
  go_enter Try.func90, Try.ntmps90
  go_wp2_with fail
  refine HC.out.mono ?_
  rintro e w1 ⟨rfl, hb1⟩
  have HB1 := Lib.hid (bt HB0.out hb1)
  clear hb1 HC
  go_wp2_with fail
  go_ret
  exact ⟨rfl, HB1.out⟩
/-- the box that holds the closure -/
def HasBox (cs : List CompV) (B g : Nat) (W : World) : Prop := W.heap[g]? = some (.cells #[.func (.func 90) #[] #[.pointer (some ⟨B, 0, none⟩)]] 29 (0, 0)) ∧ ItBox cs B W
theorem HasBox.below {cs : List CompV} {B g : Nat} {W w' : World} (h : HasBox cs B g W) (hb : Below W.heap.size W w') : HasBox cs B g w' := ⟨heap_below h.1 hb, h.2.below hb⟩
set_option maxHeartbeats 4000000 in
theorem clos_not (cs : List CompV) (h1 : cs.length ≤ 17592186044000) (k : Int) (B g : Nat) (W : World) (hi : HasBox cs B g W) :
    Calls Try.prog 94 #[.int .i64 k, .pointer (some ⟨g, 0, none⟩)] W fun e w' => e = .returned (.bool (notK cs k)) ∧ Below W.heap.size W w' := by
  have HC := Lib.hid (clos_has cs h1 k B W hi.2)
  have c0 : W.cell? ⟨g, 0, none⟩ = some (.func (.func 90) #[] #[.pointer (some ⟨B, 0, none⟩)]) := by rw [cell_of_row _ _ 0 _ _ _ hi.1]; rfl
  obtain ⟨r, hr⟩ : ∃ r, r = hasK cs k := ⟨_, rfl⟩
  unfold notK
  rw [← hr] at HC ⊢
  clear hi hr h1
  go_enter Try.func94, Try.ntmps94
  go_wp2_with fail
  refine HC.out.mono ?_
  rintro e w1 ⟨rfl, hb1⟩
  have HB1 := Lib.hid hb1
  clear hb1 HC
  go_wp2_with fail
  go_ret
  exact ⟨rfl, HB1.out⟩
set_option maxRecDepth 100000 in
set_option maxHeartbeats 4000000 in
theorem idx_has (l : List Int) (a : Option Addr) (n cap : Nat) (cs : List CompV) (B : Nat) (hn : l.length = n) (h1 : n ≤ 17592186044000) (W : World) (hz : IntsAt .i64 W a l) (hcs : cs.length ≤ 17592186044000) (hi : ItBox cs B W) :
    Calls Try.prog 119 #[.slice a n cap, (.func (.func 90) #[] #[.pointer (some ⟨B, 0, none⟩)])] W (IdxR (l.any (hasK cs)) W) := by
  have HN := Lib.hid hn
  have HZ := Lib.hid hz
  have HCS := Lib.hid hcs
  have HI := Lib.hid hi
  obtain ⟨R, hR⟩ : ∃ R, R = l.any (hasK cs) := ⟨_, rfl⟩
  rw [← hR]
  have HR := Lib.hid hR
  clear hn hz hR hcs hi
  go_enter Try.func119, Try.ntmps119
  go_wp2_with fail
  go_loopg [5, 8] n (fun gk v5 vi wx => ∃ i : Nat, i ≤ n ∧ gk = n - i ∧ vi = .int .i64 i ∧ Hid (∀ j (h : j < l.length), j < i → (hasK cs) l[j] = false) ∧ Hid (Below W.heap.size W wx))
  case atStart => exact ⟨0, Nat.zero_le _, rfl, rfl, Lib.hid (fun j h h2 => absurd h2 (by omega)), Lib.hid (Below.refl _ _)⟩
  case round =>
    obtain ⟨i, hi, g2, rfl, HAT, HB⟩ := hrel
    have G2 := Lib.hid g2
    clear g2
    by_cases hlt : i < n
    · obtain ⟨x, rfl, hx, hix⟩ := (HZ.out.below HB.out) (by rw [HN.out]; omega)
      have c0 := hix i (by rw [HN.out]; exact hlt)
      obtain ⟨y, hy⟩ : ∃ y, y = l.getD i 0 := ⟨_, rfl⟩
      rw [← hy] at c0
      have HY := Lib.hid (hy.trans (getD_get l i (by rw [HN.out]; exact hlt)))
      have i1 : (0 : Int) ≤ (i : Int) := by omega
      have i2 : (i : Int) < (n : Int) := by omega
      clear hix hy
      have HC := Lib.hid (clos_has cs HCS.out y B wr (HI.out.below HB.out))
      obtain ⟨r, hr⟩ : ∃ r, r = (hasK cs) y := ⟨_, rfl⟩
      rw [← hr] at HC
      rw [HY.out] at hr
      have HR2 := Lib.hid hr
      clear hr
      go_wp2_with fail
      refine HC.out.mono ?_
      rintro e w1 ⟨rfl, hb1⟩
      have HB2 := Lib.hid (HB.out.trans (hb1.mono HB.out.size))
      clear hb1 HC
      cases r
      · have HE := Lib.hid HR2.out.symm
        go_wp2_with fail
        go_roundg (n - (i + 1))
        case measure => rw [G2.out]; omega
        case rel => exact ⟨i + 1, hlt, rfl, by go_num, Lib.hid (fun j h hj => by
          by_cases hji : j < i
          · exact HAT.out j h hji
          · obtain rfl : j = i := by omega
            exact HE.out), HB2⟩
      · go_wp2_with fail
        go_ret
        exact IdxR.at i (HR.out.trans (any_at i (by rw [HN.out]; exact hlt) HR2.out.symm)) HB2.out
    · go_wp2_with fail
      go_ret
      exact IdxR.none (HR.out.trans (any_no fun j hj => HAT.out j hj (by rw [HN.out] at hj; omega))) HB.out
set_option maxHeartbeats 4000000 in
theorem cont_has (l : List Int) (a : Option Addr) (n cap : Nat) (cs : List CompV) (B : Nat) (hn : l.length = n) (h1 : n ≤ 17592186044000) (W : World) (hz : IntsAt .i64 W a l) (hcs : cs.length ≤ 17592186044000) (hi : ItBox cs B W) :
    Calls Try.prog 93 #[.slice a n cap, (.func (.func 90) #[] #[.pointer (some ⟨B, 0, none⟩)])] W fun e w' => e = .returned (.bool (l.any (hasK cs))) ∧ Below W.heap.size W w' := by
  have HC := Lib.hid (idx_has l a n cap cs B hn h1 W hz hcs hi)
  obtain ⟨R, hR⟩ : ∃ R, R = l.any (hasK cs) := ⟨_, rfl⟩
  rw [← hR] at HC ⊢
  clear hn hz hR hcs hi
  go_enter Try.func93, Try.ntmps93
  go_wp2_with fail
  refine HC.out.mono ?_
  rintro e w1 ⟨K, rfl, hk, hb1⟩
  have HB := Lib.hid hb1
  have HK := Lib.hid hk
  clear hb1 HC hk
  cases R
  · have hlt : K < 0 := by have := of_decide_eq_false HK.out; omega
    go_wp2_with fail
    go_ret
    exact ⟨by rw [HK.out]; rfl, HB.out⟩
  · have hlt : 0 ≤ K := of_decide_eq_true HK.out
    go_wp2_with fail
    go_ret
    exact ⟨rfl, HB.out⟩
set_option maxRecDepth 100000 in
set_option maxHeartbeats 4000000 in
theorem idx_not (l : List Int) (a : Option Addr) (n cap : Nat) (cs : List CompV) (D : Nat) (B : Nat) (hn : l.length = n) (h1 : n ≤ 17592186044000) (W : World) (hz : IntsAt .i64 W a l) (hcs : cs.length ≤ 17592186044000) (hi : HasBox cs D B W) :
    Calls Try.prog 119 #[.slice a n cap, (.func (.func 94) #[] #[.pointer (some ⟨B, 0, none⟩)])] W (IdxR (l.any (notK cs)) W) := by
  have HN := Lib.hid hn
  have HZ := Lib.hid hz
  have HCS := Lib.hid hcs
  have HI := Lib.hid hi
  obtain ⟨R, hR⟩ : ∃ R, R = l.any (notK cs) := ⟨_, rfl⟩
  rw [← hR]
  have HR := Lib.hid hR
  clear hn hz hR hcs hi
  go_enter Try.func119, Try.ntmps119
  go_wp2_with fail
  go_loopg [5, 8] n (fun gk v5 vi wx => ∃ i : Nat, i ≤ n ∧ gk = n - i ∧ vi = .int .i64 i ∧ Hid (∀ j (h : j < l.length), j < i → (notK cs) l[j] = false) ∧ Hid (Below W.heap.size W wx))
  case atStart => exact ⟨0, Nat.zero_le _, rfl, rfl, Lib.hid (fun j h h2 => absurd h2 (by omega)), Lib.hid (Below.refl _ _)⟩
  case round =>
    obtain ⟨i, hi, g2, rfl, HAT, HB⟩ := hrel
    have G2 := Lib.hid g2
    clear g2
    by_cases hlt : i < n
    · obtain ⟨x, rfl, hx, hix⟩ := (HZ.out.below HB.out) (by rw [HN.out]; omega)
      have c0 := hix i (by rw [HN.out]; exact hlt)
      obtain ⟨y, hy⟩ : ∃ y, y = l.getD i 0 := ⟨_, rfl⟩
      rw [← hy] at c0
      have HY := Lib.hid (hy.trans (getD_get l i (by rw [HN.out]; exact hlt)))
      have i1 : (0 : Int) ≤ (i : Int) := by omega
      have i2 : (i : Int) < (n : Int) := by omega
      clear hix hy
      have HC := Lib.hid (clos_not cs HCS.out y D B wr (HI.out.below HB.out))
      obtain ⟨r, hr⟩ : ∃ r, r = (notK cs) y := ⟨_, rfl⟩
      rw [← hr] at HC
      rw [HY.out] at hr
      have HR2 := Lib.hid hr
      clear hr
      go_wp2_with fail
      refine HC.out.mono ?_
      rintro e w1 ⟨rfl, hb1⟩
      have HB2 := Lib.hid (HB.out.trans (hb1.mono HB.out.size))
      clear hb1 HC
      cases r
      · have HE := Lib.hid HR2.out.symm
        go_wp2_with fail
        go_roundg (n - (i + 1))
        case measure => rw [G2.out]; omega
        case rel => exact ⟨i + 1, hlt, rfl, by go_num, Lib.hid (fun j h hj => by
          by_cases hji : j < i
          · exact HAT.out j h hji
          · obtain rfl : j = i := by omega
            exact HE.out), HB2⟩
      · go_wp2_with fail
        go_ret
        exact IdxR.at i (HR.out.trans (any_at i (by rw [HN.out]; exact hlt) HR2.out.symm)) HB2.out
    · go_wp2_with fail
      go_ret
      exact IdxR.none (HR.out.trans (any_no fun j hj => HAT.out j hj (by rw [HN.out] at hj; omega))) HB.out
set_option maxHeartbeats 4000000 in
theorem cont_not (l : List Int) (a : Option Addr) (n cap : Nat) (cs : List CompV) (D : Nat) (B : Nat) (hn : l.length = n) (h1 : n ≤ 17592186044000) (W : World) (hz : IntsAt .i64 W a l) (hcs : cs.length ≤ 17592186044000) (hi : HasBox cs D B W) :
    Calls Try.prog 93 #[.slice a n cap, (.func (.func 94) #[] #[.pointer (some ⟨B, 0, none⟩)])] W fun e w' => e = .returned (.bool (l.any (notK cs))) ∧ Below W.heap.size W w' := by
  have HC := Lib.hid (idx_not l a n cap cs D B hn h1 W hz hcs hi)
  obtain ⟨R, hR⟩ : ∃ R, R = l.any (notK cs) := ⟨_, rfl⟩
  rw [← hR] at HC ⊢
  clear hn hz hR hcs hi
  go_enter Try.func93, Try.ntmps93
  go_wp2_with fail
  refine HC.out.mono ?_
  rintro e w1 ⟨K, rfl, hk, hb1⟩
  have HB := Lib.hid hb1
  have HK := Lib.hid hk
  clear hb1 HC hk
  cases R
  · have hlt : K < 0 := by have := of_decide_eq_false HK.out; omega
    go_wp2_with fail
    go_ret
    exact ⟨by rw [HK.out]; rfl, HB.out⟩
  · have hlt : 0 ≤ K := of_decide_eq_true HK.out
    go_wp2_with fail
    go_ret
    exact ⟨rfl, HB.out⟩
set_option maxRecDepth 100000 in
set_option maxHeartbeats 4000000 in
theorem q_Match (n gn : Int) (cs : List CompV) (a ai ao : Option Addr) (m c ni ci no co : Nat) (wi wo : List Int) (hm : cs.length = m) (hni : wi.length = ni) (hno : wo.length = no) (h1 : m ≤ 17592186044000) (h2 : ni ≤ 17592186044000) (h3 : no ≤ 17592186044000) (W : World) (hz : SlAt 2 CompAt W a cs) (hzi : IntsAt .i64 W ai wi) (hzo : IntsAt .i64 W ao wo) :
    Calls Try.prog 50 #[.agg #[.int .i64 n, .int .i64 gn, .slice a m c], .slice ai ni ci, .slice ao no co] W fun e w' => e = .returned (.bool (matchB cs wi wo)) ∧ Below W.heap.size W w' := by
  subst hm
  have hb0 := (Below.refl W.heap.size W).alloc (Nat.le_refl _) (.cells #[.int .i64 n, .int .i64 gn, .slice a cs.length c] 80)
  have hb1 := hb0.alloc (by simp) (.cells #[.func (.func 90) #[] #[.pointer (some ⟨W.heap.size, 0, none⟩)]] 29)
  have hx := row_first W (.cells #[.int .i64 n, .int .i64 gn, .slice a cs.length c] 80) (.cells #[.func (.func 90) #[] #[.pointer (some ⟨W.heap.size, 0, none⟩)]] 29)
  have hy := row_second W (.cells #[.int .i64 n, .int .i64 gn, .slice a cs.length c] 80) (.cells #[.func (.func 90) #[] #[.pointer (some ⟨W.heap.size, 0, none⟩)]] 29)
  have hib : ItBox cs W.heap.size ((W.alloc (.cells #[.int .i64 n, .int .i64 gn, .slice a cs.length c] 80)).alloc (.cells #[.func (.func 90) #[] #[.pointer (some ⟨W.heap.size, 0, none⟩)]] 29)) := ⟨n, gn, a, c, hx, hz.below CompAt.abides hb1⟩
  have hhb : HasBox cs W.heap.size (W.heap.size + 1) ((W.alloc (.cells #[.int .i64 n, .int .i64 gn, .slice a cs.length c] 80)).alloc (.cells #[.func (.func 90) #[] #[.pointer (some ⟨W.heap.size, 0, none⟩)]] 29)) := ⟨hy, hib⟩
  have HC := Lib.hid (cont_not wi ai ni ci cs W.heap.size (W.heap.size + 1) hni h2 _ (hzi.below hb1) h1 hhb)
  have HB1 := Lib.hid hb1
  have HHB := Lib.hid hhb
  have HZO := Lib.hid (hzo.below hb1)
  have HNO := Lib.hid hno
  obtain ⟨r, hr⟩ : ∃ r, r = wi.any (notK cs) := ⟨_, rfl⟩
  obtain ⟨q, hq⟩ : ∃ q, q = wo.any (hasK cs) := ⟨_, rfl⟩
  have hM : matchB cs wi wo = (!r && !q) := by unfold matchB; rw [hr, hq]
  rw [← hr] at HC
  have HQ := Lib.hid hq
  have HM := Lib.hid hM
  have H1 := Lib.hid h1
  obtain ⟨mm, hmm⟩ : ∃ mm, mm = cs.length := ⟨_, rfl⟩
  rw [← hmm] at HC HB1 HHB HZO ⊢
  clear hb0 hb1 hx hy hib hhb hz hzi hzo hr hq hM hni hno h1 hmm
  go_enter Try.func50, Try.ntmps50
  go_wp2_with fail
  refine HC.out.mono ?_
  rintro e w1 ⟨rfl, hb1⟩
  have HHB1 := Lib.hid (HHB.out.below hb1)
  have HB2 := Lib.hid (HB1.out.trans (hb1.mono HB1.out.size))
  have HZ1 := Lib.hid (HZO.out.below hb1)
  clear hb1 HC
  cases r
  · have c0 : w1.cell? ⟨W.heap.size + 1, 0, none⟩ = some (.func (.func 90) #[] #[.pointer (some ⟨W.heap.size, 0, none⟩)]) := by rw [cell_of_row _ _ 0 _ _ _ HHB1.out.1]; rfl
    have HC2 := Lib.hid (cont_has wo ao no co cs W.heap.size HNO.out h3 w1 HZ1.out H1.out HHB1.out.2)
    rw [← HQ.out] at HC2
    go_wp2_with fail
    refine HC2.out.mono ?_
    rintro e w2 ⟨rfl, hb2⟩
    have HB3 := Lib.hid (HB2.out.trans (hb2.mono HB2.out.size))
    clear hb2 HC2
    go_wp2_with fail
    go_ret
    exact ⟨by rw [HM.out]; rfl, HB3.out⟩
  · go_wp2_with fail
    go_ret
    exact ⟨by rw [HM.out]; rfl, HB2.out⟩
end Go.Proofs.Ytlahmcbaiebapaa
