/- event.Split, three lists of events of one's own. -/
import Derived.Test.YtlahmcbaiebapaaEvB
import Derived.Test.YtlahmcbaiebapaaQPair
import Derived.Test.YtlahmcbaiebapaaQMatch
import Derived.Test.YtlahmcbaiebapaaWEq
namespace Go.Proofs.Ytlahmcbaiebapaa
open Go.ChangeShapes Go.WideShapes Go.ChangeAt Go.RowKit Go.Mem
set_option linter.unusedVariables false
/-- three lists of events of one's own, each in its block -/
structure Trio (B : Nat) (F1 F2 F3 : List EvV) (v1 v2 v3 : Value) (w : World) : Prop where
  a : w.ownsRow B 99 4 v1 F1.length (evC F1)
  b : w.ownsRow B 99 4 v2 F2.length (evC F2)
  c : w.ownsRow B 99 4 v3 F3.length (evC F3)
  n12 : ∀ g, v1.ownBlock = some g → v2.ownBlock = some g → False
  n13 : ∀ g, v1.ownBlock = some g → v3.ownBlock = some g → False
  n23 : ∀ g, v2.ownBlock = some g → v3.ownBlock = some g → False
theorem Trio.nil (B : Nat) (w : World) : Trio B [] [] [] (.slice none 0 0) (.slice none 0 0) (.slice none 0 0) w := ⟨World.ownsRow_nil _ _ _ _, World.ownsRow_nil _ _ _ _, World.ownsRow_nil _ _ _ _, fun g h => by simp [Value.ownBlock] at h, fun g h => by simp [Value.ownBlock] at h, fun g h => by simp [Value.ownBlock] at h⟩
section
variable {B g cap : Nat} {F1 F2 F3 : List EvV} {v1 v2 v3 : Value} {w w' : World}
theorem Trio.below (h : Trio B F1 F2 F3 v1 v2 v3 w) (hb : Below w.heap.size w w') : Trio B F1 F2 F3 v1 v2 v3 w' := ⟨own_below h.a hb, own_below h.b hb, own_below h.c hb, h.n12, h.n13, h.n23⟩
theorem Trio.swap12 (h : Trio B F1 F2 F3 v1 v2 v3 w) : Trio B F2 F1 F3 v2 v1 v3 w := ⟨h.b, h.a, h.c, fun g a b => h.n12 g b a, h.n23, h.n13⟩
theorem Trio.swap13 (h : Trio B F1 F2 F3 v1 v2 v3 w) : Trio B F3 F2 F1 v3 v2 v1 w := ⟨h.c, h.b, h.a, fun g a b => h.n23 g b a, fun g a b => h.n13 g b a, fun g a b => h.n12 g b a⟩
theorem Trio.p1 (h : Trio B F1 F2 F3 v1 v2 v3 w) (y : EvV) (ho : w'.ownsRow B 99 4 (.slice (some ⟨g, 0, none⟩) (F1.length + 1) cap) (F1.length + 1) (evC F1 ++ (#[.int .i64 y.s, .int .i64 y.n, .int .i64 y.g, .int .i64 y.v] : Array Value).toList)) (hg : w.grownBy w' v1.ownBlock) (hor : v1.ownBlock = some g ∨ g = w.heap.size) :
    Trio B (F1 ++ [y]) F2 F3 (.slice (some ⟨g, 0, none⟩) (F1.length + 1) cap) v2 v3 w' := by
  have key : ∀ (v : Value) (F : List EvV), w.ownsRow B 99 4 v F.length (evC F) → (∀ k, v1.ownBlock = some k → v.ownBlock = some k → False) → ∀ k, (Value.slice (some ⟨g, 0, none⟩) (F1.length + 1) cap).ownBlock = some k → v.ownBlock = some k → False := fun v F hv hn k h1 h2 => by
    have e : g = k := by simpa [Value.ownBlock] using h1
    subst e
    rcases hor with e | e
    · exact hn _ e h2
    · have := (own_lt hv _ h2).2; omega
  exact ⟨by rw [evC_snoc] at ho; rw [List.length_append]; exact ho, own_keep h.b fun k hk => hg.block k (own_lt h.b k hk).2 (fun e => h.n12 k e.symm hk), own_keep h.c fun k hk => hg.block k (own_lt h.c k hk).2 (fun e => h.n13 k e.symm hk), key v2 F2 h.b h.n12, key v3 F3 h.c h.n13, h.n23⟩
end
def isEnt (p q : Int) (y : ItemV) : Bool := decide (y.n = p) && decide (y.gen = q)
def hereB (its : List ItemV) (y : EvV) : Bool := its.any (isEnt y.n y.g)
def EvBox (y : EvV) (B : Nat) (W : World) : Prop := W.heap[B]? = some (.cells #[.int .i64 y.s, .int .i64 y.n, .int .i64 y.g, .int .i64 y.v] 99 (0, 0))
set_option maxHeartbeats 4000000 in
theorem clos_here (y : ItemV) (a : Option Addr) (n c : Nat) (z : EvV) (B : Nat) (W : World) (hs : EvBox z B W) :
    Calls Try.prog 104 #[.agg #[.int .i64 y.n, .int .i64 y.gen, .slice a n c], .pointer (some ⟨B, 0, none⟩)] W fun e w' => e = .returned (.bool (isEnt z.n z.g y)) ∧ Below W.heap.size W w' := by
  have hb0 := (Below.refl W.heap.size W).alloc (Nat.le_refl _) (.cells #[.int .i64 y.n, .int .i64 y.gen, .slice a n c] 80)
  have hx := heap_below hs hb0
  have hi := heap_alloc_new W (.cells #[.int .i64 y.n, .int .i64 y.gen, .slice a n c] 80)
  have x1 := cell_of_row _ _ 1 _ _ _ hx
  have x2 := cell_of_row _ _ 2 _ _ _ hx
  simp only [List.getElem?_toArray, List.getElem?_cons_zero, List.getElem?_cons_succ] at x1 x2
  have HB0 := Lib.hid hb0
  have he := eqEnt y.n y.gen z.n z.g
  obtain ⟨R, hR⟩ : ∃ R, R = (decide (y.n = z.n) && decide (y.gen = z.g)) := ⟨_, rfl⟩
  rw [← hR] at he
  have HR := Lib.hid (show isEnt z.n z.g y = R from hR.symm)
  obtain ⟨p, hp⟩ : ∃ p, p = y.n := ⟨_, rfl⟩
  obtain ⟨q, hq⟩ : ∃ p, p = y.gen := ⟨_, rfl⟩
  obtain ⟨p2, hp2⟩ : ∃ p, p = z.n := ⟨_, rfl⟩
  obtain ⟨q2, hq2⟩ : ∃ p, p = z.g := ⟨_, rfl⟩
  rw [← hp2] at he x1
  rw [← hq2] at he x2
  rw [← hp, ← hq] at he HB0 ⊢
  rw [← hp, ← hq] at x1 x2
  clear hb0 hx hi hs hR hp hq hp2 hq2
  go_enter Try.func104, Try.ntmps104
  go_wp2_with fail
  go_ret
  exact ⟨by rw [HR.out]; rfl, HB0.out⟩
set_option maxRecDepth 100000 in
set_option maxHeartbeats 4000000 in
theorem idx_here (l : List ItemV) (a : Option Addr) (n cap : Nat) (z : EvV) (B : Nat) (hn : l.length = n) (h1 : n ≤ 17592186044000) (W : World) (hz : SlAt 3 ItemAt W a l) (hs : EvBox z B W) :
    Calls Try.prog 126 #[.slice a n cap, (.func (.func 104) #[] #[.pointer (some ⟨B, 0, none⟩)])] W (IdxR (l.any (isEnt z.n z.g)) W) := by
  have HN := Lib.hid hn
  have HZ := Lib.hid hz
  have HS := Lib.hid hs
  obtain ⟨R, hR⟩ : ∃ R, R = l.any (isEnt z.n z.g) := ⟨_, rfl⟩
  rw [← hR]
  have HR := Lib.hid hR
  clear hn hz hR hs
  go_enter Try.func126, Try.ntmps126
  go_wp2_with fail
  go_loopg [5, 8] n (fun gk v5 vi wx => ∃ i : Nat, i ≤ n ∧ gk = n - i ∧ vi = .int .i64 i ∧ Hid (∀ j (h : j < l.length), j < i → (isEnt z.n z.g) l[j] = false) ∧ Hid (Below W.heap.size W wx))
  case atStart => exact ⟨0, Nat.zero_le _, rfl, rfl, Lib.hid (fun j h h2 => absurd h2 (by omega)), Lib.hid (Below.refl _ _)⟩
  case round =>
    obtain ⟨i, hi, g2, rfl, HAT, HB⟩ := hrel
    have G2 := Lib.hid g2
    clear g2
    by_cases hlt : i < n
    · obtain ⟨x, rfl, hx, hix⟩ := (HZ.out.below ItemAt.abides HB.out) (by rw [HN.out]; omega)
      obtain ⟨c0, c1, ac, cc, c2, _⟩ := hix i (by rw [HN.out]; exact hlt)
      obtain ⟨y, hy⟩ : ∃ y, y = l[i]'(by rw [HN.out]; exact hlt) := ⟨_, rfl⟩
      rw [← hy] at c0 c1 c2
      have HY := Lib.hid hy
      have i1 : (0 : Int) ≤ (i : Int) := by omega
      have i2 : (i : Int) < (n : Int) := by omega
      clear hix hy
      have HC := Lib.hid (clos_here y ac y.comps.length cc z B wr (heap_below HS.out HB.out))
      obtain ⟨r, hr⟩ : ∃ r, r = (isEnt z.n z.g) y := ⟨_, rfl⟩
      rw [← hr] at HC
      rw [HY.out] at hr
      have HR2 := Lib.hid hr
      clear hr
      go_wp2_with fail
      refine HC.out.mono ?_
      rintro e w1 ⟨rfl, hb1⟩
      have HB2 := Lib.hid (HB.out.trans (hb1.mono HB.out.size))
      clear hb1 HC
      cases r
      · have HE := Lib.hid HR2.out.symm
        go_wp2_with fail
        go_roundg (n - (i + 1))
        case measure => rw [G2.out]; omega
        case rel => exact ⟨i + 1, hlt, rfl, by go_num, Lib.hid (fun j h hj => by
          by_cases hji : j < i
          · exact HAT.out j h hji
          · obtain rfl : j = i := by omega
            exact HE.out), HB2⟩
      · go_wp2_with fail
        go_ret
        exact IdxR.at i (HR.out.trans (any_at i (by rw [HN.out]; exact hlt) HR2.out.symm)) HB2.out
    · go_wp2_with fail
      go_ret
      exact IdxR.none (HR.out.trans (any_no fun j hj => HAT.out j hj (by rw [HN.out] at hj; omega))) HB.out
set_option maxHeartbeats 4000000 in
theorem cont_here (l : List ItemV) (a : Option Addr) (n cap : Nat) (z : EvV) (B : Nat) (hn : l.length = n) (h1 : n ≤ 17592186044000) (W : World) (hz : SlAt 3 ItemAt W a l) (hs : EvBox z B W) :
    Calls Try.prog 103 #[.slice a n cap, (.func (.func 104) #[] #[.pointer (some ⟨B, 0, none⟩)])] W fun e w' => e = .returned (.bool (hereB l z)) ∧ Below W.heap.size W w' := by
  have HC := Lib.hid (idx_here l a n cap z B hn h1 W hz hs)
  obtain ⟨R, hR⟩ : ∃ R, R = hereB l z := ⟨_, rfl⟩
  rw [show l.any (isEnt z.n z.g) = R from hR.symm] at HC
  rw [← hR]
  clear hn hz hR hs
  go_enter Try.func103, Try.ntmps103
  go_wp2_with fail
  refine HC.out.mono ?_
  rintro e w1 ⟨K, rfl, hk, hb1⟩
  have HB := Lib.hid hb1
  have HK := Lib.hid hk
  clear hb1 HC hk
  cases R
  · have hlt : K < 0 := by have := of_decide_eq_false HK.out; omega
    go_wp2_with fail
    go_ret
    exact ⟨by rw [HK.out]; rfl, HB.out⟩
  · have hlt : 0 ≤ K := of_decide_eq_true HK.out
    go_wp2_with fail
    go_ret
    exact ⟨rfl, HB.out⟩
def notB {α : Type} (p : α → Bool) (y : α) : Bool := !p y
def SplitPost (F1 F2 : List EvV) (w : World) (e : Ending) (w' : World) : Prop := ∃ a c b d, e = .returned (.tuple #[.slice a F1.length c, .slice b F2.length d]) ∧ SlAt 4 EvAt w' a F1 ∧ SlAt 4 EvAt w' b F2 ∧ Below w.heap.size w w'
set_option maxRecDepth 100000 in
set_option maxHeartbeats 8000000 in
theorem ev_Split (its : List ItemV) (v : Value) (l : List EvV) (a : Option Addr) (n c : Nat) (hn : l.length = n) (h1 : n ≤ 4398046510976) (hm : its.length ≤ 17592186044000) (W : World) (hv : WorldI W v its) (hz : SlAt 4 EvAt W a l) :
    Calls Try.prog 56 #[v, .slice a n c] W (SplitPost (l.filter (hereB its)) (l.filter (notB (hereB its))) W) := by
  obtain ⟨ak, nk, ck, ag, ng, cg, ai, ci, rfl, hzi⟩ := hv
  obtain ⟨m, hmm⟩ : ∃ m, m = its.length := ⟨_, rfl⟩
  have HM := Lib.hid hmm
  have HN := Lib.hid hn
  have HZ := Lib.hid hz
  have HZI := Lib.hid hzi
  have HML := Lib.hid hm
  have hb0 := (Below.refl W.heap.size W).alloc (Nat.le_refl _) (.cells #[.slice ak nk ck, .slice ag ng cg, .slice ai its.length ci] 70)
  have hx := heap_alloc_new W (.cells #[.slice ak nk ck, .slice ag ng cg, .slice ai its.length ci] 70)
  rw [← hmm] at hb0 hx ⊢
  have HB0 := Lib.hid hb0
  have HX := Lib.hid hx
  clear hn hz hzi hm hmm hb0 hx
  go_enter Try.func56, Try.ntmps56
  go_wp2_with fail
  obtain ⟨W1, hW1⟩ : ∃ q, q = W.alloc (.cells #[.slice ak nk ck, .slice ag ng cg, .slice ai m ci] 70) := ⟨_, rfl⟩
  have hs0 : W.heap.size ≤ W1.heap.size := by rw [hW1, World.size_alloc]; omega
  rw [← hW1] at HB0 HX ⊢
  clear hW1
  go_loopg [6, 7, 12] n (fun gk v6 v7 vi wx => ∃ (k : Nat), k ≤ n ∧ gk = n - k ∧ vi = .int .i64 k ∧ Hid (Trio W1.heap.size ((l.take k).filter (hereB its)) ((l.take k).filter (notB (hereB its))) [] v6 v7 (.slice none 0 0) wx) ∧ Hid (Below W1.heap.size W1 wx))
  case atStart => exact ⟨0, Nat.zero_le _, rfl, rfl, Lib.hid (Trio.nil _ _), Lib.hid (Below.refl _ _)⟩
  case round =>
    obtain ⟨k, hk, g2, rfl, HO, HB⟩ := hrel
    have G2 := Lib.hid g2
    clear g2
    have HBW := Lib.hid (HB0.out.trans (HB.out.mono (by omega)))
    by_cases hlt : k < n
    · obtain ⟨x, rfl, hx, hix⟩ := HZ.out.below EvAt.abides HBW.out (by rw [HN.out]; omega)
      obtain ⟨c0, c1, c2, c3⟩ := hix k (by rw [HN.out]; exact hlt)
      have hs1 := filt_succ (hereB its) l k (by rw [HN.out]; exact hlt)
      have hs2 := filt_succ (notB (hereB its)) l k (by rw [HN.out]; exact hlt)
      have hf1 := filt_len (hereB its) l k
      have hf2 := filt_len (notB (hereB its)) l k
      obtain ⟨y, hy⟩ : ∃ p : EvV, p = l[k]'(by rw [HN.out]; exact hlt) := ⟨_, rfl⟩
      rw [← hy] at c0 c1 c2 c3 hs1 hs2
      obtain ⟨ps, pn, pg, pv⟩ := y
      have i1 : (0 : Int) ≤ (k : Int) := by omega
      have i2 : (k : Int) < (n : Int) := by omega
      obtain ⟨F1, hF1⟩ : ∃ F, F = (l.take k).filter (hereB its) := ⟨_, rfl⟩
      obtain ⟨F2, hF2⟩ : ∃ F, F = (l.take k).filter (notB (hereB its)) := ⟨_, rfl⟩
      rw [← hF1] at HO hs1 hf1
      rw [← hF2] at HO hs2 hf2
      have HS1 := Lib.hid hs1
      have HS2 := Lib.hid hs2
      have HF := Lib.hid (And.intro hf1 hf2)
      have hbA : Below wr.heap.size wr (wr.alloc (.cells #[.int .i64 ps, .int .i64 pn, .int .i64 pg, .int .i64 pv] 99)) := (Below.refl _ _).alloc (Nat.le_refl _) _
      have HOA := Lib.hid (HO.out.below hbA)
      have HBA := Lib.hid (HB.out.trans (hbA.mono HB.out.size))
      have HE := Lib.hid (heap_alloc_new wr (.cells #[.int .i64 ps, .int .i64 pn, .int .i64 pg, .int .i64 pv] 99))
      have x2 := cell_of_row _ _ 2 _ _ _ (heap_below HX.out HBA.out)
      simp only [List.getElem?_toArray, List.getElem?_cons_zero, List.getElem?_cons_succ] at x2
      clear hix hy hF1 hF2 hbA hs1 hs2 hf1 hf2 HO HB
      go_wp2_with fail
      clear x2 c0 c1 c2 c3
      obtain ⟨w5, hw5⟩ : ∃ q, q = wr.alloc (.cells #[.int .i64 ps, .int .i64 pn, .int .i64 pg, .int .i64 pv] 99) := ⟨_, rfl⟩
      rw [← hw5] at HOA HBA HE ⊢
      obtain ⟨be, hbe⟩ : ∃ q, q = wr.heap.size := ⟨_, rfl⟩
      rw [← hbe] at HE ⊢
      clear hw5 hbe
      have HC := Lib.hid (cont_here its ai m ci ⟨ps, pn, pg, pv⟩ be HM.out.symm (by rw [HM.out]; exact HML.out) w5 (HZI.out.below ItemAt.abides (HB0.out.trans (HBA.out.mono (by omega)))) HE.out)
      obtain ⟨r, hr⟩ : ∃ r, r = hereB its ⟨ps, pn, pg, pv⟩ := ⟨_, rfl⟩
      rw [← hr] at HC
      have HR := Lib.hid hr
      clear hr
      refine HC.out.mono ?_
      rintro e w6 ⟨rfl, hb6⟩
      have HO6 := Lib.hid (HOA.out.below hb6)
      have HB6 := Lib.hid (HBA.out.trans (hb6.mono HBA.out.size))
      have HE6 := Lib.hid (heap_below HE.out hb6)
      have e0 := cell_of_row _ _ 0 _ _ _ HE6.out
      have e1 := cell_of_row _ _ 1 _ _ _ HE6.out
      have e2 := cell_of_row _ _ 2 _ _ _ HE6.out
      have e3 := cell_of_row _ _ 3 _ _ _ HE6.out
      simp only [List.getElem?_toArray, List.getElem?_cons_zero, List.getElem?_cons_succ] at e0 e1 e2 e3
      have hbT : Below w6.heap.size w6 (w6.alloc (.cells #[.int .i64 ps, .int .i64 pn, .int .i64 pg, .int .i64 pv] 99)) := (Below.refl _ _).alloc (Nat.le_refl _) _
      have HO7 := Lib.hid (HO6.out.below hbT)
      have HB7 := Lib.hid (HB6.out.trans (hbT.mono HB6.out.size))
      have HW7 := Lib.hid HB7.out.size
      have HT7 := Lib.hid (heap_alloc_new w6 (.cells #[.int .i64 ps, .int .i64 pn, .int .i64 pg, .int .i64 pv] 99))
      clear hb6 hbT HC HOA HBA HE HE6 HO6 HB6
      cases r with
      | true =>
        go_wp2_with (at_builtin; go_must (refine wpList_append_blk rfl _ _ 93 rfl W1.heap.size 99 (.agg #[.int .i64 0, .int .i64 0, .int .i64 0, .int .i64 0]) 4 32 Try.underlying93 (by kernel_rfl) rfl (by decide) _ _ _ rfl HO7.out.a w6.heap.size _ _ rfl HT7.out rfl rfl (by have := HF.out.1; omega) (by decide) HW7.out ?_))
        intro g' cap' w8 hown hg hor hlt'
        have HO8 := Lib.hid (HO7.out.p1 ⟨ps, pn, pg, pv⟩ hown hg (by rw [World.size_alloc]; exact hor))
        have HB8 := Lib.hid (HB7.out.grown hg HW7.out (fun j hj => (own_lt HO7.out.a j hj).1))
        clear hown hg hor hlt' e0 e1 e2 e3 HO7 HB7 HT7
        go_wp2_with fail
        go_roundg (n - (k + 1))
        case measure => rw [G2.out]; omega
        case rel => exact ⟨k + 1, by omega, rfl, by go_num, by rw [HS1.out, HS2.out, if_pos HR.out.symm, if_neg (by unfold notB; rw [← HR.out]; decide), List.append_nil]; exact HO8, HB8⟩
      | false =>
        go_wp2_with (at_builtin; go_must (refine wpList_append_blk rfl _ _ 93 rfl W1.heap.size 99 (.agg #[.int .i64 0, .int .i64 0, .int .i64 0, .int .i64 0]) 4 32 Try.underlying93 (by kernel_rfl) rfl (by decide) _ _ _ rfl HO7.out.b w6.heap.size _ _ rfl HT7.out rfl rfl (by have := HF.out.2; omega) (by decide) HW7.out ?_))
        intro g' cap' w8 hown hg hor hlt'
        have HO8 := Lib.hid (HO7.out.swap12.p1 ⟨ps, pn, pg, pv⟩ hown hg (by rw [World.size_alloc]; exact hor)).swap12
        have HB8 := Lib.hid (HB7.out.grown hg HW7.out (fun j hj => (own_lt HO7.out.b j hj).1))
        clear hown hg hor hlt' e0 e1 e2 e3 HO7 HB7 HT7
        go_wp2_with fail
        go_roundg (n - (k + 1))
        case measure => rw [G2.out]; omega
        case rel => exact ⟨k + 1, by omega, rfl, by go_num, by rw [HS1.out, HS2.out, if_neg (by rw [← HR.out]; decide), if_pos (by unfold notB; rw [← HR.out]; rfl), List.append_nil]; exact HO8, HB8⟩
    · obtain rfl : k = n := by omega
      rw [List.take_of_length_le (by rw [HN.out]; omega)] at HO
      obtain ⟨a6, c6, rfl⟩ := own_slice HO.out.a
      obtain ⟨a7, c7, rfl⟩ := own_slice HO.out.b
      have HR := Lib.hid (EvAt.of_own HO.out.a rfl)
      have HR2 := Lib.hid (EvAt.of_own HO.out.b rfl)
      go_wp2_with fail
      go_ret2
      exact ⟨a6, c6, a7, c7, rfl, HR.out, HR2.out, HBW.out⟩
end Go.Proofs.Ytlahmcbaiebapaa
