/- Lemmas for the law SystemChecks: Listed, OpenP. No conditions. -/
import Derived.Test.YtijeninfmjhbnaaDoorM06
import Derived.Test.YtijeninfmjhbnaaDoorM26
import Derived.Test.YtijeninfmjhbnaaDoorM07
import Derived.Test.YtijeninfmjhbnaaDoorM11
/- The reference's Listed. -/
section
namespace Go.Proofs.YtijeninfmjhbnaaDoor
open Go.ChangeShapes Go.WideShapes Go.ChangeAt Go.RowKit Go.Nm Go.Mem Go.Maps
set_option linter.unusedVariables false
def EComp (w : World) (cs : List Value) (c : CompV) : Prop := ∃ a cap, cs = [.int .i64 c.kind, .slice a c.vals.length cap] ∧ IntsAt .i64 w a c.vals
theorem EComp.at (w : World) (g q : Nat) (cs : List Value) (y : CompV) (h : EComp w cs y) (hc : ∀ i u, cs[i]? = some u → w.cell? ⟨g, q + i, none⟩ = some u) : CompAt w ⟨g, q, none⟩ y := by
  obtain ⟨a, cap, rfl, hi⟩ := h
  exact ⟨hc 0 _ rfl, a, cap, hc 1 _ rfl, hi⟩
theorem own_bel {w w' : World} {base e size n : Nat} {v : Value} {xs : List Value} (h : w.ownsRow base e size v n xs) (hb : Below w.heap.size w w') : w'.ownsRow base e size v n xs := by
  refine ⟨h.1, ?_⟩
  rcases h.2 with h | ⟨g, cap, cur, k1, k2, k3, k4⟩
  · exact Or.inl h
  · exact Or.inr ⟨g, cap, cur, k1, k2, heap_below k3 hb, k4⟩
def listedTo (F : Part) (k : Nat) : List CompV := (List.range k).filterMap (fun (i : Nat) => (F i).map (fun L => (⟨(i : Int), L⟩ : CompV)))
def listed (F : Part) : List CompV := listedTo F 16
theorem listedTo_succ (F : Part) (k : Nat) : listedTo F (k + 1) = listedTo F k ++ (match F k with | none => [] | some L => [⟨(k : Int), L⟩]) := by
  unfold listedTo
  rw [List.range_succ, List.filterMap_append]
  cases h : F k <;> simp [h]
theorem listedTo_len (F : Part) (k : Nat) : (listedTo F k).length ≤ k := by
  unfold listedTo
  exact Nat.le_trans (List.length_filterMap_le ..) (by simp)
end Go.Proofs.YtijeninfmjhbnaaDoor
end
/- A world opened into parts and closed again: the plain law of the reference's Open and of world.Check. No program is walked here. -/
section
namespace Go.Proofs.YtijeninfmjhbnaaDoor
open Go.ChangeShapes Go.WideShapes Go.ChangeAt Go.RowKit Go.Nm Go.Mem Go.Maps
set_option linter.unusedVariables false
/-! Lists in increasing order of a key. -/
theorem sorted_ext {α : Type} (key : α → Int) : ∀ {l k : List α}, l.Pairwise (fun x y => key x < key y) → k.Pairwise (fun x y => key x < key y) → (∀ x, x ∈ l ↔ x ∈ k) → l = k
  | [], [], _, _, _ => rfl
  | [], b :: k, _, _, h => absurd ((h b).2 List.mem_cons_self) (by simp)
  | a :: l, [], _, _, h => absurd ((h a).1 List.mem_cons_self) (by simp)
  | a :: l, b :: k, hl, hk, h => by
    have h1 := (List.pairwise_cons.1 hl).1
    have h2 := (List.pairwise_cons.1 hk).1
    have hab : a = b := by
      rcases List.mem_cons.1 ((h a).1 List.mem_cons_self) with e | ha
      · exact e
      · rcases List.mem_cons.1 ((h b).2 List.mem_cons_self) with e | hb
        · exact e.symm
        · have := h1 b hb
          have := h2 a ha
          omega
    subst hab
    congr 1
    refine sorted_ext key (List.pairwise_cons.1 hl).2 (List.pairwise_cons.1 hk).2 fun x => ⟨fun hx => ?_, fun hx => ?_⟩
    · rcases List.mem_cons.1 ((h x).1 (List.mem_cons_of_mem _ hx)) with e | hx'
      · subst e
        have := h1 x hx
        omega
      · exact hx'
    · rcases List.mem_cons.1 ((h x).2 (List.mem_cons_of_mem _ hx)) with e | hx'
      · subst e
        have := h2 x hx
        omega
      · exact hx'
/-- the values of a map at the first N keys -/
def listK {α β : Type} (mk : Nat → β → α) (G : Nat → Option β) (N : Nat) : List α := (List.range N).filterMap fun i => (G i).map (mk i)
theorem mem_listK {α β : Type} {mk : Nat → β → α} {G : Nat → Option β} {N : Nat} {x : α} : x ∈ listK mk G N ↔ ∃ i, i < N ∧ ∃ b, G i = some b ∧ mk i b = x := by
  unfold listK
  simp only [List.mem_filterMap, List.mem_range, Option.map_eq_some_iff]
theorem listK_sorted {α β : Type} {mk : Nat → β → α} (key : α → Int) (hk : ∀ i b, key (mk i b) = (i : Int)) (G : Nat → Option β) (N : Nat) : (listK mk G N).Pairwise (fun x y => key x < key y) := by
  unfold listK
  rw [List.pairwise_filterMap]
  refine List.Pairwise.imp ?_ (List.pairwise_lt_range (n := N))
  intro a b hab x hx y hy
  obtain ⟨p, _, rfl⟩ := Option.map_eq_some_iff.1 hx
  obtain ⟨q, _, rfl⟩ := Option.map_eq_some_iff.1 hy
  rw [hk, hk]
  omega
theorem listK_succ {α β : Type} (mk : Nat → β → α) (G : Nat → Option β) (N : Nat) : listK mk G (N + 1) = listK mk G N ++ (match G N with | none => [] | some b => [mk N b]) := by
  unfold listK
  rw [List.range_succ, List.filterMap_append]
  cases h : G N <;> simp [h]
theorem listed_listK (F : Part) : listed F = listK (fun (i : Nat) L => (⟨(i : Int), L⟩ : CompV)) F 16 := rfl
/-! Components. -/
theorem heldAt_iff (k : List KindV) (l : List CompV) : ∀ n, n ≤ l.length → (heldAt k l n = true ↔ ((l.take n).Pairwise (fun x y => x.kind < y.kind) ∧ ∀ c ∈ l.take n, 0 ≤ c.kind ∧ c.kind < k.length ∧ holdsB (k.getD c.kind.toNat default) c.vals = true)) := by
  intro n
  induction n with
  | zero => intro _; simp [heldAt]
  | succ n ih =>
    intro hn
    have hg : l.getD n default = l[n]'(by omega) := by rw [List.getD_eq_getElem?_getD, List.getElem?_eq_getElem (by omega)]; rfl
    have ht : l.take (n + 1) = l.take n ++ [l[n]'(by omega)] := by rw [List.take_add_one, List.getElem?_eq_getElem (by omega)]; rfl
    rw [heldAt_succ, hg, ht, List.pairwise_append]
    simp only [Bool.and_eq_true, decide_eq_true_eq, List.pairwise_cons, List.mem_append, List.mem_singleton, List.Pairwise.nil, List.not_mem_nil]
    constructor
    · rintro ⟨h1, h2, h3, h4⟩
      obtain ⟨p1, p2⟩ := (ih (by omega)).1 h1
      have hlow := heldAt_low k l n h1
      have hall : ∀ x ∈ l.take n, x.kind ≤ lastK l n := by
        intro x hx
        obtain ⟨i, hi, rfl⟩ := List.getElem_of_mem hx
        have hin : i < n := by have := List.length_take_le n l; omega
        have hlk : lastK l n = (l[n - 1]'(by omega)).kind := by
          unfold lastK
          rw [if_neg (by omega), List.getD_eq_getElem?_getD, List.getElem?_eq_getElem (by omega)]; rfl
        rw [hlk, List.getElem_take]
        by_cases e : i = n - 1
        · subst e; omega
        · have := List.pairwise_iff_getElem.1 p1 i (n - 1) hi (by rw [List.length_take]; omega) (by omega)
          rw [List.getElem_take, List.getElem_take] at this
          omega
      refine ⟨⟨p1, ⟨fun _ h => absurd h (by simp), trivial⟩, fun x hx y hy => by subst hy; have := hall x hx; omega⟩, fun c hc => ?_⟩
      rcases hc with hc | hc
      · exact p2 c hc
      · subst hc; exact ⟨by omega, h3, h4⟩
    · rintro ⟨⟨p1, _, p3⟩, p4⟩
      have hn' := p4 _ (Or.inr rfl)
      refine ⟨(ih (by omega)).2 ⟨p1, fun c hc => p4 c (Or.inl hc)⟩, ?_, hn'.2.1, hn'.2.2⟩
      unfold lastK
      split
      · omega
      · rw [List.getD_eq_getElem?_getD, List.getElem?_eq_getElem (by omega)]
        refine p3 _ ?_ _ rfl
        simp only [Option.getD_some]
        rw [List.mem_take_iff_getElem]
        exact ⟨n - 1, by omega, rfl⟩
theorem heldB_iff (k : List KindV) (l : List CompV) : heldB k l = true ↔ (l.Pairwise (fun x y => x.kind < y.kind) ∧ ∀ c ∈ l, 0 ≤ c.kind ∧ c.kind < k.length ∧ holdsB (k.getD c.kind.toNat default) c.vals = true) := by
  have := heldAt_iff k l l.length (Nat.le_refl _)
  rw [List.take_length] at this
  exact this
theorem fitGo_ok (ks : List KindV) : ∀ (l : List CompV) (M : Part), (fitGo ks l M).1 = 0 → (∀ c ∈ l, 0 ≤ c.kind ∧ c.kind < ks.length ∧ fitE (ks.getD c.kind.toNat default) c.vals = 0 ∧ M c.kind.toNat = none ∧ (fitGo ks l M).2 c.kind.toNat = some (fitL (ks.getD c.kind.toNat default).fields c.vals)) ∧ (∀ i, (∀ c ∈ l, c.kind.toNat ≠ i) → (fitGo ks l M).2 i = M i)
  | [], M, _ => ⟨fun c h => absurd h (by simp), fun i _ => rfl⟩
  | c :: r, M, h => by
    unfold fitGo at h ⊢
    split at h
    · simp at h
    · rename_i h1
      rw [if_neg h1]
      split at h
      · simp at h
      · rename_i h2
        rw [if_neg h2]
        split at h
        · rename_i h3
          exact absurd h h3
        · rename_i h3
          rw [if_neg h3]
          have h3' : fitE (ks.getD c.kind.toNat default) c.vals = 0 := Decidable.not_not.1 h3
          have h2' : M c.kind.toNat = none := by
            cases hm : M c.kind.toNat with
            | none => rfl
            | some L => rw [hm] at h2; exact absurd rfl h2
          obtain ⟨q1, q2⟩ := fitGo_ok ks r _ h
          have hne : ∀ d ∈ r, d.kind.toNat ≠ c.kind.toNat := by
            intro d hd e
            have := (q1 d hd).2.2.2.1
            rw [e, updF_same] at this
            cases this
          refine ⟨fun d hd => ?_, fun i hi => ?_⟩
          · rcases List.mem_cons.1 hd with e | hd'
            · subst e
              refine ⟨by omega, by omega, h3', h2', ?_⟩
              rw [q2 _ hne, updF_same]
            · obtain ⟨g1, g2, g3, g4, g5⟩ := q1 d hd'
              rw [updF_other _ _ (hne d hd')] at g4
              exact ⟨g1, g2, g3, g4, g5⟩
          · rw [q2 i (fun d hd => hi d (List.mem_cons_of_mem _ hd)), updF_other _ _ (fun e => hi c List.mem_cons_self e.symm)]
theorem fitGo_good (ks : List KindV) : ∀ (l : List CompV) (M : Part), (∀ c ∈ l, 0 ≤ c.kind ∧ c.kind < ks.length ∧ fitE (ks.getD c.kind.toNat default) c.vals = 0 ∧ M c.kind.toNat = none) → l.Pairwise (fun x y => x.kind ≠ y.kind) → (fitGo ks l M).1 = 0
  | [], M, _, _ => rfl
  | c :: r, M, h, hp => by
    obtain ⟨g1, g2, g3, g4⟩ := h c List.mem_cons_self
    unfold fitGo
    rw [if_neg (by omega), if_neg (by rw [g4]; simp), if_neg (fun e => e g3)]
    refine fitGo_good ks r _ (fun d hd => ?_) (List.pairwise_cons.1 hp).2
    obtain ⟨p1, p2, p3, p4⟩ := h d (List.mem_cons_of_mem _ hd)
    refine ⟨p1, p2, p3, ?_⟩
    have := (List.pairwise_cons.1 hp).1 d hd
    rw [updF_other _ _ (by omega)]
    exact p4
/-- components that are those of an item are what their parts list -/
theorem fit_of_held {ks : List KindV} {l : List CompV} (hk : ks.length ≤ 16) (h : heldB ks l = true) : fitAllE ks l = 0 ∧ listed (fitAllM ks l) = l := by
  obtain ⟨h1, h2⟩ := (heldB_iff ks l).1 h
  have hh : ∀ c ∈ l, fitE (ks.getD c.kind.toNat default) c.vals = 0 ∧ fitL (ks.getD c.kind.toNat default).fields c.vals = c.vals := by
    intro c hc
    have := (h2 c hc).2.2
    unfold holdsB at this
    simp only [Bool.and_eq_true, decide_eq_true_eq] at this
    exact this
  have hE : fitAllE ks l = 0 := fitGo_good ks l _ (fun c hc => ⟨(h2 c hc).1, (h2 c hc).2.1, (hh c hc).1, rfl⟩) (h1.imp fun h => by omega)
  refine ⟨hE, ?_⟩
  obtain ⟨q1, q2⟩ := fitGo_ok ks l _ hE
  rw [listed_listK]
  refine sorted_ext CompV.kind (listK_sorted CompV.kind (fun i b => rfl) _ _) h1 fun x => ?_
  rw [mem_listK]
  constructor
  · rintro ⟨i, hi, L, hL, rfl⟩
    by_cases he : ∃ c ∈ l, c.kind.toNat = i
    · obtain ⟨c, hc, rfl⟩ := he
      have g5 := (q1 c hc).2.2.2.2
      rw [show (fitGo ks l fun x => none).2 = fitAllM ks l from rfl, hL, (hh c hc).2] at g5
      injection g5 with g5
      subst g5
      have := (h2 c hc).1
      rw [show ((c.kind.toNat : Nat) : Int) = c.kind by omega]
      exact hc
    · have := q2 i (fun c hc e => he ⟨c, hc, e⟩)
      rw [show (fitGo ks l fun x => none).2 = fitAllM ks l from rfl, hL] at this
      cases this
  · intro hx
    obtain ⟨g1, g2, g3, g4, g5⟩ := q1 x hx
    refine ⟨x.kind.toNat, by omega, x.vals, ?_, ?_⟩
    · rw [(hh x hx).2] at g5; exact g5
    · rw [show ((x.kind.toNat : Nat) : Int) = x.kind by omega]
theorem held_of_fit {ks : List KindV} {l : List CompV} (hE : fitAllE ks l = 0) (h : listed (fitAllM ks l) = l) : heldB ks l = true := by
  obtain ⟨q1, q2⟩ := fitGo_ok ks l _ hE
  have h1 : l.Pairwise (fun x y => x.kind < y.kind) := by
    rw [← h, listed_listK]
    exact listK_sorted CompV.kind (fun i b => rfl) _ _
  refine (heldB_iff ks l).2 ⟨h1, fun c hc => ?_⟩
  obtain ⟨g1, g2, g3, g4, g5⟩ := q1 c hc
  refine ⟨g1, g2, ?_⟩
  have hm := hc
  rw [← h, listed_listK, mem_listK] at hm
  obtain ⟨i, hi, L, hL, e⟩ := hm
  unfold holdsB
  subst e
  rw [show (fitGo ks l fun x => none).2 = fitAllM ks l from rfl, show ((⟨(i : Int), L⟩ : CompV).kind.toNat) = i from by simp, hL] at g5
  injection g5 with g5
  rw [decide_eq_true g3, Bool.true_and, decide_eq_true_eq]
  simp only [Int.toNat_natCast] at g5 ⊢
  exact g5.symm
/-! Items. -/
theorem gensAt_iff (l : List Int) : ∀ n, (gensAt l n = true ↔ ∀ i, i < n → 0 ≤ l.getD i 0 ∧ l.getD i 0 ≤ 1073741824) := by
  intro n
  induction n with
  | zero => simp [gensAt]
  | succ n ih =>
    rw [gensAt_succ, Bool.and_eq_true, ih, Bool.and_eq_true, decide_eq_true_eq, decide_eq_true_eq]
    constructor
    · rintro ⟨h1, h2⟩ i hi
      by_cases e : i = n
      · subst e; exact h2
      · exact h1 i (by omega)
    · intro h
      exact ⟨fun i hi => h i (by omega), h n (by omega)⟩
def itemFit (w : WorldV) (y : ItemV) : Prop := 0 ≤ y.n ∧ y.n < w.gens.length ∧ y.gen = w.gens.getD y.n.toNat 0 ∧ y.gen ≠ 1073741824 ∧ heldB w.kinds y.comps = true
theorem itemsAt_iff (w : WorldV) : ∀ n, n ≤ w.items.length → (itemsAt w n = true ↔ ((w.items.take n).Pairwise (fun x y => x.n < y.n) ∧ ∀ y ∈ w.items.take n, itemFit w y)) := by
  intro n
  induction n with
  | zero => intro _; simp [itemsAt]
  | succ n ih =>
    intro hn
    have hg : w.items.getD n default = w.items[n]'(by omega) := by rw [List.getD_eq_getElem?_getD, List.getElem?_eq_getElem (by omega)]; rfl
    have ht : w.items.take (n + 1) = w.items.take n ++ [w.items[n]'(by omega)] := by rw [List.take_add_one, List.getElem?_eq_getElem (by omega)]; rfl
    rw [itemsAt_succ, hg, ht, List.pairwise_append]
    simp only [Bool.and_eq_true, decide_eq_true_eq, List.pairwise_cons, List.mem_append, List.mem_singleton, List.Pairwise.nil, List.not_mem_nil]
    constructor
    · rintro ⟨h1, h2, h3, h4, h5, h6⟩
      obtain ⟨p1, p2⟩ := (ih (by omega)).1 h1
      have hlow := itemsAt_low w n h1
      have hall : ∀ x ∈ w.items.take n, x.n ≤ lastN w.items n := by
        intro x hx
        obtain ⟨i, hi, rfl⟩ := List.getElem_of_mem hx
        have hin : i < n := by have := List.length_take_le n w.items; omega
        have hlk : lastN w.items n = (w.items[n - 1]'(by omega)).n := by
          unfold lastN
          rw [if_neg (by omega), List.getD_eq_getElem?_getD, List.getElem?_eq_getElem (by omega)]; rfl
        rw [hlk, List.getElem_take]
        by_cases e : i = n - 1
        · subst e; omega
        · have := List.pairwise_iff_getElem.1 p1 i (n - 1) hi (by rw [List.length_take]; omega) (by omega)
          rw [List.getElem_take, List.getElem_take] at this
          omega
      refine ⟨⟨p1, ⟨fun _ h => absurd h (by simp), trivial⟩, fun x hx y hy => by subst hy; have := hall x hx; omega⟩, fun c hc => ?_⟩
      rcases hc with hc | hc
      · exact p2 c hc
      · subst hc; exact ⟨by omega, h3, h4, h5, h6⟩
    · rintro ⟨⟨p1, _, p3⟩, p4⟩
      obtain ⟨g1, g2, g3, g4, g5⟩ := p4 _ (Or.inr rfl)
      refine ⟨(ih (by omega)).2 ⟨p1, fun c hc => p4 c (Or.inl hc)⟩, ?_, g2, g3, g4, g5⟩
      unfold lastN
      split
      · omega
      · rw [List.getD_eq_getElem?_getD, List.getElem?_eq_getElem (by omega)]
        refine p3 _ ?_ _ rfl
        simp only [Option.getD_some]
        rw [List.mem_take_iff_getElem]
        exact ⟨n - 1, by omega, rfl⟩
structure FlatV where
  kinds : List KindV
  gens : List Int
  parts : Nat → Option Part
def closeTo (f : FlatV) : Nat → List ItemV
  | 0 => []
  | n + 1 => closeTo f n ++ (match f.parts n with | none => [] | some F => [⟨(n : Int), f.gens.getD n 0, listed F⟩])
def closeV (f : FlatV) : WorldV := ⟨f.kinds, f.gens, closeTo f f.gens.length⟩
theorem closeTo_listK (f : FlatV) : ∀ n, closeTo f n = listK (fun (i : Nat) F => (⟨(i : Int), f.gens.getD i 0, listed F⟩ : ItemV)) f.parts n
  | 0 => rfl
  | n + 1 => by
    rw [listK_succ, ← closeTo_listK f n, closeTo]
    congr 1
    cases f.parts n <;> rfl
/-- the parts of some items; none: one of them is wrong -/
def openGo (ks : List KindV) (ng : Nat) : List ItemV → (Nat → Option Part) → Option (Nat → Option Part)
  | [], G => some G
  | y :: r, G => if fitAllE ks y.comps ≠ 0 ∨ y.n < 0 ∨ (ng : Int) ≤ y.n then none else openGo ks ng r (updF G y.n.toNat (fitAllM ks y.comps))
def gensO (gens : List Int) (G : Nat → Option Part) : Nat → Bool
  | 0 => true
  | i + 1 => gensO gens G i && (decide (0 ≤ gens.getD i 0) && (decide (gens.getD i 0 ≤ 1073741824) && !(decide (gens.getD i 0 = 1073741824) && (G i).isSome)))
theorem gensO_succ (gens : List Int) (G : Nat → Option Part) (i : Nat) : gensO gens G (i + 1) = (gensO gens G i && (decide (0 ≤ gens.getD i 0) && (decide (gens.getD i 0 ≤ 1073741824) && !(decide (gens.getD i 0 = 1073741824) && (G i).isSome)))) := rfl
theorem gensO_stays (gens : List Int) (G : Nat → Option Part) (i : Nat) (h : gensO gens G i = false) : ∀ n, i ≤ n → gensO gens G n = false := by
  intro n
  induction n with
  | zero => intro hn; obtain rfl : i = 0 := by omega
            exact h
  | succ n ih =>
    intro hn
    by_cases e : i = n + 1
    · rw [← e]; exact h
    · rw [gensO_succ, ih (by omega), Bool.false_and]
theorem gensO_iff (l : List Int) (G : Nat → Option Part) : ∀ n, (gensO l G n = true ↔ ∀ i, i < n → 0 ≤ l.getD i 0 ∧ l.getD i 0 ≤ 1073741824 ∧ (l.getD i 0 = 1073741824 → G i = none)) := by
  intro n
  induction n with
  | zero => simp [gensO]
  | succ n ih =>
    rw [gensO_succ, Bool.and_eq_true, ih]
    have key : (decide (0 ≤ l.getD n 0) && (decide (l.getD n 0 ≤ 1073741824) && !(decide (l.getD n 0 = 1073741824) && (G n).isSome))) = true ↔ (0 ≤ l.getD n 0 ∧ l.getD n 0 ≤ 1073741824 ∧ (l.getD n 0 = 1073741824 → G n = none)) := by
      simp only [Bool.and_eq_true, decide_eq_true_eq, Bool.not_eq_true', Bool.and_eq_false_iff, decide_eq_false_iff_not]
      refine and_congr Iff.rfl (and_congr Iff.rfl ⟨fun h e => ?_, fun h => ?_⟩)
      · rcases h with h | h
        · exact absurd e h
        · cases hg : G n with
          | none => rfl
          | some F => rw [hg] at h; cases h
      · by_cases e : l.getD n 0 = 1073741824
        · right; rw [h e]; rfl
        · exact Or.inl e
    rw [key]
    constructor
    · rintro ⟨h1, h2⟩ i hi
      by_cases e : i = n
      · subst e; exact h2
      · exact h1 i (by omega)
    · intro h
      exact ⟨fun i hi => h i (by omega), h n (by omega)⟩
theorem openGo_some (ks : List KindV) (ng : Nat) : ∀ (l : List ItemV) (G G' : Nat → Option Part), openGo ks ng l G = some G' → (∀ y ∈ l, fitAllE ks y.comps = 0 ∧ 0 ≤ y.n ∧ y.n < ng) ∧ (∀ i, (∀ y ∈ l, y.n.toNat ≠ i) → G' i = G i) ∧ (l.Pairwise (fun x y => x.n < y.n) → ∀ y ∈ l, G' y.n.toNat = some (fitAllM ks y.comps))
  | [], G, G', h => by
    injection h with h
    subst h
    exact ⟨fun y h => absurd h (by simp), fun i _ => rfl, fun _ y h => absurd h (by simp)⟩
  | y :: r, G, G', h => by
    unfold openGo at h
    split at h
    · cases h
    · rename_i h1
      have h1a : fitAllE ks y.comps = 0 := Decidable.byContradiction fun e => h1 (Or.inl e)
      have h1b : 0 ≤ y.n ∧ y.n < ng := by omega
      obtain ⟨q1, q2, q3⟩ := openGo_some ks ng r _ G' h
      refine ⟨fun z hz => ?_, fun i hi => ?_, fun hp z hz => ?_⟩
      · rcases List.mem_cons.1 hz with e | hz
        · subst e; exact ⟨h1a, h1b⟩
        · exact q1 z hz
      · rw [q2 i (fun z hz => hi z (List.mem_cons_of_mem _ hz)), updF_other _ _ (fun e => hi y List.mem_cons_self e.symm)]
      · obtain ⟨p1, p2⟩ := List.pairwise_cons.1 hp
        rcases List.mem_cons.1 hz with e | hz
        · subst e
          rw [q2 _ (fun x hx => by have := p1 x hx; omega), updF_same]
        · exact q3 p2 z hz
theorem openGo_good (ks : List KindV) (ng : Nat) : ∀ (l : List ItemV) (G : Nat → Option Part), (∀ y ∈ l, fitAllE ks y.comps = 0 ∧ 0 ≤ y.n ∧ y.n < ng) → ∃ G', openGo ks ng l G = some G'
  | [], G, _ => ⟨G, rfl⟩
  | y :: r, G, h => by
    obtain ⟨g1, g2, g3⟩ := h y List.mem_cons_self
    unfold openGo
    rw [if_neg (by rw [g1]; omega)]
    exact openGo_good ks ng r _ fun z hz => h z (List.mem_cons_of_mem _ hz)
def openV (w : WorldV) (G : Nat → Option Part) : FlatV := ⟨w.kinds, w.gens, G⟩
def openE (w : WorldV) : Int := if kindsE w.kinds ≠ 0 then kindsE w.kinds else if 256 < w.gens.length ∨ w.gens.length < w.items.length then 2 else
  match openGo w.kinds w.gens.length w.items (fun _ => none) with
  | none => 3
  | some G => if gensO w.gens G w.gens.length = true ∧ sameB (closeV (openV w G)) w = true then 0 else 3
theorem kindsE_len {l : List KindV} (h : kindsE l = 0) : l.length ≤ 16 := by
  unfold kindsE at h
  split at h
  · cases h
  · omega
theorem sameB_close (w : WorldV) (G : Nat → Option Part) : sameB (closeV (openV w G)) w = true ↔ closeTo (openV w G) w.gens.length = w.items := by
  unfold sameB closeV
  rw [show (openV w G).kinds = w.kinds from rfl, show (openV w G).gens = w.gens from rfl, eqL_refl keqB_refl]
  simp
theorem open_check (w : WorldV) : openE w = checkE w := by
  unfold openE checkE
  by_cases h1 : kindsE w.kinds ≠ 0
  · rw [if_pos h1, if_pos h1]
  · rw [if_neg h1, if_neg h1]
    by_cases h2 : 256 < w.gens.length ∨ w.gens.length < w.items.length
    · rw [if_pos h2, if_pos h2]
    · rw [if_neg h2, if_neg h2]
      have hk := kindsE_len (Decidable.not_not.1 h1)
      have hi := itemsAt_iff w w.items.length (Nat.le_refl _)
      rw [List.take_length] at hi
      have hgi := gensAt_iff w.gens w.gens.length
      cases ho : openGo w.kinds w.gens.length w.items (fun _ => none) with
      | none =>
        simp only
        rw [if_neg]
        rintro ⟨_, hit⟩
        obtain ⟨p1, p2⟩ := hi.1 hit
        obtain ⟨G', hG⟩ := openGo_good w.kinds w.gens.length w.items (fun _ => none) (fun y hy => by
          obtain ⟨f1, f2, f3, f4, f5⟩ := p2 y hy
          exact ⟨(fit_of_held hk f5).1, f1, f2⟩)
        rw [ho] at hG
        cases hG
      | some G =>
        simp only
        obtain ⟨q1, q2, q3⟩ := openGo_some _ _ _ _ _ ho
        have hiff : (gensO w.gens G w.gens.length = true ∧ sameB (closeV (openV w G)) w = true) ↔ (gensAt w.gens w.gens.length = true ∧ itemsAt w w.items.length = true) := by
          rw [sameB_close, closeTo_listK, gensO_iff, hgi, hi]
          constructor
          · rintro ⟨hg, hc⟩
            refine ⟨fun i hi => ⟨(hg i hi).1, (hg i hi).2.1⟩, ?_⟩
            have hs : w.items.Pairwise (fun x y => x.n < y.n) := by
              rw [← hc]
              exact listK_sorted ItemV.n (fun i b => rfl) _ _
            refine ⟨hs, fun y hy => ?_⟩
            obtain ⟨r1, r2, r3⟩ := q1 y hy
            have hG := q3 hs y hy
            have hm := hy
            rw [← hc, mem_listK] at hm
            obtain ⟨i, hin, F, hF, e⟩ := hm
            have hF' : G i = some F := hF
            have en : y.n = (i : Int) := by rw [← e]
            have eg : y.gen = w.gens.getD i 0 := by rw [← e]; rfl
            have ec : y.comps = listed F := by rw [← e]
            rw [en, Int.toNat_natCast, hF'] at hG
            injection hG with hG
            refine ⟨r2, r3, by rw [eg, en, Int.toNat_natCast], fun e2 => ?_, held_of_fit r1 (by rw [← hG]; exact ec.symm)⟩
            have := (hg i hin).2.2 (by rw [← eg]; exact e2)
            rw [hF'] at this
            cases this
          · rintro ⟨hg, hs, hy⟩
            have hmem : ∀ i F, G i = some F → ∃ y ∈ w.items, y.n.toNat = i ∧ F = fitAllM w.kinds y.comps := by
              intro i F hF
              by_cases he : ∃ y ∈ w.items, y.n.toNat = i
              · obtain ⟨y, hy1, rfl⟩ := he
                have := q3 hs y hy1
                rw [hF] at this
                injection this with this
                exact ⟨y, hy1, rfl, this⟩
              · have := q2 i (fun y hy e => he ⟨y, hy, e⟩)
                rw [hF] at this
                cases this
            refine ⟨fun i hi => ⟨(hg i hi).1, (hg i hi).2, fun e => ?_⟩, ?_⟩
            · cases hG : G i with
              | none => rfl
              | some F =>
                obtain ⟨y, hy1, rfl, _⟩ := hmem i F hG
                obtain ⟨f1, f2, f3, f4, f5⟩ := hy y hy1
                rw [← f3] at e
                exact absurd e f4
            · refine sorted_ext ItemV.n (listK_sorted ItemV.n (fun i b => rfl) _ _) hs fun x => ?_
              rw [mem_listK]
              constructor
              · rintro ⟨i, hin, F, hF, rfl⟩
                obtain ⟨y, hy1, rfl, hFe⟩ := hmem i F hF
                obtain ⟨f1, f2, f3, f4, f5⟩ := hy y hy1
                have hl := (fit_of_held hk f5).2
                rw [hFe, hl, show ((y.n.toNat : Nat) : Int) = y.n by omega]
                rw [show (openV w G).gens = w.gens from rfl, ← f3]
                exact hy1
              · intro hx
                obtain ⟨f1, f2, f3, f4, f5⟩ := hy x hx
                refine ⟨x.n.toNat, by omega, _, q3 hs x hx, ?_⟩
                rw [(fit_of_held hk f5).2, show ((x.n.toNat : Nat) : Int) = x.n by omega, show (openV w G).gens = w.gens from rfl, ← f3]
        by_cases hc : gensAt w.gens w.gens.length = true ∧ itemsAt w w.items.length = true
        · rw [if_pos hc, if_pos (hiff.2 hc)]
        · rw [if_neg hc, if_neg (fun h => hc (hiff.1 h))]
/-- a good world is what its parts close to -/
theorem open_good {w : WorldV} (h : checkE w = 0) : ∃ G, openGo w.kinds w.gens.length w.items (fun _ => none) = some G ∧ gensO w.gens G w.gens.length = true ∧ closeV (openV w G) = w := by
  rw [← open_check] at h
  unfold openE at h
  split at h
  · rename_i h1; exact absurd h h1
  · split at h
    · cases h
    · split at h
      · cases h
      · rename_i G hG
        split at h
        · rename_i hc
          refine ⟨G, hG, hc.1, ?_⟩
          have := (sameB_close w G).1 hc.2
          unfold closeV
          rw [show (openV w G).gens = w.gens from rfl, this]
          rfl
        · cases h
end Go.Proofs.YtijeninfmjhbnaaDoor
end
