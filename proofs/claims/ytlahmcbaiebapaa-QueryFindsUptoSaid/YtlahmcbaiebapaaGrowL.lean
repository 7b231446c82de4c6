/- A list of structs grown by append: the row, and each element's deep part, that leans only on blocks made in its own round. -/
import Derived.Test.YtlahmcbaiebapaaRd
import Derived.Test.YtlahmcbaiebapaaOwn
import Derived.Test.YtlahmcbaiebapaaMem3
import Derived.Deep.AppendLies
import Derived.Laws.OwnMore
namespace Go.Proofs.Ytlahmcbaiebapaa
open Go.ChangeShapes Go.WideShapes Go.ChangeAt Go.RowKit Go.Mem
set_option linter.unusedVariables false
/-- Q holds, and leans on the blocks lo .. hi - 1 alone -/
def Win (lo hi : Nat) (Q : World → Prop) (w : World) : Prop := hi ≤ w.heap.size ∧ ∀ w2 : World, hi ≤ w2.heap.size → (∀ g, lo ≤ g → g < hi → w2.heap[g]? = w.heap[g]?) → Q w2
theorem Win.now {lo hi : Nat} {Q : World → Prop} {w : World} (h : Win lo hi Q w) : Q w := h.2 w h.1 (fun _ _ _ => rfl)
theorem Win.to {lo hi : Nat} {Q : World → Prop} {w w' : World} (h : Win lo hi Q w) (hs : hi ≤ w'.heap.size) (hb : ∀ g, lo ≤ g → g < hi → w'.heap[g]? = w.heap[g]?) : Win lo hi Q w' :=
  ⟨hs, fun w2 h1 h2 => h.2 w2 h1 (fun g g1 g2 => (h2 g g1 g2).trans (hb g g1 g2))⟩
theorem Win.ofUp {B : Nat} {Q : World → Prop} {w : World} (h : Up B Q w) : Win B w.heap.size Q w := ⟨Nat.le_refl _, fun w2 h1 h2 => h w2 ⟨h1, h2⟩⟩
theorem flat_len {α : Type} {sz : Nat} : ∀ (css : List (List α)), (∀ c ∈ css, c.length = sz) → css.flatten.length = css.length * sz
  | [], _ => by simp
  | c :: r, h => by
    rw [List.flatten_cons, List.length_append, flat_len r (fun x hx => h x (List.mem_cons_of_mem _ hx)), h c (List.mem_cons_self ..), List.length_cons, Nat.succ_mul]
    omega
theorem flat_get {α : Type} {sz : Nat} : ∀ (css : List (List α)), (∀ c ∈ css, c.length = sz) → ∀ j (h : j < css.length) i, i < sz → css.flatten[j * sz + i]? = css[j][i]?
  | [], _, j, h, _, _ => absurd h (by simp)
  | c :: r, hc, 0, h, i, hi => by
    rw [List.flatten_cons, Nat.zero_mul, Nat.zero_add, List.getElem?_append_left (by rw [hc c (List.mem_cons_self ..)]; exact hi)]
    rfl
  | c :: r, hc, j + 1, h, i, hi => by
    have hcl := hc c (List.mem_cons_self ..)
    rw [List.flatten_cons, List.getElem?_append_right (by rw [hcl, Nat.succ_mul]; omega), hcl, show (j + 1) * sz + i - sz = j * sz + i by rw [Nat.succ_mul]; omega]
    exact flat_get r (fun x hx => hc x (List.mem_cons_of_mem _ hx)) j (by simpa using h) i hi
def GrowL {α : Type} (E : World → List Value → α → Prop) (base : Nat) (T : TypeId) (sz : Nat) (w : World) (v : Value) (l : List α) : Prop :=
  ∃ css : List (List Value), css.length = l.length ∧ (∀ c ∈ css, c.length = sz) ∧ w.ownsRow base T sz v l.length css.flatten ∧
    ∀ j (h : j < l.length) (h2 : j < css.length), ∃ lo hi, base ≤ lo ∧ (∀ g, v.ownBlock = some g → ¬(lo ≤ g ∧ g < hi)) ∧ Win lo hi (fun w => E w css[j] l[j]) w
theorem GrowL.nil {α : Type} (E : World → List Value → α → Prop) (T : TypeId) (sz : Nat) (base : Nat) (w : World) : GrowL E base T sz w (.slice none 0 0) [] :=
  ⟨[], rfl, fun c h => absurd h (by simp), ⟨by simp, Or.inl ⟨rfl, rfl⟩⟩, fun j h => absurd h (by simp)⟩
theorem GrowL.below {α : Type} {E : World → List Value → α → Prop} {base : Nat} {T : TypeId} {sz : Nat} {w w' : World} {v : Value} {l : List α} (h : GrowL E base T sz w v l) (hb : Below w.heap.size w w') : GrowL E base T sz w' v l := by
  obtain ⟨css, h1, h2, h3, h4⟩ := h
  refine ⟨css, h1, h2, ?_, fun j hj hj2 => ?_⟩
  · refine ⟨h3.1, ?_⟩
    rcases h3.2 with h | ⟨g, cap, cur, k1, k2, k3, k4⟩
    · exact Or.inl h
    · exact Or.inr ⟨g, cap, cur, k1, k2, heap_below k3 hb, k4⟩
  · obtain ⟨lo, hi, p0, p1, p2⟩ := h4 j hj hj2
    exact ⟨lo, hi, p0, p1, p2.to (Nat.le_trans p2.1 hb.size) (fun g _ g2 => hb.block g (Nat.lt_of_lt_of_le g2 p2.1))⟩
theorem GrowL.frame {α : Type} {E : World → List Value → α → Prop} {base : Nat} {T : TypeId} {sz : Nat} {w w' : World} {v : Value} {l : List α} (h : GrowL E base T sz w v l) (hs : w.heap.size ≤ w'.heap.size) (hb : ∀ g, base ≤ g → g < w.heap.size → w'.heap[g]? = w.heap[g]?) : GrowL E base T sz w' v l := by
  obtain ⟨css, h1, h2, h3, h4⟩ := h
  refine ⟨css, h1, h2, ?_, fun j hj hj2 => ?_⟩
  · refine ⟨h3.1, ?_⟩
    rcases h3.2 with h | ⟨g, cap, cur, k1, k2, k3, k4⟩
    · exact Or.inl h
    · exact Or.inr ⟨g, cap, cur, k1, k2, (hb g k2 (lt_of_heap k3)).trans k3, k4⟩
  · obtain ⟨lo, hi, p0, p1, p2⟩ := h4 j hj hj2
    exact ⟨lo, hi, p0, p1, p2.to (Nat.le_trans p2.1 hs) (fun g g1 g2 => hb g (Nat.le_trans p0 g1) (Nat.lt_of_lt_of_le g2 p2.1))⟩
theorem GrowL.push {α : Type} {E : World → List Value → α → Prop} {base : Nat} {T : TypeId} {sz : Nat} {w w2 w3 : World} {v v' : Value} {l : List α} (h : GrowL E base T sz w v l) (hbase : base ≤ w.heap.size) (hb : Below w.heap.size w w2)
    (cs : List Value) (y : α) (hcs : cs.length = sz) (hy : Win w.heap.size w2.heap.size (fun w => E w cs y) w2)
    {css : List (List Value)} (hcss : css.length = l.length ∧ (∀ c ∈ css, c.length = sz) ∧ w.ownsRow base T sz v l.length css.flatten ∧ ∀ j (h : j < l.length) (h2 : j < css.length), ∃ lo hi, base ≤ lo ∧ (∀ g, v.ownBlock = some g → ¬(lo ≤ g ∧ g < hi)) ∧ Win lo hi (fun w => E w css[j] l[j]) w)
    (hown : w3.ownsRow base T sz v' (l.length + 1) (css.flatten ++ cs)) (hg : w2.grownBy w3 v.ownBlock) (g' : Nat) (hv' : v'.ownBlock = some g') (hlie : v.ownBlock = some g' ∨ g' = w2.heap.size) : GrowL E base T sz w3 v' (l ++ [y]) := by
  obtain ⟨h1, h2, h3, h4⟩ := hcss
  refine ⟨css ++ [cs], by simp [h1], ?_, ?_, fun j hj hj2 => ?_⟩
  · intro c hc
    rcases List.mem_append.1 hc with hc | hc
    · exact h2 c hc
    · rw [List.mem_singleton.1 hc]; exact hcs
  · rw [List.flatten_append, List.length_append]
    simpa using hown
  · by_cases hjl : j < l.length
    · obtain ⟨lo, hi, p0, p1, p2⟩ := h4 j hjl (by omega)
      have e1 : (css ++ [cs])[j]'hj2 = css[j]'(by omega) := List.getElem_append_left (by omega)
      have e2 : (l ++ [y])[j]'hj = l[j]'hjl := List.getElem_append_left hjl
      rw [e1, e2]
      refine ⟨lo, hi, p0, fun g hgg => ?_, p2.to (Nat.le_trans p2.1 (Nat.le_trans hb.size hg.size)) (fun g g1 g2 => ?_)⟩
      · rw [hv'] at hgg
        injection hgg with hgg
        subst hgg
        rcases hlie with hl | hl
        · exact p1 _ hl
        · have := hb.size
          have := p2.1
          omega
      · have hgw : g < w.heap.size := Nat.lt_of_lt_of_le g2 p2.1
        rw [hg.block g (Nat.lt_of_lt_of_le hgw hb.size) (fun e => p1 g e.symm ⟨g1, g2⟩)]
        exact hb.block g hgw
    · have hje : j = l.length := by simp at hj; omega
      subst hje
      have e1 : (css ++ [cs])[l.length]'hj2 = cs := by
        rw [List.getElem_append_right (by omega)]; simp [h1]
      have e2 : (l ++ [y])[l.length]'hj = y := by
        rw [List.getElem_append_right (by omega)]; simp
      rw [e1, e2]
      refine ⟨w.heap.size, w2.heap.size, hbase, fun g hgg => ?_, hy.to hg.size (fun g g1 g2 => ?_)⟩
      · rw [hv'] at hgg
        injection hgg with hgg
        subst hgg
        rcases hlie with hl | hl
        · have := (own_lt h3 _ hl).2
          omega
        · omega
      · exact hg.block g g2 (fun e => by have := (own_lt h3 _ e.symm).2; omega)
theorem GrowL.push2 {α : Type} {E : World → List Value → α → Prop} {base : Nat} {T : TypeId} {sz : Nat} {w w2 w3 : World} {v v' : Value} {l : List α} (h : GrowL E base T sz w v l) (hbase : base ≤ w.heap.size) (hb : Below w.heap.size w w2)
    (cs : List Value) (y : α) (hcs : cs.length = sz) (hy : Win w.heap.size w2.heap.size (fun w => E w cs y) w2)
    {css : List (List Value)} (hcss : css.length = l.length ∧ (∀ c ∈ css, c.length = sz) ∧ w.ownsRow base T sz v l.length css.flatten ∧ ∀ j (h : j < l.length) (h2 : j < css.length), ∃ lo hi, base ≤ lo ∧ (∀ g, v.ownBlock = some g → ¬(lo ≤ g ∧ g < hi)) ∧ Win lo hi (fun w => E w css[j] l[j]) w)
    (hown : w3.ownsRow base T sz v' (l.length + 1) (css.flatten ++ cs)) (hg : w2.grownBy w3 v.ownBlock) (hlie : v'.ownBlock = v.ownBlock ∨ v'.ownBlock = some w2.heap.size) : GrowL E base T sz w3 v' (l ++ [y]) := by
  obtain ⟨g', cap, hv', _, _⟩ := hown.form (by omega)
  have hv2 : v'.ownBlock = some g' := by rw [hv']; rfl
  refine h.push hbase hb cs y hcs hy hcss hown hg g' hv2 ?_
  rcases hlie with hl | hl
  · exact Or.inl (by rw [← hl]; exact hv2)
  · exact Or.inr (by rw [hv2] at hl; injection hl)
theorem GrowL.slice {α : Type} {E : World → List Value → α → Prop} {base : Nat} {T : TypeId} {sz : Nat} {w : World} {v : Value} {l : List α} (h : GrowL E base T sz w v l) : ∃ a c, v = .slice a l.length c ∧ l.length ≤ c ∧ c ≤ 9223372036854775807 := by
  obtain ⟨css, h1, h2, h3, h4⟩ := h
  rcases h3.2 with ⟨h, h0⟩ | ⟨g, cap, cur, k1, k2, k3, k4, k5, _⟩
  · exact ⟨none, 0, by rw [h, h0], by omega, by omega⟩
  · exact ⟨_, cap, k1, k4, k5⟩
theorem GrowL.up {α : Type} {E : World → List Value → α → Prop} {At : World → Addr → α → Prop} (hEA : ∀ w g q cs y, E w cs y → (∀ i u, cs[i]? = some u → w.cell? ⟨g, q + i, none⟩ = some u) → At w ⟨g, q, none⟩ y)
    {base : Nat} {T : TypeId} {sz : Nat} {w : World} {v : Value} {l : List α} (h : GrowL E base T sz w v l) (a : Option Addr) (c : Nat) (hv : v = .slice a l.length c) : Up base (fun w => SlAt sz At w a l) w := by
  obtain ⟨css, h1, h2, h3, h4⟩ := h
  intro w2 hs h0
  rcases h3.2 with ⟨h, h9⟩ | ⟨g, cap, cur, k1, k2, k3, k4, k5, k6, k7⟩
  · omega
  · rw [k1] at hv
    injection hv with e1 e2 e3
    subst e1
    have hlt : g < w.heap.size := lt_of_heap k3
    have h3' : w2.ownsRow base T sz (.slice (some ⟨g, 0, none⟩) l.length cap) l.length css.flatten := ⟨h3.1, Or.inr ⟨g, cap, cur, rfl, k2, (hs.2 g k2 hlt).trans k3, k4, k5, k6, k7⟩⟩
    refine ⟨_, rfl, Nat.lt_of_lt_of_le hlt hs.1, fun j hj => ?_⟩
    obtain ⟨lo, hi, p0, p1, p2⟩ := h4 j hj (by omega)
    have hE := p2.2 w2 (Nat.le_trans p2.1 hs.1) (fun g2 q1 q2 => hs.2 g2 (Nat.le_trans p0 q1) (Nat.lt_of_lt_of_le q2 p2.1))
    rw [add_zero_block]
    refine hEA w2 g (j * sz) _ _ hE (fun i u hu => ?_)
    have hc2 := h2 _ (List.getElem_mem (show j < css.length by omega))
    have hil : i < sz := by
      rcases Nat.lt_or_ge i sz with hlt2 | hge
      · exact hlt2
      · rw [List.getElem?_eq_none (by omega)] at hu; cases hu
    rw [h3'.cellAt (j * sz + i) (by
      have : (j + 1) * sz ≤ l.length * sz := Nat.mul_le_mul_right _ hj
      rw [Nat.succ_mul] at this
      omega), flat_get css h2 j (by omega) i hil]
    exact hu
end Go.Proofs.Ytlahmcbaiebapaa
