/- Lemmas for the law TopBorderText: GrowL, Listed, FitTup, KindFitU, KindFitd. No conditions. -/
import Derived.Test.YtfckbkhnelgjbaaM06
import Derived.Test.YtfckbkhnelgjbaaM08
import Derived.Deep.AppendLies
import Derived.Laws.OwnMore
import Derived.Test.YtfckbkhnelgjbaaM14
import Derived.Test.YtfckbkhnelgjbaaM07
import Derived.Test.YtfckbkhnelgjbaaM05
import Derived.Shelf.Abstract
/- A list of structs grown by append: the row, and each element's deep part, that leans only on blocks made in its own round. -/
section
namespace Go.Proofs.Ytfckbkhnelgjbaa
open Go.ChangeShapes Go.WideShapes Go.ChangeAt Go.RowKit Go.Nm Go.Mem
set_option linter.unusedVariables false
/-- Q holds, and leans on the blocks lo .. hi - 1 alone -/
def Win (lo hi : Nat) (Q : World → Prop) (w : World) : Prop := hi ≤ w.heap.size ∧ ∀ w2 : World, hi ≤ w2.heap.size → (∀ g, lo ≤ g → g < hi → w2.heap[g]? = w.heap[g]?) → Q w2
theorem Win.now {lo hi : Nat} {Q : World → Prop} {w : World} (h : Win lo hi Q w) : Q w := h.2 w h.1 (fun _ _ _ => rfl)
theorem Win.to {lo hi : Nat} {Q : World → Prop} {w w' : World} (h : Win lo hi Q w) (hs : hi ≤ w'.heap.size) (hb : ∀ g, lo ≤ g → g < hi → w'.heap[g]? = w.heap[g]?) : Win lo hi Q w' :=
  ⟨hs, fun w2 h1 h2 => h.2 w2 h1 (fun g g1 g2 => (h2 g g1 g2).trans (hb g g1 g2))⟩
theorem Win.ofUp {B : Nat} {Q : World → Prop} {w : World} (h : Up B Q w) : Win B w.heap.size Q w := ⟨Nat.le_refl _, fun w2 h1 h2 => h w2 ⟨h1, h2⟩⟩
theorem flat_len {α : Type} {sz : Nat} : ∀ (css : List (List α)), (∀ c ∈ css, c.length = sz) → css.flatten.length = css.length * sz
  | [], _ => by simp
  | c :: r, h => by
    rw [List.flatten_cons, List.length_append, flat_len r (fun x hx => h x (List.mem_cons_of_mem _ hx)), h c (List.mem_cons_self ..), List.length_cons, Nat.succ_mul]
    omega
theorem flat_get {α : Type} {sz : Nat} : ∀ (css : List (List α)), (∀ c ∈ css, c.length = sz) → ∀ j (h : j < css.length) i, i < sz → css.flatten[j * sz + i]? = css[j][i]?
  | [], _, j, h, _, _ => absurd h (by simp)
  | c :: r, hc, 0, h, i, hi => by
    rw [List.flatten_cons, Nat.zero_mul, Nat.zero_add, List.getElem?_append_left (by rw [hc c (List.mem_cons_self ..)]; exact hi)]
    rfl
  | c :: r, hc, j + 1, h, i, hi => by
    have hcl := hc c (List.mem_cons_self ..)
    rw [List.flatten_cons, List.getElem?_append_right (by rw [hcl, Nat.succ_mul]; omega), hcl, show (j + 1) * sz + i - sz = j * sz + i by rw [Nat.succ_mul]; omega]
    exact flat_get r (fun x hx => hc x (List.mem_cons_of_mem _ hx)) j (by simpa using h) i hi
def GrowL {α : Type} (E : World → List Value → α → Prop) (base : Nat) (T : TypeId) (sz : Nat) (w : World) (v : Value) (l : List α) : Prop :=
  ∃ css : List (List Value), css.length = l.length ∧ (∀ c ∈ css, c.length = sz) ∧ w.ownsRow base T sz v l.length css.flatten ∧
    ∀ j (h : j < l.length) (h2 : j < css.length), ∃ lo hi, base ≤ lo ∧ (∀ g, v.ownBlock = some g → ¬(lo ≤ g ∧ g < hi)) ∧ Win lo hi (fun w => E w css[j] l[j]) w
theorem GrowL.nil {α : Type} (E : World → List Value → α → Prop) (T : TypeId) (sz : Nat) (base : Nat) (w : World) : GrowL E base T sz w (.slice none 0 0) [] :=
  ⟨[], rfl, fun c h => absurd h (by simp), ⟨by simp, Or.inl ⟨rfl, rfl⟩⟩, fun j h => absurd h (by simp)⟩
theorem GrowL.below {α : Type} {E : World → List Value → α → Prop} {base : Nat} {T : TypeId} {sz : Nat} {w w' : World} {v : Value} {l : List α} (h : GrowL E base T sz w v l) (hb : Below w.heap.size w w') : GrowL E base T sz w' v l := by
  obtain ⟨css, h1, h2, h3, h4⟩ := h
  refine ⟨css, h1, h2, ?_, fun j hj hj2 => ?_⟩
  · refine ⟨h3.1, ?_⟩
    rcases h3.2 with h | ⟨g, cap, cur, k1, k2, k3, k4⟩
    · exact Or.inl h
    · exact Or.inr ⟨g, cap, cur, k1, k2, heap_below k3 hb, k4⟩
  · obtain ⟨lo, hi, p0, p1, p2⟩ := h4 j hj hj2
    exact ⟨lo, hi, p0, p1, p2.to (Nat.le_trans p2.1 hb.size) (fun g _ g2 => hb.block g (Nat.lt_of_lt_of_le g2 p2.1))⟩
theorem GrowL.frame {α : Type} {E : World → List Value → α → Prop} {base : Nat} {T : TypeId} {sz : Nat} {w w' : World} {v : Value} {l : List α} (h : GrowL E base T sz w v l) (hs : w.heap.size ≤ w'.heap.size) (hb : ∀ g, base ≤ g → g < w.heap.size → w'.heap[g]? = w.heap[g]?) : GrowL E base T sz w' v l := by
  obtain ⟨css, h1, h2, h3, h4⟩ := h
  refine ⟨css, h1, h2, ?_, fun j hj hj2 => ?_⟩
  · refine ⟨h3.1, ?_⟩
    rcases h3.2 with h | ⟨g, cap, cur, k1, k2, k3, k4⟩
    · exact Or.inl h
    · exact Or.inr ⟨g, cap, cur, k1, k2, (hb g k2 (lt_of_heap k3)).trans k3, k4⟩
  · obtain ⟨lo, hi, p0, p1, p2⟩ := h4 j hj hj2
    exact ⟨lo, hi, p0, p1, p2.to (Nat.le_trans p2.1 hs) (fun g g1 g2 => hb g (Nat.le_trans p0 g1) (Nat.lt_of_lt_of_le g2 p2.1))⟩
theorem GrowL.push {α : Type} {E : World → List Value → α → Prop} {base : Nat} {T : TypeId} {sz : Nat} {w w2 w3 : World} {v v' : Value} {l : List α} (h : GrowL E base T sz w v l) (hbase : base ≤ w.heap.size) (hb : Below w.heap.size w w2)
    (cs : List Value) (y : α) (hcs : cs.length = sz) (hy : Win w.heap.size w2.heap.size (fun w => E w cs y) w2)
    {css : List (List Value)} (hcss : css.length = l.length ∧ (∀ c ∈ css, c.length = sz) ∧ w.ownsRow base T sz v l.length css.flatten ∧ ∀ j (h : j < l.length) (h2 : j < css.length), ∃ lo hi, base ≤ lo ∧ (∀ g, v.ownBlock = some g → ¬(lo ≤ g ∧ g < hi)) ∧ Win lo hi (fun w => E w css[j] l[j]) w)
    (hown : w3.ownsRow base T sz v' (l.length + 1) (css.flatten ++ cs)) (hg : w2.grownBy w3 v.ownBlock) (g' : Nat) (hv' : v'.ownBlock = some g') (hlie : v.ownBlock = some g' ∨ g' = w2.heap.size) : GrowL E base T sz w3 v' (l ++ [y]) := by
  obtain ⟨h1, h2, h3, h4⟩ := hcss
  refine ⟨css ++ [cs], by simp [h1], ?_, ?_, fun j hj hj2 => ?_⟩
  · intro c hc
    rcases List.mem_append.1 hc with hc | hc
    · exact h2 c hc
    · rw [List.mem_singleton.1 hc]; exact hcs
  · rw [List.flatten_append, List.length_append]
    simpa using hown
  · by_cases hjl : j < l.length
    · obtain ⟨lo, hi, p0, p1, p2⟩ := h4 j hjl (by omega)
      have e1 : (css ++ [cs])[j]'hj2 = css[j]'(by omega) := List.getElem_append_left (by omega)
      have e2 : (l ++ [y])[j]'hj = l[j]'hjl := List.getElem_append_left hjl
      rw [e1, e2]
      refine ⟨lo, hi, p0, fun g hgg => ?_, p2.to (Nat.le_trans p2.1 (Nat.le_trans hb.size hg.size)) (fun g g1 g2 => ?_)⟩
      · rw [hv'] at hgg
        injection hgg with hgg
        subst hgg
        rcases hlie with hl | hl
        · exact p1 _ hl
        · have := hb.size
          have := p2.1
          omega
      · have hgw : g < w.heap.size := Nat.lt_of_lt_of_le g2 p2.1
        rw [hg.block g (Nat.lt_of_lt_of_le hgw hb.size) (fun e => p1 g e.symm ⟨g1, g2⟩)]
        exact hb.block g hgw
    · have hje : j = l.length := by simp at hj; omega
      subst hje
      have e1 : (css ++ [cs])[l.length]'hj2 = cs := by
        rw [List.getElem_append_right (by omega)]; simp [h1]
      have e2 : (l ++ [y])[l.length]'hj = y := by
        rw [List.getElem_append_right (by omega)]; simp
      rw [e1, e2]
      refine ⟨w.heap.size, w2.heap.size, hbase, fun g hgg => ?_, hy.to hg.size (fun g g1 g2 => ?_)⟩
      · rw [hv'] at hgg
        injection hgg with hgg
        subst hgg
        rcases hlie with hl | hl
        · have := (own_lt h3 _ hl).2
          omega
        · omega
      · exact hg.block g g2 (fun e => by have := (own_lt h3 _ e.symm).2; omega)
theorem GrowL.push2 {α : Type} {E : World → List Value → α → Prop} {base : Nat} {T : TypeId} {sz : Nat} {w w2 w3 : World} {v v' : Value} {l : List α} (h : GrowL E base T sz w v l) (hbase : base ≤ w.heap.size) (hb : Below w.heap.size w w2)
    (cs : List Value) (y : α) (hcs : cs.length = sz) (hy : Win w.heap.size w2.heap.size (fun w => E w cs y) w2)
    {css : List (List Value)} (hcss : css.length = l.length ∧ (∀ c ∈ css, c.length = sz) ∧ w.ownsRow base T sz v l.length css.flatten ∧ ∀ j (h : j < l.length) (h2 : j < css.length), ∃ lo hi, base ≤ lo ∧ (∀ g, v.ownBlock = some g → ¬(lo ≤ g ∧ g < hi)) ∧ Win lo hi (fun w => E w css[j] l[j]) w)
    (hown : w3.ownsRow base T sz v' (l.length + 1) (css.flatten ++ cs)) (hg : w2.grownBy w3 v.ownBlock) (hlie : v'.ownBlock = v.ownBlock ∨ v'.ownBlock = some w2.heap.size) : GrowL E base T sz w3 v' (l ++ [y]) := by
  obtain ⟨g', cap, hv', _, _⟩ := hown.form (by omega)
  have hv2 : v'.ownBlock = some g' := by rw [hv']; rfl
  refine h.push hbase hb cs y hcs hy hcss hown hg g' hv2 ?_
  rcases hlie with hl | hl
  · exact Or.inl (by rw [← hl]; exact hv2)
  · exact Or.inr (by rw [hv2] at hl; injection hl)
theorem GrowL.slice {α : Type} {E : World → List Value → α → Prop} {base : Nat} {T : TypeId} {sz : Nat} {w : World} {v : Value} {l : List α} (h : GrowL E base T sz w v l) : ∃ a c, v = .slice a l.length c ∧ l.length ≤ c ∧ c ≤ 9223372036854775807 := by
  obtain ⟨css, h1, h2, h3, h4⟩ := h
  rcases h3.2 with ⟨h, h0⟩ | ⟨g, cap, cur, k1, k2, k3, k4, k5, _⟩
  · exact ⟨none, 0, by rw [h, h0], by omega, by omega⟩
  · exact ⟨_, cap, k1, k4, k5⟩
theorem GrowL.up {α : Type} {E : World → List Value → α → Prop} {At : World → Addr → α → Prop} (hEA : ∀ w g q cs y, E w cs y → (∀ i u, cs[i]? = some u → w.cell? ⟨g, q + i, none⟩ = some u) → At w ⟨g, q, none⟩ y)
    {base : Nat} {T : TypeId} {sz : Nat} {w : World} {v : Value} {l : List α} (h : GrowL E base T sz w v l) (a : Option Addr) (c : Nat) (hv : v = .slice a l.length c) : Up base (fun w => SlAt sz At w a l) w := by
  obtain ⟨css, h1, h2, h3, h4⟩ := h
  intro w2 hs h0
  rcases h3.2 with ⟨h, h9⟩ | ⟨g, cap, cur, k1, k2, k3, k4, k5, k6, k7⟩
  · omega
  · rw [k1] at hv
    injection hv with e1 e2 e3
    subst e1
    have hlt : g < w.heap.size := lt_of_heap k3
    have h3' : w2.ownsRow base T sz (.slice (some ⟨g, 0, none⟩) l.length cap) l.length css.flatten := ⟨h3.1, Or.inr ⟨g, cap, cur, rfl, k2, (hs.2 g k2 hlt).trans k3, k4, k5, k6, k7⟩⟩
    refine ⟨_, rfl, Nat.lt_of_lt_of_le hlt hs.1, fun j hj => ?_⟩
    obtain ⟨lo, hi, p0, p1, p2⟩ := h4 j hj (by omega)
    have hE := p2.2 w2 (Nat.le_trans p2.1 hs.1) (fun g2 q1 q2 => hs.2 g2 (Nat.le_trans p0 q1) (Nat.lt_of_lt_of_le q2 p2.1))
    rw [add_zero_block]
    refine hEA w2 g (j * sz) _ _ hE (fun i u hu => ?_)
    have hc2 := h2 _ (List.getElem_mem (show j < css.length by omega))
    have hil : i < sz := by
      rcases Nat.lt_or_ge i sz with hlt2 | hge
      · exact hlt2
      · rw [List.getElem?_eq_none (by omega)] at hu; cases hu
    rw [h3'.cellAt (j * sz + i) (by
      have : (j + 1) * sz ≤ l.length * sz := Nat.mul_le_mul_right _ hj
      rw [Nat.succ_mul] at this
      omega), flat_get css h2 j (by omega) i hil]
    exact hu
end Go.Proofs.Ytfckbkhnelgjbaa
end
/- The reference's Listed. -/
section
namespace Go.Proofs.Ytfckbkhnelgjbaa
open Go.ChangeShapes Go.WideShapes Go.ChangeAt Go.RowKit Go.Nm Go.Mem Go.Maps
set_option linter.unusedVariables false
def EComp (w : World) (cs : List Value) (c : CompV) : Prop := ∃ a cap, cs = [.int .i64 c.kind, .slice a c.vals.length cap] ∧ IntsAt .i64 w a c.vals
theorem EComp.at (w : World) (g q : Nat) (cs : List Value) (y : CompV) (h : EComp w cs y) (hc : ∀ i u, cs[i]? = some u → w.cell? ⟨g, q + i, none⟩ = some u) : CompAt w ⟨g, q, none⟩ y := by
  obtain ⟨a, cap, rfl, hi⟩ := h
  exact ⟨hc 0 _ rfl, a, cap, hc 1 _ rfl, hi⟩
theorem own_bel {w w' : World} {base e size n : Nat} {v : Value} {xs : List Value} (h : w.ownsRow base e size v n xs) (hb : Below w.heap.size w w') : w'.ownsRow base e size v n xs := by
  refine ⟨h.1, ?_⟩
  rcases h.2 with h | ⟨g, cap, cur, k1, k2, k3, k4⟩
  · exact Or.inl h
  · exact Or.inr ⟨g, cap, cur, k1, k2, heap_below k3 hb, k4⟩
def listedTo (F : Part) (k : Nat) : List CompV := (List.range k).filterMap (fun (i : Nat) => (F i).map (fun L => (⟨(i : Int), L⟩ : CompV)))
def listed (F : Part) : List CompV := listedTo F 16
theorem listedTo_succ (F : Part) (k : Nat) : listedTo F (k + 1) = listedTo F k ++ (match F k with | none => [] | some L => [⟨(k : Int), L⟩]) := by
  unfold listedTo
  rw [List.range_succ, List.filterMap_append]
  cases h : F k <;> simp [h]
theorem listedTo_len (F : Part) (k : Nat) : (listedTo F k).length ≤ k := by
  unfold listedTo
  exact Nat.le_trans (List.length_filterMap_le ..) (by simp)
end Go.Proofs.Ytfckbkhnelgjbaa
end
/- What Fit and Fitted give back, as tuples. -/
section
namespace Go.Proofs.Ytfckbkhnelgjbaa
open Go.ChangeShapes Go.WideShapes Go.ChangeAt Go.RowKit Go.Nm Go.Mem
set_option linter.unusedVariables false
def FitS (k : KindV) (vals : List Int) (v : Value) (w : World) : Prop := (fitE k vals ≠ 0 → v = .slice none 0 0) ∧ (fitE k vals = 0 → ∃ a c, v = .slice a vals.length c ∧ IntsAt .i64 w a (fitL k.fields vals))
def FitT (k : KindV) (vals : List Int) (v : Value) (w : World) : Prop := ∃ u, v = .tuple #[u, .int .i64 (fitE k vals)] ∧ FitS k vals u w
theorem FitS.below {k : KindV} {vals : List Int} {v : Value} {w w' : World} (h : FitS k vals v w) (hb : Below w.heap.size w w') : FitS k vals v w' :=
  ⟨h.1, fun h0 => by obtain ⟨a, c, e, hi⟩ := h.2 h0; exact ⟨a, c, e, hi.below hb⟩⟩
theorem FitT.below {k : KindV} {vals : List Int} {v : Value} {w w' : World} (h : FitT k vals v w) (hb : Below w.heap.size w w') : FitT k vals v w' := by
  obtain ⟨u, e, hs⟩ := h; exact ⟨u, e, hs.below hb⟩
theorem FitPost.tuple {k : KindV} {vals : List Int} {W w' : World} {e : Ending} (h : FitPost k vals W e w') : ∃ v, e = .returned v ∧ FitT k vals v w' := by
  obtain ⟨h1, h2, _⟩ := h
  by_cases h0 : fitE k vals = 0
  · obtain ⟨a, c, rfl, hi⟩ := h2 h0
    exact ⟨_, rfl, _, by rw [h0], fun h => absurd h0 h, fun _ => ⟨a, c, rfl, hi⟩⟩
  · exact ⟨_, h1 h0, _, rfl, fun _ => rfl, fun h => absurd h h0⟩
theorem fitL_len {k : KindV} {vals : List Int} (h : fitE k vals = 0) : (fitL k.fields vals).length = vals.length := by
  unfold fitE at h
  unfold fitL
  rw [List.length_zipWith]
  split at h
  · contradiction
  · split at h
    · cases h
    · omega
end Go.Proofs.Ytfckbkhnelgjbaa
end
/- kind.Fit: the values lie in new memory. -/
section
namespace Go.Proofs.Ytfckbkhnelgjbaa
open Go.ChangeShapes Go.WideShapes Go.ChangeAt Go.RowKit Go.Nm Go.Mem
set_option linter.unusedVariables false
def FitPostU (k : KindV) (vals : List Int) (W : World) (e : Ending) (w' : World) : Prop := (fitE k vals ≠ 0 → e = .returned (.tuple #[.slice none 0 0, .int .i64 (fitE k vals)])) ∧
  (fitE k vals = 0 → ∃ a c, e = .returned (.tuple #[.slice a vals.length c, .int .i64 0]) ∧ IntsAt .i64 w' a (fitL k.fields vals) ∧ ∀ x, a = some x → W.heap.size ≤ x.block) ∧ Below W.heap.size W w'
set_option maxHeartbeats 8000000 in
theorem kind_FitU (k : KindV) (a : Option Addr) (n cap : Nat) (vals : List Int) (av : Option Addr) (m cv : Nat) (hn : k.fields.length = n) (hm : vals.length = m) (hm9 : m ≤ 9223372036854775807) (hnm : k.name.size ≤ 9223372036854775807) (hnc : n ≤ cap) (hcm : cap ≤ 9223372036854775807) (W : World) (hz : SlAt 3 FieldAt W a k.fields) (hv : IntsAt .i64 W av vals) :
    Calls Try.prog 111 #[.agg #[.string k.name, .slice a n cap], .slice av m cv] W (FitPostU k vals W) := by
  have hb0 := (Below.refl W.heap.size W).alloc (Nat.le_refl _) (.cells #[.string k.name, .slice a n cap] 102)
  have hc := kind_One k a n cap hn hnm hnc hcm (W.alloc (.cells #[.string k.name, .slice a n cap] 102)) (hz.below FieldAt.abides hb0)
  have x0 := heap_alloc_new W (.cells #[.string k.name, .slice a n cap] 102)
  have HB0 := Lib.hid hb0
  have HX0 := Lib.hid x0
  have HN := Lib.hid hn
  have HM := Lib.hid hm
  have HZ := Lib.hid hz
  have HV := Lib.hid hv
  obtain ⟨nm, l⟩ := k
  simp only at hc HX0 HB0 hnm HN HZ ⊢
  obtain ⟨e1, he1⟩ : ∃ e1, e1 = kindE ⟨nm, l⟩ := ⟨_, rfl⟩
  rw [← he1] at hc
  have HE := Lib.hid he1
  have HC := Lib.hid hc
  clear hb0 hc x0 hn hm hz hv he1
  by_cases he : e1 = 0
  · subst he
    obtain ⟨hn8, hok⟩ := kind_ok HE.out.symm
    simp only at hn8 hok
    rw [HN.out] at hn8
    have HOK := Lib.hid hok
    clear hok
    go_enter Try.func111, Try.ntmps111
    go_wp2_with fail
    refine HC.out.mono ?_
    rintro e w1 ⟨rfl, hb1⟩
    have hx1 := heap_below HX0.out hb1
    have c1 : w1.cell? ⟨W.heap.size, 1, none⟩ = some (.slice a n cap) := by rw [cell_of_row _ _ 1 _ _ _ hx1]; rfl
    have hbw := HB0.out.trans (hb1.mono (by simp))
    have HB1 := Lib.hid hbw
    have HX1 := Lib.hid hx1
    have hs1 := hbw.size
    clear hb1 hx1 hbw HC HX0 HB0
    by_cases hmn : m = n
    · subst hmn
      have HFE := Lib.hid (show fitE ⟨nm, l⟩ vals = 0 by unfold fitE; rw [if_neg (by rw [← HE.out]; simp), if_neg (by simp only; rw [HM.out, HN.out]; simp)])
      have t0 : ((m : Int) != (m : Int)) = false := by simp
      go_wp2_with (at_make; go_must (refine wpList_make_rowB rfl _ _ 34 rfl 3 .i64 8 Try.underlying34 (by kernel_rfl) _ _ _ _ m rfl rfl rfl rfl ?b1 ?b2 ?_))
      case b1 => omega
      case b2 => unfold maxLen; omega
      intro w2 hrow hb2 hs2
      have c2 : w2.cell? ⟨W.heap.size, 1, none⟩ = some (.slice a m cap) := by rw [cell_of_row _ _ 1 _ _ _ (heap_below HX1.out hb2)]; rfl
      obtain ⟨G, hG⟩ : ∃ G, G = w1.heap.size := ⟨_, rfl⟩
      rw [← hG] at hrow hs2 ⊢
      have hWG : W.heap.size ≤ G := by rw [hG]; exact HB1.out.size
      have HROW := Lib.hid hrow
      have HB2 := Lib.hid (HB1.out.trans (hb2.mono HB1.out.size))
      clear hrow hb2 hG c1 hs2
      go_wp2_with fail
      clear c2
      go_loopg [8, 9, 27] m (fun gk v8 v9 vi wx => ∃ (i : Nat) (out : List Int), i ≤ m ∧ gk = m - i ∧ vi = .int .i64 i ∧ out.length = m ∧ (∀ j (h1 : j < l.length) (h2 : j < vals.length), j < i → out.getD j 0 = nearV l[j] vals[j]) ∧ RowB wx G 3 .i64 out ∧ Below W.heap.size W wx)
      case atStart => exact ⟨0, List.replicate m 0, Nat.zero_le _, rfl, rfl, by simp, fun j _ _ h => absurd h (by omega), HROW.out, HB2.out⟩
      case round =>
        obtain ⟨i, out, hi, g2, rfl, hol, hat, hrow, hb⟩ := hrel
        have G2 := Lib.hid g2
        have HOL := Lib.hid hol
        have HAT := Lib.hid hat
        have HROW2 := Lib.hid hrow
        have HB := Lib.hid hb
        have hbs := hb.size
        have hgl := hrow.lt
        clear g2 hol hat hrow hb HROW HB2
        by_cases hlt : i < m
        · obtain ⟨x, rfl, hx, hix⟩ := (HZ.out.below FieldAt.abides HB.out) (by rw [HN.out]; omega)
          obtain ⟨z, rfl, hzl, hiz⟩ := (HV.out.below HB.out) (by rw [HM.out]; omega)
          obtain ⟨k0, k1, k2, k3⟩ := hix i (by rw [HN.out]; exact hlt)
          have kv := hiz i (by rw [HM.out]; exact hlt)
          obtain ⟨y, hy⟩ : ∃ y, y = l[i]'(by rw [HN.out]; exact hlt) := ⟨_, rfl⟩
          rw [← hy] at k0 k1 k2 k3
          obtain ⟨u, hu⟩ : ∃ u, u = vals.getD i 0 := ⟨_, rfl⟩
          rw [← hu] at kv
          have hoky : okF y = true := by rw [hy]; exact HOK.out i (by rw [HN.out]; exact hlt)
          have HNR := Lib.hid (near_at y u hoky k3)
          have HY := Lib.hid hy
          have HU := Lib.hid hu
          clear hix hiz hy hu hoky k3
          go_wp2_with fail
          have hb0 := (Below.refl wr.heap.size wr).alloc (Nat.le_refl _) (.cells #[.string y.name, .int .i64 y.bits, .int .i64 y.low] 99)
          have B0 := heap_alloc_new wr (.cells #[.string y.name, .int .i64 y.bits, .int .i64 y.low] 99)
          have B1 := cell_abides kv hb0
          refine wp_region_facts rfl 9 (by kernel_rfl) (F_fit wr.heap.size G i m cv u z y) (F_fit_mono wr.heap.size G i m cv u z y) ?_ ?_
          · refine ⟨?_, ?_, ?_, ?_, ?_, ?_, ?_, ?_, ?_, trivial⟩
            · intro vs w' F hb hd hF hl
              have e := (hF 7).trans (look_out _ 7 _ _ (by kernel_rfl))
              exact one_move _ rfl (by first | exact Or.inl rfl | exact Or.inr rfl) ⟨_, rfl, Below.refl _ _, e⟩
            · intro vs w' F hb hd hF hl
              have e := (hF 8).trans (look_out _ 8 _ _ (by kernel_rfl))
              exact one_move _ rfl (by first | exact Or.inl rfl | exact Or.inr rfl) ⟨_, rfl, Below.refl _ _, e⟩
            · intro vs w' F hb hd hF hl
              have e := ((hF 9).trans (look_out _ 9 _ _ (by kernel_rfl)))
              exact one_load_row 99 _ rfl rfl wr.heap.size #[.string y.name, .int .i64 y.bits, .int .i64 y.low] 99 (0, 0) e (heap_below B0 hb) _ Try.underlying99 rfl (by kernel_rfl) ⟨_, rfl, Below.refl _ _, rfl⟩
            · intro vs w' F hb hd hF hl
              have e := (hF 1).trans (look_out _ 1 _ _ (by kernel_rfl))
              exact one_move _ rfl (by first | exact Or.inl rfl | exact Or.inr rfl) ⟨_, rfl, Below.refl _ _, e⟩
            · intro vs w' F hb hd hF hl
              have e := (hF 8).trans (look_out _ 8 _ _ (by kernel_rfl))
              exact one_move _ rfl (by first | exact Or.inl rfl | exact Or.inr rfl) ⟨_, rfl, Below.refl _ _, e⟩
            · intro vs w' F hb hd hF hl
              have ex := (((hF 35).trans (look_at _ 35 3 _ _ (by kernel_rfl) (by kernel_rfl) hl)).trans (dep_of (Fact := F_fit wr.heap.size G i m cv u z y) hd 3 (by kernel_rfl)))
              have ey := (((hF 36).trans (look_at _ 36 4 _ _ (by kernel_rfl) (by kernel_rfl) hl)).trans (dep_of (Fact := F_fit wr.heap.size G i m cv u z y) hd 4 (by kernel_rfl)))
              exact one_index 34 _ _ rfl rfl (.slice (some z) m cv) (.int .i64 i) (.pointer (some (z.add i))) ex ey (fun w => by clear hb hd hF hl ex ey; go_simp) ⟨_, rfl, Below.refl _ _, rfl⟩
            · intro vs w' F hb hd hF hl
              have e := (((hF 37).trans (look_at _ 37 5 _ _ (by kernel_rfl) (by kernel_rfl) hl)).trans (dep_of (Fact := F_fit wr.heap.size G i m cv u z y) hd 5 (by kernel_rfl)))
              exact one_load _ _ rfl rfl _ _ e (cell_abides B1 hb) (by kernel_rfl) ⟨_, rfl, Below.refl _ _, rfl⟩
            · intro vs w' F hb hd hF hl
              have e1 := (((hF 34).trans (look_at _ 34 2 _ _ (by kernel_rfl) (by kernel_rfl) hl)).trans (dep_of (Fact := F_fit wr.heap.size G i m cv u z y) hd 2 (by kernel_rfl)))
              have e2 := (((hF 38).trans (look_at _ 38 6 _ _ (by kernel_rfl) (by kernel_rfl) hl)).trans (dep_of (Fact := F_fit wr.heap.size G i m cv u z y) hd 6 (by kernel_rfl)))
              refine one_call _ _ rfl rfl (enters_of Try.func124 (by kernel_rfl) rfl) #[.agg #[.string y.name, .int .i64 y.bits, .int .i64 y.low], .int .i64 u] (eval2 e1 e2) ?_
              refine (HNR.out w').mono ?_
              rintro e3 w2 ⟨rfl, hb2⟩
              exact ⟨_, rfl, _, rfl, hb2, rfl⟩
            · intro vs w' F hb hd hF hl
              have ex := (((hF 32).trans (look_at _ 32 0 _ _ (by kernel_rfl) (by kernel_rfl) hl)).trans (dep_of (Fact := F_fit wr.heap.size G i m cv u z y) hd 0 (by kernel_rfl)))
              have ey := (((hF 33).trans (look_at _ 33 1 _ _ (by kernel_rfl) (by kernel_rfl) hl)).trans (dep_of (Fact := F_fit wr.heap.size G i m cv u z y) hd 1 (by kernel_rfl)))
              exact one_index 34 _ _ rfl rfl (.slice (some ⟨G, 0, none⟩) m m) (.int .i64 i) (.pointer (some ⟨G, i, none⟩)) ex ey (fun w => by clear hb hd hF hl ex ey; go_simp) ⟨_, rfl, Below.refl _ _, rfl⟩
          · intro vs W1 hl hb hI
            have i7 : vs.getD 7 undef = .int .i64 (nearV y u) := hI 7 (by omega)
            have i8 : vs.getD 8 undef = .pointer (some ⟨G, i, none⟩) := hI 8 (by omega)
            obtain ⟨v0, v1, v2, v3, v4, v5, v6, v7, v8, v9, rfl⟩ := list10 hl
            replace i7 : v7 = .int .i64 (nearV y u) := i7
            replace i8 : v8 = .pointer (some ⟨G, i, none⟩) := i8
            subst i7 i8
            have hrow1 := (HROW2.out.alloc (.cells #[.string y.name, .int .i64 y.bits, .int .i64 y.low] 99)).below hb
            have f0 := hrow1.cell i (by rw [HOL.out]; exact hlt)
            have f1 := hrow1.frozen i
            have hbw : Below wr.heap.size wr W1 := hb0.trans (hb.mono (by simp))
            have HBN := Lib.hid ((HB.out.trans (hbw.mono HB.out.size)).setCell (p := ⟨G, i, none⟩) hWG (.int .i64 (nearV y u)))
            have HRN := Lib.hid (hrow1.set i (nearV y u))
            have HATN : Hid (∀ j (h1 : j < l.length) (h2 : j < vals.length), j < i + 1 → (out.set i (nearV y u)).getD j 0 = nearV l[j] vals[j]) := Lib.hid (fun j h1 h2 hj => by
              by_cases hji : j < i
              · rw [List.getD_eq_getElem?_getD, List.getElem?_set_ne (by omega), ← List.getD_eq_getElem?_getD]
                exact HAT.out j h1 h2 hji
              · obtain rfl : j = i := by omega
                rw [List.getD_eq_getElem?_getD, List.getElem?_set_self (by rw [HOL.out]; exact hlt)]
                have e2 : vals[j] = u := by rw [HU.out, List.getD_eq_getElem?_getD, List.getElem?_eq_getElem h2]; rfl
                rw [e2, ← HY.out]; rfl)
            clear hI hl hb hbw hrow1 hb0 B0 B1
            simp only [fillAll, Act.put, List.setIfInBounds_toArray, List.set_cons_succ, List.set_cons_zero]
            go_wp2
            go_roundg (m - (i + 1))
            case measure => rw [G2.out]; omega
            case rel => exact ⟨i + 1, out.set i (nearV y u), hlt, rfl, by go_num, by rw [List.length_set]; exact HOL.out, HATN.out, HRN.out, HBN.out⟩
        · have hie : i = m := by omega
          have hfl : fitL l vals = out := by
            unfold fitL
            refine List.ext_getElem (by rw [List.length_zipWith, HN.out, HM.out, HOL.out]; omega) (fun j h1 h2 => ?_)
            rw [List.length_zipWith] at h1
            rw [List.getElem_zipWith]
            have := HAT.out j (by omega) (by omega) (by rw [HOL.out] at h2; omega)
            rw [List.getD_eq_getElem?_getD, List.getElem?_eq_getElem h2] at this
            exact this.symm
          have HFL := Lib.hid hfl
          clear hie hfl
          go_wp2_with fail
          go_ret2
          exact ⟨fun h => absurd HFE.out h, fun _ => ⟨_, m, by rw [HM.out]; rfl, by simp only; rw [HFL.out]; exact HROW2.out.ints, fun x e => by injection e with e; subst e; exact hWG⟩, HB.out⟩
    · have HFE := Lib.hid (show fitE ⟨nm, l⟩ vals = 1 by unfold fitE; rw [if_neg (by rw [← HE.out]; simp), if_pos (by simp only; rw [HM.out, HN.out]; exact hmn)])
      have t0 : ((m : Int) != (n : Int)) = true := by rw [bne_iff_ne]; omega
      clear hmn
      go_wp2_with fail
      go_ret2
      exact ⟨fun _ => by rw [HFE.out]; rfl, fun h => absurd (HFE.out.symm.trans h) (by decide), HB1.out⟩
  · have t1 : (e1 != 0) = true := by rw [bne_iff_ne]; exact he
    have HFE := Lib.hid (show fitE ⟨nm, l⟩ vals = e1 by unfold fitE; rw [if_pos (by rw [← HE.out]; exact he), ← HE.out])
    have HNE := Lib.hid he
    clear he
    go_enter Try.func111, Try.ntmps111
    go_wp2_with fail
    refine HC.out.mono ?_
    rintro e w1 ⟨rfl, hb1⟩
    have HB1 := Lib.hid (HB0.out.trans (hb1.mono (by simp)))
    clear hb1
    go_wp2_with fail
    go_ret2
    exact ⟨fun _ => by rw [HFE.out]; rfl, fun h => absurd (HFE.out.symm.trans h) HNE.out, HB1.out⟩
/-- as FitS: the values lean on the blocks from B on alone -/
def FitSU (B : Nat) (k : KindV) (vals : List Int) (v : Value) (w : World) : Prop := (fitE k vals ≠ 0 → v = .slice none 0 0) ∧ (fitE k vals = 0 → ∃ a c, v = .slice a vals.length c ∧ IntsAt .i64 w a (fitL k.fields vals) ∧ ∀ x, a = some x → B ≤ x.block)
def FitTU (B : Nat) (k : KindV) (vals : List Int) (v : Value) (w : World) : Prop := ∃ u, v = .tuple #[u, .int .i64 (fitE k vals)] ∧ FitSU B k vals u w
theorem FitSU.below {B : Nat} {k : KindV} {vals : List Int} {v : Value} {w w' : World} (h : FitSU B k vals v w) (hb : Below w.heap.size w w') : FitSU B k vals v w' :=
  ⟨h.1, fun h0 => by obtain ⟨a, c, e, hi, hx⟩ := h.2 h0; exact ⟨a, c, e, hi.below hb, hx⟩⟩
theorem FitTU.below {B : Nat} {k : KindV} {vals : List Int} {v : Value} {w w' : World} (h : FitTU B k vals v w) (hb : Below w.heap.size w w') : FitTU B k vals v w' := by
  obtain ⟨u, e, hs⟩ := h; exact ⟨u, e, hs.below hb⟩
theorem FitPostU.tuple {B : Nat} {k : KindV} {vals : List Int} {W w' : World} {e : Ending} (h : FitPostU k vals W e w') (hB : B ≤ W.heap.size) : ∃ v, e = .returned v ∧ FitTU B k vals v w' := by
  obtain ⟨h1, h2, _⟩ := h
  by_cases h0 : fitE k vals = 0
  · obtain ⟨a, c, rfl, hi, hx⟩ := h2 h0
    exact ⟨_, rfl, _, by rw [h0], fun h => absurd h0 h, fun _ => ⟨a, c, rfl, hi, fun x e => Nat.le_trans hB (hx x e)⟩⟩
  · exact ⟨_, h1 h0, _, rfl, fun _ => rfl, fun h => absurd h h0⟩
end Go.Proofs.Ytfckbkhnelgjbaa
end
/- ref Fitted. -/
section
namespace Go.Proofs.Ytfckbkhnelgjbaa
open Go.ChangeShapes Go.WideShapes Go.ChangeAt Go.RowKit Go.Nm Go.Mem
set_option linter.unusedVariables false
section
variable {P : Program} {ops : Array Oper} {o : Oper} {F : Act} {w : World} {Q : Exit → Act → World → Prop}
theorem add_one2 (p : Addr) : p.add 1 = ⟨p.block, p.off + 1, none⟩ := by simp [Addr.add]
theorem add_two2 (p : Addr) : p.add 2 = ⟨p.block, p.off + 2, none⟩ := by simp [Addr.add]
theorem one_load3 (ty : TypeId) (x : Operand) (hgd : o.guard = none) (ho : o.op = .load ty x) (p : Addr) (v0 v1 v2 : Value) (hx : F.eval x = .pointer (some p)) (c0 : w.cell? p = some v0) (c1 : w.cell? ⟨p.block, p.off + 1, none⟩ = some v1) (c2 : w.cell? ⟨p.block, p.off + 2, none⟩ = some v2)
    (d : TypeDesc) (hu : P.underlying ty = some d) (hd : (match d with | .struct _ | .array _ _ => true | _ => false) = true) (hs : (P.info? ty).map (·.size) = some 3) (h : Q .normal (F.put o.dst (.agg #[v0, v1, v2])) w) : wpList P ops Q [o] F w := by
  have hl : (loadCells p 3).run P w = .ok #[v0, v1, v2] w :=
    run_loadCells_list (P := P) w p [v0, v1, v2] (fun j v hv => by
      match j with
      | 0 => rw [show p.add 0 = p by simp [Addr.add]]; simpa using hv ▸ c0
      | 1 => rw [add_one2]; simpa using hv ▸ c1
      | 2 => rw [add_two2]; simpa using hv ▸ c2
      | j + 3 => simp at hv)
  cases hq : P.info? ty with
  | none => simp [hq] at hs
  | some i =>
    have hsz : i.size = 3 := by simpa [hq] using hs
    have hagg : (isAgg ty).run P w = .ok true w := by
      unfold isAgg
      rw [Sem.run_bind, run_underlying hu w]
      cases d <;> simp_all
    refine wpList_plain hgd fun K hK => ?_
    unfold Oper.wp execOp
    simp [ho, hx, Instr.loadAt, Instr.sureAddr, loadVar, Sem.run_bind, hagg, sizeOf, typeInfo, hq, hsz, hl, Oper.upon]
    exact hK _ _ h
theorem one_slice1 (t e : TypeId) (x0 : Operand) (hgd : o.guard = none) (ho : o.op = .buildSlice t 1 #[(0, x0)]) (a : Int) (h0 : F.eval x0 = .int .i64 a)
    (hu : P.underlying t = some (.slice e)) (hie : (P.info? e).map (fun i => (i.zero, i.size)) = some (some (.int .i64 0), 1))
    (h : Q .normal (F.put o.dst (.slice (some ⟨w.heap.size, 0, none⟩) 1 1)) (w.alloc (.cells #[.int .i64 a] e))) : wpList P ops Q [o] F w := by
  obtain ⟨ie, hi, hzz⟩ := Option.map_eq_some_iff.1 hie
  simp only [Prod.mk.injEq] at hzz
  refine wpList_plain hgd fun K hK => ?_
  refine wp_buildSlice t e 1 _ ho #[.int .i64 a] ie (.int .i64 0) hu hi hzz.1 (by rw [hzz.2]; decide) (by rw [hzz.2]; decide) ?_ (hK _ _ h)
  rw [hzz.2]
  simp only [List.map_toArray, List.map_cons, List.map_nil, h0]
  have hr : Array.range 1 = #[0] := by decide
  simp [Instr.fill, Value.cells, hr]
end
theorem ints_one (w : World) (a : Int) (e : TypeId) : IntsAt .i64 (w.alloc (.cells #[.int .i64 a] e)) (some ⟨w.heap.size, 0, none⟩) [a] := fun _ =>
  ⟨_, rfl, by simp, fun i hi => by
    have : i = 0 := by simpa using hi
    subst this
    simp [Addr.add]⟩
theorem list14 {α : Type} {vs : List α} (h : vs.length = 14) : ∃ a b c d e f g i j k l m n o, vs = [a, b, c, d, e, f, g, i, j, k, l, m, n, o] := by
  match vs, h with
  | [a, b, c, d, e, f, g, i, j, k, l, m, n, o], _ => exact ⟨a, b, c, d, e, f, g, i, j, k, l, m, n, o, rfl⟩
def F_fitd (V7 : Value) (B0 i n m cap cv : Nat) (u : Int) (x z : Addr) (y : FieldV) (j : Nat) (v : Value) (w : World) : Prop :=
  match j with
  | 0 => v = V7
  | 1 => v = .pointer (some ⟨B0, 1, none⟩)
  | 2 => v = .slice (some x) n cap
  | 3 => v = .int .i64 i
  | 4 => v = .pointer (some (x.add (i * 3)))
  | 5 => v = .agg #[.string y.name, .int .i64 y.bits, .int .i64 y.low]
  | 6 => v = .slice (some z) m cv
  | 7 => v = .int .i64 i
  | 8 => v = .pointer (some (z.add i))
  | 9 => v = .int .i64 u
  | 10 => v = .int .i64 (nearV y u)
  | 11 => ∃ X, v = .slice (some ⟨X, 0, none⟩) 1 1 ∧ IntsAt .i64 w (some ⟨X, 0, none⟩) [nearV y u]
  | _ => True
theorem F_fitd_mono (V7 : Value) (B0 i n m cap cv : Nat) (u : Int) (x z : Addr) (y : FieldV) : Facts (F_fitd V7 B0 i n m cap cv u x z y) := ⟨by
  intro j v w w' h hb
  unfold F_fitd at h ⊢
  split at h
  all_goals first
    | exact h
    | (obtain ⟨X, e, hi⟩ := h; exact ⟨X, e, hi.below hb⟩)
    | trivial⟩

end Go.Proofs.Ytfckbkhnelgjbaa
end
