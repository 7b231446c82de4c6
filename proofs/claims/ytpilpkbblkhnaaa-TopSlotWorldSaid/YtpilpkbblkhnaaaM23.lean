/- Lemmas for the law TopSlotWorld: TwoA, KindTwo, WPair, InsL, WSpawn. No conditions. -/
import Derived.Test.YtpilpkbblkhnaaaM15
import Derived.Test.YtpilpkbblkhnaaaM01
import Derived.Lib.SmallJoins
import Derived.ChangeArms
import Derived.Test.YtpilpkbblkhnaaaM17
import Derived.Test.YtpilpkbblkhnaaaM22
import Derived.Test.YtpilpkbblkhnaaaM21
import Derived.Test.YtpilpkbblkhnaaaM11
import Derived.Test.YtpilpkbblkhnaaaM20
import Derived.Test.YtpilpkbblkhnaaaM14
/- tourlaw3.two; a boxed struct of three; a field handed over by value. -/
section
namespace Go.Proofs.Ytpilpkbblkhnaaa
open Go.ChangeShapes Go.WideShapes Go.ChangeAt Go.RowKit Go.Nm Go.Mem
set_option linter.unusedVariables false
/-- what two() lays: two fields, two kinds -/
structure TwoAt (W w : World) : Prop where
  bel : Below W.heap.size W w
  f0 : w.heap[W.heap.size]? = some (.cells #[.string ⟨#[120]⟩, .int .i64 3, .int .i64 (-2)] 55 (0, 0))
  f1 : w.heap[W.heap.size + 1]? = some (.cells #[.string ⟨#[120]⟩, .int .i64 8, .int .i64 0] 55 (0, 0))
  k : w.heap[W.heap.size + 1 + 1]? = some (.cells #[.string ⟨#[112, 108, 97, 99, 101]⟩, .slice (some ⟨W.heap.size, 0, none⟩) 1 1, .string ⟨#[108, 105, 102, 101]⟩, .slice (some ⟨W.heap.size + 1, 0, none⟩) 1 1] 58 (0, 0))
section
open Go.Joins Go.Deep
variable {H : Type} {enc : TypeId × Value → H} {w : World} {base : Nat} {spare : Nat → Bool} {held : Bool}
end
end Go.Proofs.Ytpilpkbblkhnaaa
end
/- The law's own first kind: its facts in plain words. -/
section
namespace Go.Proofs.Ytpilpkbblkhnaaa
open Go.ChangeShapes Go.WideShapes Go.ChangeAt Go.RowKit Go.Nm Go.Mem
set_option linter.unusedVariables false
end Go.Proofs.Ytpilpkbblkhnaaa
end
/- tourlaw3.pair. -/
section
namespace Go.Proofs.Ytpilpkbblkhnaaa
open Go.ChangeShapes Go.WideShapes Go.ChangeAt Go.RowKit Go.Nm Go.Mem
set_option linter.unusedVariables false
def allocs (w : World) : List Obj → World
  | [] => w
  | o :: r => allocs (w.alloc o) r
theorem allocs_below : ∀ (os : List Obj) (w : World), Below w.heap.size w (allocs w os)
  | [], w => Below.refl _ _
  | o :: r, w => ((Below.refl _ _).alloc (Nat.le_refl _) o).trans ((allocs_below r (w.alloc o)).mono (by simp))
theorem allocs_get : ∀ (os : List Obj) (w : World) (i : Nat) (o : Obj), os[i]? = some o → (allocs w os).heap[w.heap.size + i]? = some o
  | [], w, i, o, h => by simp at h
  | x :: r, w, 0, o, h => by
    have h' : x = o := by simpa using h
    subst h'
    exact heap_below (heap_alloc_new w x) (allocs_below r (w.alloc x))
  | x :: r, w, i + 1, o, h => by
    have := allocs_get r (w.alloc x) i o (by simpa using h)
    rw [World.size_alloc] at this
    rw [show w.heap.size + (i + 1) = w.heap.size + 1 + i by omega]
    exact this
end Go.Proofs.Ytpilpkbblkhnaaa
end
/- Items in a row of the call's own: its cells item by item; one more laid in between. -/
section
namespace Go.Proofs.Ytpilpkbblkhnaaa
open Go.ChangeShapes Go.WideShapes Go.ChangeAt Go.RowKit Go.Nm Go.Mem
set_option linter.unusedVariables false
theorem slat_of_own {α : Type} {E : World → List Value → α → Prop} {At : World → Addr → α → Prop} (hEA : ∀ w g q cs y, E w cs y → (∀ i u, cs[i]? = some u → w.cell? ⟨g, q + i, none⟩ = some u) → At w ⟨g, q, none⟩ y)
    {B : Nat} {T : TypeId} {sz : Nat} {w : World} {a : Option Addr} {n c : Nat} {css : List (List Value)} {l : List α} (hown : w.ownsRow B T sz (.slice a n c) n css.flatten) (hn : l.length = n) (hc : css.length = n) (h3 : ∀ c ∈ css, c.length = sz) (hE : ∀ j (h : j < l.length) (h2 : j < css.length), E w css[j] l[j]) : SlAt sz At w a l := fun h0 => by
  rcases hown.2 with ⟨h, hz⟩ | ⟨g, cap, cur, h, hb, hh, _⟩
  · omega
  · injection h with h1 _ _
    subst h1
    refine ⟨_, rfl, lt_of_heap hh, fun j hj => ?_⟩
    rw [add_zero_block]
    refine hEA w g (j * sz) _ _ (hE j hj (by omega)) (fun i u hu => ?_)
    have hc2 := h3 _ (List.getElem_mem (show j < css.length by omega))
    have hil : i < sz := by
      rcases Nat.lt_or_ge i sz with hlt2 | hge
      · exact hlt2
      · rw [List.getElem?_eq_none (by omega)] at hu; cases hu
    rw [hown.cellAt (j * sz + i) (by
      have : (j + 1) * sz ≤ n * sz := Nat.mul_le_mul_right _ (by omega)
      rw [Nat.succ_mul] at this
      omega), flat_get css h3 j (by omega) i hil]
    exact hu
theorem ins_get {α : Type} (a : List α) (x : α) (i j : Nat) (hi : i ≤ a.length) : (a.take i ++ [x] ++ a.drop i)[j]? = if j < i then a[j]? else if j = i then some x else a[j - 1]? := by
  have ht : (a.take i).length = i := by rw [List.length_take]; omega
  have ht2 : (a.take i ++ [x]).length = i + 1 := by rw [List.length_append, ht]; rfl
  by_cases h1 : j < i
  · rw [if_pos h1, List.getElem?_append_left (by omega), List.getElem?_append_left (by omega), List.getElem?_take, if_pos h1]
  · rw [if_neg h1]
    by_cases h2 : j = i
    · rw [if_pos h2, List.getElem?_append_left (by omega), List.getElem?_append_right (by omega), ht, h2]
      simp
    · rw [if_neg h2, List.getElem?_append_right (by omega), ht2, List.getElem?_drop, show i + (j - (i + 1)) = j - 1 by omega]
theorem ins_all {α β : Type} (P : α → β → Prop) (a : List α) (b : List β) (x : α) (z : β) (i : Nat) (hl : a.length = b.length) (hi : i ≤ b.length) (h : ∀ j (h1 : j < b.length) (h2 : j < a.length), P a[j] b[j]) (hx : P x z) : ∀ j (h1 : j < (b.take i ++ [z] ++ b.drop i).length) (h2 : j < (a.take i ++ [x] ++ a.drop i).length), P (a.take i ++ [x] ++ a.drop i)[j] (b.take i ++ [z] ++ b.drop i)[j] := by
  intro j h1 h2
  have ea := ins_get a x i j (by omega)
  have eb := ins_get b z i j hi
  rw [List.getElem?_eq_getElem h2] at ea
  rw [List.getElem?_eq_getElem h1] at eb
  have hlen : (b.take i ++ [z] ++ b.drop i).length = b.length + 1 := by simp only [List.length_append, List.length_take, List.length_drop, List.length_singleton]; omega
  by_cases c1 : j < i
  · rw [if_pos c1, List.getElem?_eq_getElem (by omega)] at ea eb
    injection ea with ea
    injection eb with eb
    rw [ea, eb]
    exact h j _ _
  · rw [if_neg c1] at ea eb
    by_cases c2 : j = i
    · rw [if_pos c2] at ea eb
      injection ea with ea
      injection eb with eb
      rw [ea, eb]
      exact hx
    · rw [if_neg c2, List.getElem?_eq_getElem (by omega)] at ea eb
      injection ea with ea
      injection eb with eb
      rw [ea, eb]
      exact h (j - 1) _ _
theorem nostr_row3 (a b c : Option Addr) (n1 n2 n3 c1 c2 c3 : Nat) (j : Nat) (s : ByteArray) : (#[Value.slice a n1 c1, .slice b n2 c2, .slice c n3 c3] : Array Value)[j]? ≠ some (Value.string s) := by
  match j with
  | 0 => simp
  | 1 => simp
  | 2 => simp
  | j + 3 => simp
end Go.Proofs.Ytpilpkbblkhnaaa
end
/- world.Spawn. -/
section
namespace Go.Proofs.Ytpilpkbblkhnaaa
open Go.ChangeShapes Go.WideShapes Go.ChangeAt Go.RowKit Go.Nm Go.Mem
set_option linter.unusedVariables false
theorem results_cct {P : Program} {fn : Func} {p q a : Tmp} {ty tz : TypeId} (h : fn.results = #[.cell p ty, .cell q tz, .tmp a]) (tmps : Array Value) (w : World) (g g2 : Nat) (t t2 : TypeId) (cs cs2 : Array Value) (fr fr2 : Nat × Nat) (d d2 : TypeDesc)
    (hp : tmps.getD p undef = .pointer (some ⟨g, 0, none⟩)) (hg : w.heap[g]? = some (.cells cs t fr))
    (hu : P.underlying ty = some d) (hd : (match d with | .struct _ | .array _ _ => true | _ => false) = true) (hi : (P.info? ty).map (·.size) = some cs.size)
    (hp2 : tmps.getD q undef = .pointer (some ⟨g2, 0, none⟩)) (hg2 : w.heap[g2]? = some (.cells cs2 t2 fr2))
    (hu2 : P.underlying tz = some d2) (hd2 : (match d2 with | .struct _ | .array _ _ => true | _ => false) = true) (hi2 : (P.info? tz).map (·.size) = some cs2.size) :
    (results fn tmps).run P w = .ok (.tuple #[.agg cs, .agg cs2, tmps.getD a undef]) w := by
  have hp' : tmps[p]?.getD undef = .pointer (some ⟨g, 0, none⟩) := by simpa using hp
  have hp2' : tmps[q]?.getD undef = .pointer (some ⟨g2, 0, none⟩) := by simpa using hp2
  simp [results, h, hp', hp2', asAddr, run_loadVar_row w g t ty cs fr d hg hu hd hi, run_loadVar_row w g2 t2 tz cs2 fr2 d2 hg2 hu2 hd2 hi2]
def spawnE (y : WorldV) (l : List CompV) : Int := if checkE y ≠ 0 then checkE y else if fitAllE y.kinds l ≠ 0 then fitAllE y.kinds l else if freeOk y = false then 6 else 0
def spawnG (y : WorldV) : List Int := if freeN y = y.gens.length then y.gens ++ [0] else y.gens
def spawnI (y : WorldV) (l : List CompV) : ItemV := ⟨(freeN y : Int), (spawnG y).getD (freeN y) 0, listed (fitAllM y.kinds l)⟩
def SpawnZ (y : WorldV) (l : List CompV) (Z : WorldV) : Prop := ∃ i, i ≤ y.items.length ∧ (∀ j (h : j < y.items.length), j < i → y.items[j].n < (freeN y : Int)) ∧ (∀ j (h : j < y.items.length), i ≤ j → (freeN y : Int) ≤ y.items[j].n) ∧ Z = ⟨y.kinds, spawnG y, y.items.take i ++ [spawnI y l] ++ y.items.drop i⟩
def SpawnR (y : WorldV) (l : List CompV) (E : Int) (W : World) (e : Ending) (w' : World) : Prop :=
  (∃ (v : Value) (xn xg : Int) (Z : WorldV), e = .returned (.tuple #[v, .agg #[.int .i64 xn, .int .i64 xg], .int .i64 E]) ∧ WorldIn w' v Z ∧ (E ≠ 0 → xn = 0 ∧ xg = 0 ∧ Z = ⟨[], [], []⟩) ∧ (E = 0 → xn = (spawnI y l).n ∧ xg = (spawnI y l).gen ∧ SpawnZ y l Z)) ∧ Below W.heap.size W w'
theorem SpawnR.bad {y : WorldV} {l : List CompV} {E F : Int} {W w' : World} {e : Ending} (hf : F = E) (h : E ≠ 0) (he : e = .returned (.tuple #[.agg #[.slice none 0 0, .slice none 0 0, .slice none 0 0], .agg #[.int .i64 0, .int .i64 0], .int .i64 E])) (hb : Below W.heap.size W w') : SpawnR y l F W e w' := by
  subst hf
  exact ⟨⟨_, 0, 0, ⟨[], [], []⟩, he, ⟨none, 0, none, 0, none, 0, rfl, fun h => absurd h (by simp), fun h => absurd h (by simp), fun h => absurd h (by simp), by simp, by simp⟩, fun _ => ⟨rfl, rfl, rfl⟩, fun h0 => absurd h0 h⟩, hb⟩
theorem SpawnR.good {y : WorldV} {l : List CompV} {E : Int} {W w' : World} {v : Value} {xn xg : Int} {Z : WorldV} (hE : 0 = E) (h1 : xn = (spawnI y l).n) (h2 : xg = (spawnI y l).gen) (hz : SpawnZ y l Z) (hw : WorldIn w' v Z) (hb : Below W.heap.size W w') : SpawnR y l E W (.returned (.tuple #[v, .agg #[.int .i64 xn, .int .i64 xg], .int .i64 0])) w' := by
  subst hE
  exact ⟨⟨v, xn, xg, Z, rfl, hw, fun h => absurd rfl h, fun _ => ⟨h1, h2, hz⟩⟩, hb⟩
theorem spawn_grow {w w' : World} {o : Obj} {X : Nat} {cs : Array Value} {t : TypeId} {row : Option Nat} (h : w.heap[X]? = some (.cells cs t (0, 0))) (hg : (w.alloc o).grownBy w' row) {B : Nat} (hr : ∀ r, row = some r → B ≤ r) (hX : X < B) : w'.cell? ⟨X, 1, none⟩ = cs[1]? ∧ w'.frozen? ⟨X, 1, none⟩ = false := by
  have h2 : w'.heap[X]? = some (.cells cs t (0, 0)) := (hg.block X (by rw [World.size_alloc]; have := lt_of_heap h; omega) (fun e => by have := hr X e.symm; omega)).trans (heap_keep h o)
  exact ⟨cell_of_row _ _ 1 _ _ _ h2, Mem.frozen_of_row h2 1⟩
/-- the state behind the copy: W the start, s1 .. s2 where the fitted components lie, s3 where the copy began, S beyond its rows -/
structure SpC (y : WorldV) (l : List CompV) (W : World) (s1 s2 s3 S G : Nat) (fa kk : Option Addr) (nk ni : Nat) (vg : Value) (n : Nat) (L : List Int) (wc : World) : Prop where
  row : wc.heap[W.heap.size]? = some (.cells #[.slice kk nk nk, vg, .slice (some ⟨G, 0, none⟩) ni ni] 27 (0, 0))
  kinds : SlAt 2 KindAt wc kk y.kinds
  gens : wc.ownsRow s3 3 1 vg n (vints .i64 L)
  blk : Blk wc G 33 (ni * 3)
  items : ∀ j (h : j < y.items.length), ItemNew G S wc (j * 3) y.items[j]
  r4 : wc.heap[W.heap.size + 1]? = some (.cells #[.slice none 0 0, .slice none 0 0, .slice none 0 0] 27 (0, 0))
  r5 : wc.heap[W.heap.size + 1 + 1]? = some (.cells #[.int .i64 0, .int .i64 0] 30 (0, 0))
  bel : Below W.heap.size W wc
  comps : Win s1 s2 (fun w => SlAt 2 CompAt w fa (listed (fitAllM y.kinds l))) wc
  o1 : W.heap.size + 1 + 1 < s1
  o2 : s1 ≤ s2
  o3 : s2 ≤ s3
  o4 : s3 ≤ G
  o5 : G < S
theorem SpC.below {y : WorldV} {l : List CompV} {W : World} {s1 s2 s3 S G : Nat} {fa kk : Option Addr} {nk ni : Nat} {vg : Value} {n : Nat} {L : List Int} {w w' : World} (h : SpC y l W s1 s2 s3 S G fa kk nk ni vg n L w) (hb : Below w.heap.size w w') : SpC y l W s1 s2 s3 S G fa kk nk ni vg n L w' :=
  ⟨heap_below h.row hb, h.kinds.below KindAt.abides hb, own_below h.gens hb, h.blk.below hb, fun j hj => (h.items j hj).below hb, heap_below h.r4 hb, heap_below h.r5 hb, bt h.bel hb, h.comps.to (Nat.le_trans h.comps.1 hb.size) (fun g _ g2 => hb.block g (Nat.lt_of_lt_of_le g2 h.comps.1)), h.o1, h.o2, h.o3, h.o4, h.o5⟩
theorem nostr_vrow (a c : Option Addr) (n1 n3 c1 c3 : Nat) (v : Value) (hv : ∃ b n2 c2, v = .slice b n2 c2) (j : Nat) (s : ByteArray) : (#[Value.slice a n1 c1, v, .slice c n3 c3] : Array Value)[j]? ≠ some (Value.string s) := by
  obtain ⟨b, n2, c2, rfl⟩ := hv
  exact nostr_row3 a b c n1 n2 n3 c1 c2 c3 j s
theorem SpC.grow {y : WorldV} {l : List CompV} {W : World} {s1 s2 s3 S G : Nat} {fa kk : Option Addr} {nk ni : Nat} {vg : Value} {n : Nat} {L : List Int} {w5 : World} (h : SpC y l W s1 s2 s3 S G fa kk nk ni vg n L w5) (hno : ∀ g, vg.ownBlock = some g → g < S ∧ NoStr w5 g)
    {v6 : Value} {n6 : Nat} {L6 : List Int} {w6 : World} (hg : w5.grownBy w6 vg.ownBlock) (ho : w6.ownsRow s3 3 1 v6 n6 (vints .i64 L6)) : SpC y l W s1 s2 s3 S G fa kk nk ni v6 n6 L6 (w6.setCell ⟨W.heap.size, 1, none⟩ v6) := by
  have o1 := h.o1
  have o2 := h.o2
  have o3 := h.o3
  have o4 := h.o4
  have o5 := h.o5
  have hrl : ∀ r, vg.ownBlock = some r → s3 ≤ r ∧ r < w5.heap.size := fun r hr => own_lt h.gens r hr
  have hvs : ∃ b n2 c2, vg = .slice b n2 c2 := by obtain ⟨a, c, e⟩ := own_slice h.gens; exact ⟨a, n, c, e⟩
  have hr6 : w6.heap[W.heap.size]? = some (.cells #[.slice kk nk nk, vg, .slice (some ⟨G, 0, none⟩) ni ni] 27 (0, 0)) := (hg.block _ (lt_of_heap h.row) (fun e => by have := (hrl _ e.symm).1; omega)).trans h.row
  have hgc : w6.grownBy (w6.setCell ⟨W.heap.size, 1, none⟩ v6) (some W.heap.size) := gb_set (World.grownBy.refl _ _) 1 _
  have hk6 : SlAt 2 KindAt w6 kk y.kinds := by
    cases hv : vg.ownBlock with
    | none =>
      rw [hv] at hg
      exact h.kinds.below KindAt.abides ⟨hg.os, hg.tape, hg.output, hg.size, fun k hk => hg.block k hk (by simp)⟩
    | some r =>
      rw [hv] at hg
      exact kinds_gb h.kinds (hno r hv).2 hg
  obtain ⟨cs, hb1, hb2⟩ := h.blk
  have hG6 : w6.heap[G]? = some (.cells cs 33 (0, 0)) := (hg.block _ (lt_of_heap hb1) (fun e => own_ne h.gens e.symm hb1 (by decide) rfl)).trans hb1
  have far : ∀ k, k ≠ W.heap.size → (w6.setCell ⟨W.heap.size, 1, none⟩ v6).heap[k]? = w6.heap[k]? := fun k hk => Below.heap_setCell w6 ⟨W.heap.size, 1, none⟩ v6 k hk
  refine ⟨Mem.heap_set hr6 1 _, kinds_gb hk6 (nostr_row hr6 (nostr_vrow _ _ _ _ _ _ _ hvs)) hgc, own_gb ho hr6 (by decide) hgc, ⟨cs, (far _ (by omega)).trans hG6, hb2⟩, fun j hj => ?_, ?_, ?_, ?_, ?_, o1, o2, o3, o4, o5⟩
  · obtain ⟨p1, p2, a, c, p3, p4⟩ := h.items j hj
    have cg : ∀ q u, w5.cell? ⟨G, q, none⟩ = some u → (w6.setCell ⟨W.heap.size, 1, none⟩ v6).cell? ⟨G, q, none⟩ = some u := fun q u hu => by
      rw [World.cell?_of_block (w := w6) (far G (by omega)), World.cell?_of_block (w := w5) (show w6.heap[G]? = w5.heap[G]? by rw [hG6, hb1])]
      exact hu
    exact ⟨cg _ _ p1, cg _ _ p2, a, c, cg _ _ p3, (p4.grown hg (fun r hr => (hno r hr).1)).set _ _ (by show W.heap.size < S; omega)⟩
  · exact (far _ (by omega)).trans ((hg.block _ (lt_of_heap h.r4) (fun e => by have := (hrl _ e.symm).1; omega)).trans h.r4)
  · exact (far _ (by omega)).trans ((hg.block _ (lt_of_heap h.r5) (fun e => by have := (hrl _ e.symm).1; omega)).trans h.r5)
  · exact (h.bel.grown hg h.bel.size (fun r hr => by have := (hrl r hr).1; omega)).setCell (p := ⟨W.heap.size, 1, none⟩) (Nat.le_refl _) _
  · refine h.comps.to (by have := h.comps.1; have := hg.size; rw [World.size_setCell]; omega) (fun g g1 g2 => (far g (by omega)).trans (hg.block g (Nat.lt_of_lt_of_le g2 h.comps.1) (fun e => by have := (hrl _ e.symm).1; omega)))
theorem checkE_kinds {y : WorldV} (h : checkE y = 0) : kindsE y.kinds = 0 := by
  unfold checkE at h
  split at h
  · rename_i h1; exact absurd h h1
  · rename_i h1; exact Decidable.not_not.1 h1
theorem gb_put {w w2 : World} {g : Nat} {t : TypeId} {cells : Array Value} (h : PutR w w2 g t cells) : w.grownBy w2 (some g) := ⟨h.os, h.tape, h.output, by rw [h.size]; exact Nat.le_refl _, fun k hk hne => h.else_ k (fun e => hne (by rw [e]))⟩
end Go.Proofs.Ytpilpkbblkhnaaa
end
