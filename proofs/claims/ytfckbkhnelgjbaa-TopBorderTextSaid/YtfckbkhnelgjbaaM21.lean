/- Lemmas for the law TopBorderText: InsL, WSpawn. No conditions. -/
import Derived.Test.YtfckbkhnelgjbaaM20
import Derived.Test.YtfckbkhnelgjbaaM12
import Derived.Test.YtfckbkhnelgjbaaM17
import Derived.Test.YtfckbkhnelgjbaaM18
import Derived.Test.YtfckbkhnelgjbaaM19
/- Items in a row of the call's own: its cells item by item; one more laid in between. -/
section
namespace Go.Proofs.Ytfckbkhnelgjbaa
open Go.ChangeShapes Go.WideShapes Go.ChangeAt Go.RowKit Go.Nm Go.Mem
set_option linter.unusedVariables false
theorem take_flat {α : Type} {sz : Nat} : ∀ (css : List (List α)), (∀ c ∈ css, c.length = sz) → ∀ i, css.flatten.take (i * sz) = (css.take i).flatten
  | [], _, i => by simp
  | c :: r, h, 0 => by simp
  | c :: r, h, i + 1 => by
    have hc := h c List.mem_cons_self
    rw [List.flatten_cons, List.take_succ_cons, List.flatten_cons, ← take_flat r (fun x hx => h x (List.mem_cons_of_mem _ hx)) i, show (i + 1) * sz = c.length + i * sz by rw [hc, Nat.succ_mul, Nat.add_comm], List.take_length_add_append]
theorem drop_flat2 {α : Type} {sz : Nat} : ∀ (css : List (List α)), (∀ c ∈ css, c.length = sz) → ∀ i, css.flatten.drop (i * sz) = (css.drop i).flatten
  | [], _, i => by simp
  | c :: r, h, 0 => by simp
  | c :: r, h, i + 1 => by
    have hc := h c List.mem_cons_self
    rw [List.flatten_cons, List.drop_succ_cons, ← drop_flat2 r (fun x hx => h x (List.mem_cons_of_mem _ hx)) i, show (i + 1) * sz = c.length + i * sz by rw [hc, Nat.succ_mul, Nat.add_comm], List.drop_length_add_append]
theorem item_rows {w : World} {G S : Nat} {l : List ItemV} {cs : Array Value} {t : TypeId} (hG : w.heap[G]? = some (.cells cs t (0, 0))) (hs : cs.size = l.length * 3) (hat : ∀ j (h : j < l.length), ItemNew G S w (j * 3) l[j]) :
    ∃ css : List (List Value), css.length = l.length ∧ (∀ c ∈ css, c.length = 3) ∧ css.flatten = cs.toList ∧ (∀ c ∈ css, ∀ v ∈ c, v.oneCell' = true ∧ ∀ s, v ≠ .string s) ∧ ∀ j (h : j < l.length) (h2 : j < css.length), Up S (fun w => EItem w css[j] l[j]) w := by
  have key : ∀ j (h : j < l.length), ∃ a c, cs[j * 3]? = some (.int .i64 l[j].n) ∧ cs[j * 3 + 1]? = some (.int .i64 l[j].gen) ∧ cs[j * 3 + 2]? = some (.slice a l[j].comps.length c) ∧ Up S (fun w => SlAt 2 CompAt w a l[j].comps) w := fun j h => by
    obtain ⟨p1, p2, a, c, p3, p4⟩ := hat j h
    rw [cell_of_row _ _ _ _ _ _ hG] at p1 p2 p3
    exact ⟨a, c, p1, p2, p3, p4⟩
  obtain ⟨css, hcss⟩ : ∃ css : List (List Value), css = (List.range l.length).map (fun j => [cs.getD (j * 3) undef, cs.getD (j * 3 + 1) undef, cs.getD (j * 3 + 2) undef]) := ⟨_, rfl⟩
  have hl : css.length = l.length := by rw [hcss]; simp
  have hg : ∀ j (h : j < css.length) (h2 : j < l.length), ∃ a c, css[j] = [.int .i64 l[j].n, .int .i64 l[j].gen, .slice a l[j].comps.length c] ∧ Up S (fun w => SlAt 2 CompAt w a l[j].comps) w := fun j h h2 => by
    obtain ⟨a, c, p1, p2, p3, p4⟩ := key j h2
    refine ⟨a, c, ?_, p4⟩
    have e : css[j] = [cs.getD (j * 3) undef, cs.getD (j * 3 + 1) undef, cs.getD (j * 3 + 2) undef] := by simp [hcss]
    rw [e, Array.getD_eq_getD_getElem?, Array.getD_eq_getD_getElem?, Array.getD_eq_getD_getElem?, p1, p2, p3]
    rfl
  have h3 : ∀ c ∈ css, c.length = 3 := fun c hc => by
    rw [hcss] at hc
    obtain ⟨j, _, rfl⟩ := List.mem_map.1 hc
    rfl
  refine ⟨css, hl, h3, ?_, fun c hc v hv => ?_, fun j h h2 => ?_⟩
  · apply List.ext_getElem?
    intro q
    by_cases hq : q < l.length * 3
    · have hj : q / 3 < css.length := by omega
      have hf := flat_get (sz := 3) css h3 (q / 3) hj (q % 3) (by omega)
      rw [show q / 3 * 3 + q % 3 = q by omega] at hf
      obtain ⟨a, c, p1, p2, p3, _⟩ := key (q / 3) (by omega)
      obtain ⟨a2, c2, e, _⟩ := hg (q / 3) hj (by omega)
      have e2 : css[q / 3] = [cs.getD (q / 3 * 3) undef, cs.getD (q / 3 * 3 + 1) undef, cs.getD (q / 3 * 3 + 2) undef] := by simp [hcss]
      have e4 : cs.toList[q]? = cs[q]? := Array.getElem?_toList
      have d0 : cs.getD (q / 3 * 3) undef = .int .i64 l[q / 3].n := by rw [Array.getD_eq_getD_getElem?, p1]; rfl
      have d1 : cs.getD (q / 3 * 3 + 1) undef = .int .i64 l[q / 3].gen := by rw [Array.getD_eq_getD_getElem?, p2]; rfl
      have d2 : cs.getD (q / 3 * 3 + 2) undef = .slice a l[q / 3].comps.length c := by rw [Array.getD_eq_getD_getElem?, p3]; rfl
      rw [hf, e2, e4, d0, d1, d2]
      rcases (show q % 3 = 0 ∨ q % 3 = 1 ∨ q % 3 = 2 by omega) with h | h | h
      · have e3 : q / 3 * 3 = q := by omega
        rw [e3] at p1
        rw [h, p1]
        rfl
      · have e3 : q / 3 * 3 + 1 = q := by omega
        rw [e3] at p2
        rw [h, p2]
        rfl
      · have e3 : q / 3 * 3 + 2 = q := by omega
        rw [e3] at p3
        rw [h, p3]
        rfl
    · rw [List.getElem?_eq_none (by rw [flat_len (sz := 3) css h3, hl]; omega), List.getElem?_eq_none (by rw [Array.length_toList, hs]; omega)]
  · obtain ⟨j, hj, rfl⟩ := List.getElem_of_mem hc
    obtain ⟨a, c, e, _⟩ := hg j hj (by omega)
    rw [e] at hv
    simp only [List.mem_cons, List.not_mem_nil, or_false] at hv
    rcases hv with rfl | rfl | rfl <;> exact ⟨rfl, fun s h => by cases h⟩
  · obtain ⟨a, c, e, hu⟩ := hg j h2 h
    exact fun w2 hs2 => ⟨a, c, e, hu w2 hs2⟩
theorem slat_of_own {α : Type} {E : World → List Value → α → Prop} {At : World → Addr → α → Prop} (hEA : ∀ w g q cs y, E w cs y → (∀ i u, cs[i]? = some u → w.cell? ⟨g, q + i, none⟩ = some u) → At w ⟨g, q, none⟩ y)
    {B : Nat} {T : TypeId} {sz : Nat} {w : World} {a : Option Addr} {n c : Nat} {css : List (List Value)} {l : List α} (hown : w.ownsRow B T sz (.slice a n c) n css.flatten) (hn : l.length = n) (hc : css.length = n) (h3 : ∀ c ∈ css, c.length = sz) (hE : ∀ j (h : j < l.length) (h2 : j < css.length), E w css[j] l[j]) : SlAt sz At w a l := fun h0 => by
  rcases hown.2 with ⟨h, hz⟩ | ⟨g, cap, cur, h, hb, hh, _⟩
  · omega
  · injection h with h1 _ _
    subst h1
    refine ⟨_, rfl, lt_of_heap hh, fun j hj => ?_⟩
    rw [add_zero_block]
    refine hEA w g (j * sz) _ _ (hE j hj (by omega)) (fun i u hu => ?_)
    have hc2 := h3 _ (List.getElem_mem (show j < css.length by omega))
    have hil : i < sz := by
      rcases Nat.lt_or_ge i sz with hlt2 | hge
      · exact hlt2
      · rw [List.getElem?_eq_none (by omega)] at hu; cases hu
    rw [hown.cellAt (j * sz + i) (by
      have : (j + 1) * sz ≤ n * sz := Nat.mul_le_mul_right _ (by omega)
      rw [Nat.succ_mul] at this
      omega), flat_get css h3 j (by omega) i hil]
    exact hu
theorem ins_get {α : Type} (a : List α) (x : α) (i j : Nat) (hi : i ≤ a.length) : (a.take i ++ [x] ++ a.drop i)[j]? = if j < i then a[j]? else if j = i then some x else a[j - 1]? := by
  have ht : (a.take i).length = i := by rw [List.length_take]; omega
  have ht2 : (a.take i ++ [x]).length = i + 1 := by rw [List.length_append, ht]; rfl
  by_cases h1 : j < i
  · rw [if_pos h1, List.getElem?_append_left (by omega), List.getElem?_append_left (by omega), List.getElem?_take, if_pos h1]
  · rw [if_neg h1]
    by_cases h2 : j = i
    · rw [if_pos h2, List.getElem?_append_left (by omega), List.getElem?_append_right (by omega), ht, h2]
      simp
    · rw [if_neg h2, List.getElem?_append_right (by omega), ht2, List.getElem?_drop, show i + (j - (i + 1)) = j - 1 by omega]
theorem ins_all {α β : Type} (P : α → β → Prop) (a : List α) (b : List β) (x : α) (z : β) (i : Nat) (hl : a.length = b.length) (hi : i ≤ b.length) (h : ∀ j (h1 : j < b.length) (h2 : j < a.length), P a[j] b[j]) (hx : P x z) : ∀ j (h1 : j < (b.take i ++ [z] ++ b.drop i).length) (h2 : j < (a.take i ++ [x] ++ a.drop i).length), P (a.take i ++ [x] ++ a.drop i)[j] (b.take i ++ [z] ++ b.drop i)[j] := by
  intro j h1 h2
  have ea := ins_get a x i j (by omega)
  have eb := ins_get b z i j hi
  rw [List.getElem?_eq_getElem h2] at ea
  rw [List.getElem?_eq_getElem h1] at eb
  have hlen : (b.take i ++ [z] ++ b.drop i).length = b.length + 1 := by simp only [List.length_append, List.length_take, List.length_drop, List.length_singleton]; omega
  by_cases c1 : j < i
  · rw [if_pos c1, List.getElem?_eq_getElem (by omega)] at ea eb
    injection ea with ea
    injection eb with eb
    rw [ea, eb]
    exact h j _ _
  · rw [if_neg c1] at ea eb
    by_cases c2 : j = i
    · rw [if_pos c2] at ea eb
      injection ea with ea
      injection eb with eb
      rw [ea, eb]
      exact hx
    · rw [if_neg c2, List.getElem?_eq_getElem (by omega)] at ea eb
      injection ea with ea
      injection eb with eb
      rw [ea, eb]
      exact h (j - 1) _ _
theorem nostr_row3 (a b c : Option Addr) (n1 n2 n3 c1 c2 c3 : Nat) (j : Nat) (s : ByteArray) : (#[Value.slice a n1 c1, .slice b n2 c2, .slice c n3 c3] : Array Value)[j]? ≠ some (Value.string s) := by
  match j with
  | 0 => simp
  | 1 => simp
  | 2 => simp
  | j + 3 => simp
end Go.Proofs.Ytfckbkhnelgjbaa
end
/- world.Spawn. -/
section
namespace Go.Proofs.Ytfckbkhnelgjbaa
open Go.ChangeShapes Go.WideShapes Go.ChangeAt Go.RowKit Go.Nm Go.Mem
set_option linter.unusedVariables false
theorem results_cct {P : Program} {fn : Func} {p q a : Tmp} {ty tz : TypeId} (h : fn.results = #[.cell p ty, .cell q tz, .tmp a]) (tmps : Array Value) (w : World) (g g2 : Nat) (t t2 : TypeId) (cs cs2 : Array Value) (fr fr2 : Nat × Nat) (d d2 : TypeDesc)
    (hp : tmps.getD p undef = .pointer (some ⟨g, 0, none⟩)) (hg : w.heap[g]? = some (.cells cs t fr))
    (hu : P.underlying ty = some d) (hd : (match d with | .struct _ | .array _ _ => true | _ => false) = true) (hi : (P.info? ty).map (·.size) = some cs.size)
    (hp2 : tmps.getD q undef = .pointer (some ⟨g2, 0, none⟩)) (hg2 : w.heap[g2]? = some (.cells cs2 t2 fr2))
    (hu2 : P.underlying tz = some d2) (hd2 : (match d2 with | .struct _ | .array _ _ => true | _ => false) = true) (hi2 : (P.info? tz).map (·.size) = some cs2.size) :
    (results fn tmps).run P w = .ok (.tuple #[.agg cs, .agg cs2, tmps.getD a undef]) w := by
  have hp' : tmps[p]?.getD undef = .pointer (some ⟨g, 0, none⟩) := by simpa using hp
  have hp2' : tmps[q]?.getD undef = .pointer (some ⟨g2, 0, none⟩) := by simpa using hp2
  simp [results, h, hp', hp2', asAddr, run_loadVar_row w g t ty cs fr d hg hu hd hi, run_loadVar_row w g2 t2 tz cs2 fr2 d2 hg2 hu2 hd2 hi2]
def spawnE (y : WorldV) (l : List CompV) : Int := if checkE y ≠ 0 then checkE y else if fitAllE y.kinds l ≠ 0 then fitAllE y.kinds l else if freeOk y = false then 6 else 0
def spawnG (y : WorldV) : List Int := if freeN y = y.gens.length then y.gens ++ [0] else y.gens
def spawnI (y : WorldV) (l : List CompV) : ItemV := ⟨(freeN y : Int), (spawnG y).getD (freeN y) 0, listed (fitAllM y.kinds l)⟩
def SpawnZ (y : WorldV) (l : List CompV) (Z : WorldV) : Prop := ∃ i, i ≤ y.items.length ∧ (∀ j (h : j < y.items.length), j < i → y.items[j].n < (freeN y : Int)) ∧ (∀ j (h : j < y.items.length), i ≤ j → (freeN y : Int) ≤ y.items[j].n) ∧ Z = ⟨y.kinds, spawnG y, y.items.take i ++ [spawnI y l] ++ y.items.drop i⟩
def SpawnR (y : WorldV) (l : List CompV) (E : Int) (W : World) (e : Ending) (w' : World) : Prop :=
  (∃ (v : Value) (xn xg : Int) (Z : WorldV), e = .returned (.tuple #[v, .agg #[.int .i64 xn, .int .i64 xg], .int .i64 E]) ∧ WorldIn w' v Z ∧ (E ≠ 0 → xn = 0 ∧ xg = 0 ∧ Z = ⟨[], [], []⟩) ∧ (E = 0 → xn = (spawnI y l).n ∧ xg = (spawnI y l).gen ∧ SpawnZ y l Z)) ∧ Below W.heap.size W w'
theorem SpawnR.bad {y : WorldV} {l : List CompV} {E F : Int} {W w' : World} {e : Ending} (hf : F = E) (h : E ≠ 0) (he : e = .returned (.tuple #[.agg #[.slice none 0 0, .slice none 0 0, .slice none 0 0], .agg #[.int .i64 0, .int .i64 0], .int .i64 E])) (hb : Below W.heap.size W w') : SpawnR y l F W e w' := by
  subst hf
  exact ⟨⟨_, 0, 0, ⟨[], [], []⟩, he, ⟨none, 0, none, 0, none, 0, rfl, fun h => absurd h (by simp), fun h => absurd h (by simp), fun h => absurd h (by simp), by simp, by simp⟩, fun _ => ⟨rfl, rfl, rfl⟩, fun h0 => absurd h0 h⟩, hb⟩
theorem SpawnR.good {y : WorldV} {l : List CompV} {E : Int} {W w' : World} {v : Value} {xn xg : Int} {Z : WorldV} (hE : 0 = E) (h1 : xn = (spawnI y l).n) (h2 : xg = (spawnI y l).gen) (hz : SpawnZ y l Z) (hw : WorldIn w' v Z) (hb : Below W.heap.size W w') : SpawnR y l E W (.returned (.tuple #[v, .agg #[.int .i64 xn, .int .i64 xg], .int .i64 0])) w' := by
  subst hE
  exact ⟨⟨v, xn, xg, Z, rfl, hw, fun h => absurd rfl h, fun _ => ⟨h1, h2, hz⟩⟩, hb⟩
theorem spawn_grow {w w' : World} {o : Obj} {X : Nat} {cs : Array Value} {t : TypeId} {row : Option Nat} (h : w.heap[X]? = some (.cells cs t (0, 0))) (hg : (w.alloc o).grownBy w' row) {B : Nat} (hr : ∀ r, row = some r → B ≤ r) (hX : X < B) : w'.cell? ⟨X, 1, none⟩ = cs[1]? ∧ w'.frozen? ⟨X, 1, none⟩ = false := by
  have h2 : w'.heap[X]? = some (.cells cs t (0, 0)) := (hg.block X (by rw [World.size_alloc]; have := lt_of_heap h; omega) (fun e => by have := hr X e.symm; omega)).trans (heap_keep h o)
  exact ⟨cell_of_row _ _ 1 _ _ _ h2, Mem.frozen_of_row h2 1⟩
/-- the state behind the copy: W the start, s1 .. s2 where the fitted components lie, s3 where the copy began, S beyond its rows -/
structure SpC (y : WorldV) (l : List CompV) (W : World) (s1 s2 s3 S G : Nat) (fa kk : Option Addr) (nk ni : Nat) (vg : Value) (n : Nat) (L : List Int) (wc : World) : Prop where
  row : wc.heap[W.heap.size]? = some (.cells #[.slice kk nk nk, vg, .slice (some ⟨G, 0, none⟩) ni ni] 37 (0, 0))
  kinds : SlAt 2 KindAt wc kk y.kinds
  gens : wc.ownsRow s3 3 1 vg n (vints .i64 L)
  blk : Blk wc G 72 (ni * 3)
  items : ∀ j (h : j < y.items.length), ItemNew G S wc (j * 3) y.items[j]
  r4 : wc.heap[W.heap.size + 1]? = some (.cells #[.slice none 0 0, .slice none 0 0, .slice none 0 0] 37 (0, 0))
  r5 : wc.heap[W.heap.size + 1 + 1]? = some (.cells #[.int .i64 0, .int .i64 0] 24 (0, 0))
  bel : Below W.heap.size W wc
  comps : Win s1 s2 (fun w => SlAt 2 CompAt w fa (listed (fitAllM y.kinds l))) wc
  o1 : W.heap.size + 1 + 1 < s1
  o2 : s1 ≤ s2
  o3 : s2 ≤ s3
  o4 : s3 ≤ G
  o5 : G < S
theorem SpC.below {y : WorldV} {l : List CompV} {W : World} {s1 s2 s3 S G : Nat} {fa kk : Option Addr} {nk ni : Nat} {vg : Value} {n : Nat} {L : List Int} {w w' : World} (h : SpC y l W s1 s2 s3 S G fa kk nk ni vg n L w) (hb : Below w.heap.size w w') : SpC y l W s1 s2 s3 S G fa kk nk ni vg n L w' :=
  ⟨heap_below h.row hb, h.kinds.below KindAt.abides hb, own_below h.gens hb, h.blk.below hb, fun j hj => (h.items j hj).below hb, heap_below h.r4 hb, heap_below h.r5 hb, bt h.bel hb, h.comps.to (Nat.le_trans h.comps.1 hb.size) (fun g _ g2 => hb.block g (Nat.lt_of_lt_of_le g2 h.comps.1)), h.o1, h.o2, h.o3, h.o4, h.o5⟩
theorem nostr_vrow (a c : Option Addr) (n1 n3 c1 c3 : Nat) (v : Value) (hv : ∃ b n2 c2, v = .slice b n2 c2) (j : Nat) (s : ByteArray) : (#[Value.slice a n1 c1, v, .slice c n3 c3] : Array Value)[j]? ≠ some (Value.string s) := by
  obtain ⟨b, n2, c2, rfl⟩ := hv
  exact nostr_row3 a b c n1 n2 n3 c1 c2 c3 j s
theorem SpC.grow {y : WorldV} {l : List CompV} {W : World} {s1 s2 s3 S G : Nat} {fa kk : Option Addr} {nk ni : Nat} {vg : Value} {n : Nat} {L : List Int} {w5 : World} (h : SpC y l W s1 s2 s3 S G fa kk nk ni vg n L w5) (hno : ∀ g, vg.ownBlock = some g → g < S ∧ NoStr w5 g)
    {v6 : Value} {n6 : Nat} {L6 : List Int} {w6 : World} (hg : w5.grownBy w6 vg.ownBlock) (ho : w6.ownsRow s3 3 1 v6 n6 (vints .i64 L6)) : SpC y l W s1 s2 s3 S G fa kk nk ni v6 n6 L6 (w6.setCell ⟨W.heap.size, 1, none⟩ v6) := by
  have o1 := h.o1
  have o2 := h.o2
  have o3 := h.o3
  have o4 := h.o4
  have o5 := h.o5
  have hrl : ∀ r, vg.ownBlock = some r → s3 ≤ r ∧ r < w5.heap.size := fun r hr => own_lt h.gens r hr
  have hvs : ∃ b n2 c2, vg = .slice b n2 c2 := by obtain ⟨a, c, e⟩ := own_slice h.gens; exact ⟨a, n, c, e⟩
  have hr6 : w6.heap[W.heap.size]? = some (.cells #[.slice kk nk nk, vg, .slice (some ⟨G, 0, none⟩) ni ni] 37 (0, 0)) := (hg.block _ (lt_of_heap h.row) (fun e => by have := (hrl _ e.symm).1; omega)).trans h.row
  have hgc : w6.grownBy (w6.setCell ⟨W.heap.size, 1, none⟩ v6) (some W.heap.size) := gb_set (World.grownBy.refl _ _) 1 _
  have hk6 : SlAt 2 KindAt w6 kk y.kinds := by
    cases hv : vg.ownBlock with
    | none =>
      rw [hv] at hg
      exact h.kinds.below KindAt.abides ⟨hg.os, hg.tape, hg.output, hg.size, fun k hk => hg.block k hk (by simp)⟩
    | some r =>
      rw [hv] at hg
      exact kinds_gb h.kinds (hno r hv).2 hg
  obtain ⟨cs, hb1, hb2⟩ := h.blk
  have hG6 : w6.heap[G]? = some (.cells cs 72 (0, 0)) := (hg.block _ (lt_of_heap hb1) (fun e => own_ne h.gens e.symm hb1 (by decide) rfl)).trans hb1
  have far : ∀ k, k ≠ W.heap.size → (w6.setCell ⟨W.heap.size, 1, none⟩ v6).heap[k]? = w6.heap[k]? := fun k hk => Below.heap_setCell w6 ⟨W.heap.size, 1, none⟩ v6 k hk
  refine ⟨Mem.heap_set hr6 1 _, kinds_gb hk6 (nostr_row hr6 (nostr_vrow _ _ _ _ _ _ _ hvs)) hgc, own_gb ho hr6 (by decide) hgc, ⟨cs, (far _ (by omega)).trans hG6, hb2⟩, fun j hj => ?_, ?_, ?_, ?_, ?_, o1, o2, o3, o4, o5⟩
  · obtain ⟨p1, p2, a, c, p3, p4⟩ := h.items j hj
    have cg : ∀ q u, w5.cell? ⟨G, q, none⟩ = some u → (w6.setCell ⟨W.heap.size, 1, none⟩ v6).cell? ⟨G, q, none⟩ = some u := fun q u hu => by
      rw [World.cell?_of_block (w := w6) (far G (by omega)), World.cell?_of_block (w := w5) (show w6.heap[G]? = w5.heap[G]? by rw [hG6, hb1])]
      exact hu
    exact ⟨cg _ _ p1, cg _ _ p2, a, c, cg _ _ p3, (p4.grown hg (fun r hr => (hno r hr).1)).set _ _ (by show W.heap.size < S; omega)⟩
  · exact (far _ (by omega)).trans ((hg.block _ (lt_of_heap h.r4) (fun e => by have := (hrl _ e.symm).1; omega)).trans h.r4)
  · exact (far _ (by omega)).trans ((hg.block _ (lt_of_heap h.r5) (fun e => by have := (hrl _ e.symm).1; omega)).trans h.r5)
  · exact (h.bel.grown hg h.bel.size (fun r hr => by have := (hrl r hr).1; omega)).setCell (p := ⟨W.heap.size, 1, none⟩) (Nat.le_refl _) _
  · refine h.comps.to (by have := h.comps.1; have := hg.size; rw [World.size_setCell]; omega) (fun g g1 g2 => (far g (by omega)).trans (hg.block g (Nat.lt_of_lt_of_le g2 h.comps.1) (fun e => by have := (hrl _ e.symm).1; omega)))
theorem checkE_kinds {y : WorldV} (h : checkE y = 0) : kindsE y.kinds = 0 := by
  unfold checkE at h
  split at h
  · rename_i h1; exact absurd h h1
  · rename_i h1; exact Decidable.not_not.1 h1
theorem gb_put {w w2 : World} {g : Nat} {t : TypeId} {cells : Array Value} (h : PutR w w2 g t cells) : w.grownBy w2 (some g) := ⟨h.os, h.tape, h.output, by rw [h.size]; exact Nat.le_refl _, fun k hk hne => h.else_ k (fun e => hne (by rw [e]))⟩
def F_sp (WB BE nk gl gd ni ic : Nat) (FN gv : Int) (kk gq ia : Option Addr) (jq : Nat) (v : Value) (w : World) : Prop :=
  match jq with
  | 0 => v = .agg #[.slice kk nk nk, .slice gq gl gd, .slice ia ni ic]
  | 1 => v = .agg #[.int .i64 FN, .int .i64 gv]
  | 2 => w.heap[WB + 1]? = some (.cells #[.slice kk nk nk, .slice gq gl gd, .slice ia ni ic] 37 (0, 0))
  | _ => True
theorem F_sp_mono (WB BE nk gl gd ni ic : Nat) (FN gv : Int) (kk gq ia : Option Addr) : FactsR (RG 2 (some (WB + 1))) (F_sp WB BE nk gl gd ni ic FN gv kk gq ia) := ⟨by
  intro i jq v w w2 hij h hb
  unfold F_sp at h ⊢
  split at h
  all_goals first
    | exact h
    | exact heap_below h (hb.1 hij)
    | trivial⟩

set_option maxHeartbeats 16000000 in
set_option maxRecDepth 20000 in
theorem world_Spawn (y : WorldV) (l : List CompV) (v : Value) (a : Option Addr) (n ca : Nat) (W : World) (hv : WorldIn W v y) (hsm : SmallW y) (hkf : ∀ k ∈ y.kinds, k.fields.length ≤ 1048576) (hn : l.length = n) (h1 : n ≤ 1048576) (hca : n ≤ ca) (hvl : ∀ z ∈ l, z.vals.length ≤ 1048576) (hz : SlAt 2 CompAt W a l) :
    Calls Try.prog 34 #[v, .slice a n ca] W (SpawnR y l (spawnE y l) W) := by
  have hv0 := hv
  obtain ⟨ak, ck, ag, cg, ai, ci, rfl, q1, q2, q3, q4, q5⟩ := hv
  obtain ⟨nk, hnk⟩ : ∃ n, n = y.kinds.length := ⟨_, rfl⟩
  obtain ⟨ng, hng⟩ : ∃ n, n = y.gens.length := ⟨_, rfl⟩
  obtain ⟨ni, hni⟩ : ∃ n, n = y.items.length := ⟨_, rfl⟩
  rw [← hnk, ← hng, ← hni] at hv0
  rw [← hnk] at q4
  rw [← hnk, ← hng, ← hni]
  obtain ⟨E, hE⟩ : ∃ E, E = spawnE y l := ⟨_, rfl⟩
  rw [← hE]
  obtain ⟨CE, hCE⟩ : ∃ E, E = checkE y := ⟨_, rfl⟩
  obtain ⟨FE, hFE⟩ : ∃ E, E = fitAllE y.kinds l := ⟨_, rfl⟩
  have g1 : CE ≠ 0 → E = CE := fun h => by rw [hE, hCE]; unfold spawnE; rw [if_pos (by rw [← hCE]; exact h)]
  have g2 : CE = 0 → FE ≠ 0 → E = FE := fun h h2 => by rw [hE, hFE]; unfold spawnE; rw [if_neg (by rw [← hCE]; exact fun x => x h), if_pos (by rw [← hFE]; exact h2)]
  have g3 : CE = 0 → FE = 0 → freeOk y = false → E = 6 := fun h h2 h3 => by rw [hE]; unfold spawnE; rw [if_neg (by rw [← hCE]; exact fun x => x h), if_neg (by rw [← hFE]; exact fun x => x h2), if_pos h3]
  have g4 : CE = 0 → FE = 0 → freeOk y = true → E = 0 := fun h h2 h3 => by rw [hE]; unfold spawnE; rw [if_neg (by rw [← hCE]; exact fun x => x h), if_neg (by rw [← hFE]; exact fun x => x h2), if_neg (by rw [h3]; simp)]
  have gs : CE = 0 → y.items.Pairwise (fun x y => x.n < y.n) ∧ ng ≤ 256 := fun h => by
    rw [hCE] at h
    unfold checkE at h
    split at h
    · rename_i hh; exact absurd h hh
    · split at h
      · cases h
      · rename_i hl
        split at h
        · rename_i hc
          have := (itemsAt_iff y y.items.length (Nat.le_refl _)).1 hc.2
          rw [List.take_length] at this
          exact ⟨this.1, by rw [hng]; omega⟩
        · cases h
  obtain ⟨o1, ho1⟩ : ∃ o : Obj, o = .cells #[.slice ak nk ck, .slice ag ng cg, .slice ai ni ci] 37 (0, 0) := ⟨_, rfl⟩
  obtain ⟨o2, ho2⟩ : ∃ o : Obj, o = .cells #[.slice none 0 0, .slice none 0 0, .slice none 0 0] 37 (0, 0) := ⟨_, rfl⟩
  obtain ⟨o3, ho3⟩ : ∃ o : Obj, o = .cells #[.int .i64 0, .int .i64 0] 24 (0, 0) := ⟨_, rfl⟩
  have hr := fun i o => allocs_get [o1, o2, o3] W i o
  have hbA := allocs_below [o1, o2, o3] W
  have r2 : (allocs W [o1, o2, o3]).heap[W.heap.size]? = some o1 := hr 0 o1 rfl
  have r4 : (allocs W [o1, o2, o3]).heap[W.heap.size + 1]? = some o2 := hr 1 o2 rfl
  have r5 : (allocs W [o1, o2, o3]).heap[W.heap.size + 1 + 1]? = some o3 := hr 2 o3 rfl
  simp only [allocs] at r2 r4 r5 hbA
  rw [ho1, ho2, ho3] at r2 r4 r5 hbA
  have HBA := Lib.hid hbA
  have R2 := Lib.hid r2
  have R4 := Lib.hid r4
  have R5 := Lib.hid r5
  have HV0 := Lib.hid hv0
  have HSM := Lib.hid hsm
  have HKF := Lib.hid hkf
  have HZK := Lib.hid q1
  have HKC := Lib.hid (And.intro q4 q5)
  have NK := Lib.hid hnk
  have NG := Lib.hid hng
  have NI := Lib.hid hni
  have HN := Lib.hid hn
  have HVL := Lib.hid hvl
  have HZ := Lib.hid hz
  have G1 := Lib.hid g1
  have G2 := Lib.hid g2
  have G3 := Lib.hid g3
  have G4 := Lib.hid g4
  have GS := Lib.hid gs
  have HCE := Lib.hid hCE
  have HFE := Lib.hid hFE
  have CK := Lib.hid (fun w' (hb : Below W.heap.size W w') => world_Check y _ w' (hv0.below hb) hsm)
  rw [← hCE] at CK
  clear hv0 hsm hkf q1 q2 q3 q4 q5 hnk hng hni hn hvl hz g1 g2 g3 g4 gs hCE hFE hE hr hbA r2 r4 r5 ho1 ho2 ho3 o1 o2 o3
  go_enter Try.func34, Try.ntmps34
  have e0 := cell_of_row _ _ 0 _ _ _ R2.out
  have e1 := cell_of_row _ _ 1 _ _ _ R2.out
  have e2 := cell_of_row _ _ 2 _ _ _ R2.out
  go_wp2_with fail
  refine (CK.out _ HBA.out).mono ?_
  rintro e w1 ⟨rfl, hb1⟩
  have HB := Lib.hid (bt HBA.out hb1)
  replace R2 := Lib.hid (heap_below R2.out hb1)
  replace R4 := Lib.hid (heap_below R4.out hb1)
  replace R5 := Lib.hid (heap_below R5.out hb1)
  have HW1Lo := Lib.hid (lt_of_heap R5.out)
  clear e0 e1 e2 hb1 HBA CK
  by_cases hc : CE = 0
  · subst hc
    replace G2 := Lib.hid (G2.out rfl)
    replace G3 := Lib.hid (G3.out rfl)
    replace G4 := Lib.hid (G4.out rfl)
    replace GS := Lib.hid (GS.out rfl)
    have HK0 := Lib.hid (checkE_kinds HCE.out.symm)
    have t0 : ((0 : Int) != 0) = false := rfl
    have CF := world_Fit sorts_comps y.kinds l ak a nk ck n ca NK.out.symm HN.out (by rw [NK.out]; exact HSM.out.1) h1 hca HKC.out.1 HKC.out.2 HVL.out w1 (HZK.out.below KindAt.abides HB.out) (HZ.out.below CompAt.abides HB.out)
    unfold FitWPost at CF
    rw [HK0.out, ← HFE.out] at CF
    have HCF := Lib.hid CF
    have e0 := cell_of_row _ _ 0 _ _ _ R2.out
    clear CF G1
    go_wp2_with fail
    refine HCF.out.mono ?_
    intro e w2 hpost
    have hb2 : Below w1.heap.size w1 w2 := hpost.2
    have HW12 := Lib.hid hb2.size
    replace HB := Lib.hid (bt HB.out hb2)
    replace R2 := Lib.hid (heap_below R2.out hb2)
    replace R4 := Lib.hid (heap_below R4.out hb2)
    replace R5 := Lib.hid (heap_below R5.out hb2)
    have hcase := hpost.1
    clear e0 hpost HCF
    rcases hcase with ⟨h, _⟩ | ⟨_, hne, rfl⟩ | ⟨_, h0, fa, fc, rfl, hfu⟩
    · exact absurd rfl h
    · have HE := Lib.hid (G2.out hne)
      have HNE := Lib.hid hne
      have t1 : (FE != 0) = true := by rw [bne_iff_ne]; exact hne
      clear hb2 hne
      go_wp2_with (first
        | (refine wpList_store_rowP rfl 37 (.tmp 4) (.tmp 31) rfl (W.heap.size + 1) #[.slice none 0 0, .slice none 0 0, .slice none 0 0] rfl rfl _ _ R4.out (by kernel_rfl) rfl (ones3 _ _ _ rfl rfl rfl) ?_; intro W9 hput; have HP4 := Lib.hid hput; have R59 := Lib.hid ((hput.else_ _ (by omega)).trans R5.out); clear hput)
        | (refine wpList_store_rowP rfl 24 (.tmp 5) (.tmp 32) rfl (W.heap.size + 1 + 1) #[.int .i64 0, .int .i64 0] rfl rfl _ _ R59.out (by kernel_rfl) rfl (ones2 _ _ rfl rfl) ?_; intro W10 hput; have HP5 := Lib.hid hput; clear hput))
      refine bodyPost_ret (results_cct Try.results34 _ _ (W.heap.size + 1) (W.heap.size + 1 + 1) 37 24 _ _ (0, 0) (0, 0) _ _ rfl ((HP5.out.else_ _ (by omega)).trans HP4.out.here) Try.underlying37 rfl (by kernel_rfl) rfl HP5.out.here Try.underlying24 rfl (by kernel_rfl)) rfl ?_
      exact SpawnR.bad HE.out (by first | exact HNE.out | decide) rfl (HB.out.trans ((HP4.out.below (by omega)).trans (HP5.out.below (by omega))))
    · subst h0
      replace G3 := Lib.hid (G3.out rfl)
      replace G4 := Lib.hid (G4.out rfl)
      have HFU := Lib.hid hfu
      obtain ⟨nf, hnf⟩ : ∃ nf, nf = (listed (fitAllM y.kinds l)).length := ⟨_, rfl⟩
      rw [← hnf]
      have HNF := Lib.hid hnf
      have CR := world_Free y _ w2 (HV0.out.below HB.out) HSM.out
      obtain ⟨FN, hFN⟩ : ∃ N, N = freeN y := ⟨_, rfl⟩
      obtain ⟨FO, hFO⟩ : ∃ N, N = freeOk y := ⟨_, rfl⟩
      rw [← hFN, ← hFO] at CR
      rw [← hFO] at G3 G4
      have HCR := Lib.hid CR
      have HFN := Lib.hid hFN
      have HFO := Lib.hid hFO
      have e0 := cell_of_row _ _ 0 _ _ _ R2.out
      have e1 := cell_of_row _ _ 1 _ _ _ R2.out
      have e2 := cell_of_row _ _ 2 _ _ _ R2.out
      have HWL2 := Lib.hid (lt_of_heap R5.out)
      clear CR hFN hFO hnf hb2 hfu
      go_wp2_with fail
      refine HCR.out.mono ?_
      rintro e w3 ⟨rfl, hb3⟩
      replace HB := Lib.hid (bt HB.out hb3)
      replace R2 := Lib.hid (heap_below R2.out hb3)
      replace R4 := Lib.hid (heap_below R4.out hb3)
      replace R5 := Lib.hid (heap_below R5.out hb3)
      have HFU3 := Lib.hid (HFU.out.below hb3)
      have HB23 := Lib.hid hb3
      have HW23c := Lib.hid hb3.size
      have HW23 := Lib.hid hb3.size
      have HWL := Lib.hid (show W.heap.size + 1 + 1 < w2.heap.size from HWL2.out)
      clear e0 e1 e2 hb3 HCR
      cases FO with
      | false =>
        have HE := Lib.hid (G3.out rfl)
        have HNE := Lib.hid (show (6 : Int) ≠ 0 by decide)
        go_wp2_with (first
          | (refine wpList_store_rowP rfl 37 (.tmp 4) (.tmp 41) rfl (W.heap.size + 1) #[.slice none 0 0, .slice none 0 0, .slice none 0 0] rfl rfl _ _ R4.out (by kernel_rfl) rfl (ones3 _ _ _ rfl rfl rfl) ?_; intro W9 hput; have HP4 := Lib.hid hput; have R59 := Lib.hid ((hput.else_ _ (by omega)).trans R5.out); clear hput)
          | (refine wpList_store_rowP rfl 24 (.tmp 5) (.tmp 42) rfl (W.heap.size + 1 + 1) #[.int .i64 0, .int .i64 0] rfl rfl _ _ R59.out (by kernel_rfl) rfl (ones2 _ _ rfl rfl) ?_; intro W10 hput; have HP5 := Lib.hid hput; clear hput))
        refine bodyPost_ret (results_cct Try.results34 _ _ (W.heap.size + 1) (W.heap.size + 1 + 1) 37 24 _ _ (0, 0) (0, 0) _ _ rfl ((HP5.out.else_ _ (by omega)).trans HP4.out.here) Try.underlying37 rfl (by kernel_rfl) rfl HP5.out.here Try.underlying24 rfl (by kernel_rfl)) rfl ?_
        exact SpawnR.bad HE.out (by first | exact HNE.out | decide) rfl (HB.out.trans ((HP4.out.below (by omega)).trans (HP5.out.below (by omega))))
      | true =>
        have HE := Lib.hid (G4.out rfl)
        have hcp := world_Copy y _ w3 (HV0.out.below HB.out) HSM.out HKF.out
        rw [← NK.out, ← NG.out, ← NI.out] at hcp
        have HCP := Lib.hid hcp
        have HFW := Lib.hid (Win.ofUp HFU.out)
        have e0 := cell_of_row _ _ 0 _ _ _ R2.out
        have e1 := cell_of_row _ _ 1 _ _ _ R2.out
        have e2 := cell_of_row _ _ 2 _ _ _ R2.out
        clear G2 G3 G4 hcp
        go_wp2_with fail
        refine HCP.out.mono ?_
        rintro e w4 ⟨kk, vg, G, S, rfl, hk4, hg4, hgS, hWG, hGS, hblk, hat, hb4⟩
        obtain ⟨ga, gc, rfl⟩ := own_sl hg4
        replace HB := Lib.hid (bt HB.out hb4)
        replace R2 := Lib.hid (heap_below R2.out hb4)
        replace R4 := Lib.hid (heap_below R4.out hb4)
        replace R5 := Lib.hid (heap_below R5.out hb4)
        have hw23 : w2.heap.size ≤ w3.heap.size := HW23.out
        have HW34 := Lib.hid hb4.size
        have HW1L := Lib.hid HW1Lo.out
        have HFW4 := Lib.hid (HFW.out.to (Nat.le_trans hw23 hb4.size) (fun g _ g2 => (hb4.block g (Nat.lt_of_lt_of_le g2 hw23)).trans (HB23.out.block g g2)))
        have hWw : W.heap.size + 1 + 1 < w2.heap.size := HWL.out
        have hWS : w2.heap.size ≤ G := by omega
        have HK4 := Lib.hid hk4
        have HG4 := Lib.hid hg4
        have HGS := Lib.hid hgS
        have HGN := Lib.hid (fun g h => (hgS g h).2)
        have HBLK := Lib.hid hblk
        have HAT := Lib.hid hat
        have hwS : w3.heap.size ≤ G := hWG
        clear e0 e1 e2 hk4 hg4 hgS hblk hat hb4 HCP HFW HFU HFU3 HWL HB23 HW23
        have HF1 := Lib.hid (fun (w5 : World) (hput : PutR w4 w5 W.heap.size 37 #[.slice kk nk nk, .slice ga ng gc, .slice (some ⟨G, 0, none⟩) ni ni]) => show SpC y l W w1.heap.size w2.heap.size w3.heap.size S G fa kk nk ni (.slice ga ng gc) ng y.gens w5 ∧ (∀ g, (Value.slice ga ng gc).ownBlock = some g → g < S ∧ NoStr w5 g) ∧ w5.heap.size = w4.heap.size from by
          have hgb : w4.grownBy w5 (some W.heap.size) := ⟨hput.os, hput.tape, hput.output, by rw [hput.size]; exact Nat.le_refl _, fun k hk hne => hput.else_ k (fun e => hne (by rw [e]))⟩
          have hw1 := HW1L.out
          refine ⟨⟨hput.here, kinds_gb HK4.out (nostr_row R2.out (nostr_row3 _ _ _ _ _ _ _ _ _)) hgb, own_gb HG4.out R2.out (by decide) hgb, ?_, ?_, (hput.else_ _ (by omega)).trans R4.out, (hput.else_ _ (by omega)).trans R5.out, HB.out.trans (hput.below (Nat.le_refl _)), HFW4.out.to (by rw [hput.size]; exact HFW4.out.1) (fun g g1 g2 => hput.else_ g (by omega)), hw1, HW12.out, HW23c.out, hwS, hGS⟩, fun g h => ⟨(HGS.out g h).1, (HGN.out g h).same (hput.else_ g (by have := (own_lt HG4.out g h).1; omega))⟩, hput.size⟩
          · obtain ⟨cs, h1, h2⟩ := HBLK.out
            exact ⟨cs, (hput.else_ _ (by omega)).trans h1, h2⟩
          · intro j h
            obtain ⟨h1, h2, a, c, h3, h4⟩ := HAT.out j h
            exact ⟨cell_gb1 h1 hgb (by show G ≠ _; omega), cell_gb1 h2 hgb (by show G ≠ _; omega), a, c, cell_gb1 h3 hgb (by show G ≠ _; omega), h4.grown hgb (fun r hr => by injection hr with hr; omega)⟩)
        have HWB := Lib.hid hwS
        by_cases hfn : FN = ng
        · have t2 : ((FN : Int) == (ng : Int)) = true := by rw [hfn]; simp
          have HSG := Lib.hid (show spawnG y = y.gens ++ [0] by unfold spawnG; rw [if_pos (by rw [← HFN.out, hfn, NG.out])])
          have hltA : FN < ng + 1 := by omega
          have HFN2 := Lib.hid hltA
          obtain ⟨gv, hgv⟩ : ∃ g, g = (y.gens ++ [0]).getD FN 0 := ⟨_, rfl⟩
          have HGV := Lib.hid hgv
          have HNG1 := Lib.hid (show (y.gens ++ [0]).length = ng + 1 by rw [List.length_append, ← NG.out]; rfl)
          clear hgv
          clear hfn HBLK HAT HG4 HK4 HFW4 HB R4 R5 hwS hWS
          go_wp2_with (first
            | (refine wpList_store_rowP rfl 37 (.tmp 2) (.tmp 44) rfl W.heap.size #[.slice kk nk nk, .slice ga ng gc, .slice (some ⟨G, 0, none⟩) ni ni] rfl rfl _ _ R2.out (by kernel_rfl) rfl (ones3 _ _ _ rfl rfl rfl) ?_; intro w5 hput; have HP := Lib.hid (HF1.out w5 hput); have e1 : w5.cell? ⟨W.heap.size, 1, none⟩ = some (.slice ga ng gc) := (by rw [cell_of_row _ _ 1 _ _ _ hput.here]; rfl); clear hput)
            | (at_builtin; go_must (refine wpList_append_ints rfl _ _ 34 rfl w3.heap.size 3 .i64 8 Try.underlying34 (by kernel_rfl) (.slice ga ng gc) ng y.gens rfl (own_bel HP.out.1.gens ((Below.refl _ _).alloc (Nat.le_refl _) _)) (some ⟨w5.heap.size, 0, none⟩) 1 1 [0] rfl rfl (new_ints1 _ _) (by unfold maxLen; have := GS.out.2; omega) (by have := GS.out.2; omega) (by rw [World.size_alloc, HP.out.2.2]; have := HW34.out; omega) ?_); intro v6 w6 hown6 hg6 hor6; obtain ⟨gq, gd, rfl, hq1, hq2⟩ := hown6.form (by omega); have h6 := spawn_grow HP.out.1.row hg6 (fun r h => (own_lt HP.out.1.gens r h).1) (by have := HP.out.1.o1; have := HP.out.1.o2; have := HP.out.1.o3; omega); have f6 := h6.2; have c6 := h6.1; have hsp6 := HP.out.1.grow HP.out.2.1 ((World.grownBy_alloc w5 _ _).trans hg6) hown6; have HSP := Lib.hid hsp6; have eg : w6.cell? ⟨gq, FN, none⟩ = some (.int .i64 gv) := (by have hff := HFN2.out; rw [hown6.cellAt FN (by omega), vints_get .i64 _ FN (by rw [HNG1.out]; exact hff), HGV.out]); have e2 := cell_of_row _ _ 2 _ _ _ (heap_keep hsp6.row (.cells #[.int .i64 (FN : Int), .int .i64 gv] 24 (0, 0))); clear hsp6; clear hown6 hg6 hor6 h6))
          obtain ⟨wc, hwc⟩ : ∃ wc, wc = w6.setCell ⟨W.heap.size, 1, none⟩ (.slice (some ⟨gq, 0, none⟩) (ng + 1) gd) := ⟨_, rfl⟩
          have hsp := HSP.out
          rw [← HSG.out, ← hwc] at hsp
          rw [← hwc]
          have hws : w6.heap.size = wc.heap.size := by rw [hwc]; simp
          rw [hws]
          have HGW := Lib.hid (show gv = (spawnG y).getD FN 0 by rw [HSG.out]; exact HGV.out)
          obtain ⟨gl, hgl⟩ : ∃ gl, gl = ng + 1 := ⟨_, rfl⟩
          rw [← hgl] at hsp ⊢
          have HFL := HFN2.out
          rw [← hgl] at HFL
          have HSPC := Lib.hid hsp
          clear hws hsp hwc hgl f6 c6 e1 e2 eg t2 HSP HP HSG HFN2 HGV HNG1
          obtain ⟨wd, hwd⟩ : ∃ wd, wd = wc.alloc (.cells #[.int .i64 (FN : Int), .int .i64 gv] 24 (0, 0)) := ⟨_, rfl⟩
          have hbd : Below wc.heap.size wc wd := by rw [hwd]; exact (Below.refl _ _).alloc (Nat.le_refl _) _
          have hre : wd.heap[wc.heap.size]? = some (.cells #[.int .i64 (FN : Int), .int .i64 gv] 24 (0, 0)) := by rw [hwd]; exact heap_alloc_new wc _
          rw [← hwd]
          obtain ⟨BE, hBE⟩ : ∃ b, b = wc.heap.size := ⟨_, rfl⟩
          rw [← hBE] at hre ⊢
          have hsd := HSPC.out.below hbd
          have hBW : G < BE := by rw [hBE]; exact HSPC.out.blk.lt
          have HBS := Lib.hid (bin_items y.items (some ⟨G, 0, none⟩) ni ni (FN : Int) NI.out.symm (by rw [NI.out]; exact HSM.out.2.2.1) GS.out.1 wd (fun _ => ⟨_, rfl, hsd.blk.lt, fun j hj => by rw [add_zero_block]; exact (hsd.items j hj).at_⟩))
          have HSD := Lib.hid hsd
          have HRE := Lib.hid hre
          have HBEG := Lib.hid hBW
          clear hbd hre hsd hwd hBE hBW HSPC
          refine HBS.out.mono ?_
          rintro e we ⟨⟨ip, fo, hip, rfl, hlo, hhi, _⟩, hbe⟩
          have HLO := Lib.hid hlo
          have HHI := Lib.hid hhi
          have hse := HSD.out.below hbe
          have hre := heap_below HRE.out hbe
          obtain ⟨cs, hcs1, hcs2⟩ := hse.blk
          obtain ⟨css, hc1, hc2, hc3, hc4, hc5⟩ := item_rows hcs1 (by rw [hcs2, NI.out]) hse.items
          have hown : we.ownsRow G 72 3 (.slice (some ⟨G, 0, none⟩) ni ni) ni css.flatten := ⟨by rw [hc3, Array.length_toList, hcs2], Or.inr ⟨G, ni, cs, rfl, Nat.le_refl _, hcs1, Nat.le_refl _, by unfold maxLen; have := HSM.out.2.2.1; rw [← NI.out] at this; omega, hcs2, by rw [hc3, List.take_of_length_le (by rw [Array.length_toList, hcs2]; exact Nat.le_refl _)]⟩⟩
          have hba : Below we.heap.size we (we.alloc (.cells #[.int .i64 (FN : Int), .int .i64 gv, .slice fa nf fc] 72 (0, 0))) := (Below.refl _ _).alloc (Nat.le_refl _) _
          have hro := new_row we #[.int .i64 (FN : Int), .int .i64 gv, .slice fa nf fc] 72
          have HIN := Lib.hid (ins_items css.flatten [.int .i64 (FN : Int), .int .i64 gv, .slice fa nf fc] G ni ip we.heap.size (we.alloc (.cells #[.int .i64 (FN : Int), .int .i64 gv, .slice fa nf fc] 72 (0, 0))) (own_below hown hba) hip (by have := HSM.out.2.2.1; rw [← NI.out] at this; exact this) rfl
            (fun j v hj => by have := hro j v hj; simpa using this) (fun v hv => by obtain ⟨c, hcc, hvv⟩ := List.mem_flatten.1 hv; exact (hc4 c hcc v hvv).1) (fun v hv => by simp only [List.mem_cons, List.not_mem_nil, or_false] at hv; rcases hv with rfl | rfl | rfl <;> rfl))
          have HNS := Lib.hid (show NoStr we G from nostr_row hcs1 (fun j s hj => by
            have hm := Array.mem_of_getElem? hj
            rw [← Array.mem_toList_iff, ← hc3] at hm
            obtain ⟨c, hcc, hvv⟩ := List.mem_flatten.1 hm
            exact (hc4 c hcc _ hvv).2 s rfl))
          have c2 := cell_of_row _ _ 2 _ _ _ hse.row
          have d0 := cell_of_row _ _ 0 _ _ _ hre
          have d1 := cell_of_row _ _ 1 _ _ _ hre
          have HSE := Lib.hid hse
          have HREE := Lib.hid hre
          have HC2 := Lib.hid hc2
          have HC5 := Lib.hid hc5
          have HC1 := Lib.hid hc1
          have HBA := Lib.hid hba
          clear hlo hhi hse hre hcs1 hcs2 hc1 hc2 hc3 hc4 hc5 hown hba hro hbe HBS HSD HRE
          go_wp2_with fail
          refine HIN.out.mono ?_
          rintro e w8 ⟨v8, rfl, ho8, hg8⟩
          obtain ⟨ia, ic, rfl⟩ := own_slice ho8
          have hga : we.grownBy w8 (some G) := (World.grownBy_alloc we _ _).trans hg8
          have o1 := HSE.out.o1
          have o2 := HSE.out.o2
          have o3 := HSE.out.o3
          have o4 := HSE.out.o4
          have o5 := HSE.out.o5
          have hbg := HBEG.out
          have hr8 : w8.heap[W.heap.size]? = some (.cells #[.slice kk nk nk, .slice (some ⟨gq, 0, none⟩) gl gd, .slice (some ⟨G, 0, none⟩) ni ni] 37 (0, 0)) := (hga.block _ (lt_of_heap HSE.out.row) (fun e => by injection e with e; omega)).trans HSE.out.row
          have c8 := cell_of_row _ _ 2 _ _ _ hr8
          have f8 : w8.frozen? ⟨W.heap.size, 2, none⟩ = false := Mem.frozen_of_row hr8 2
          have hg9 : w8.grownBy (w8.setCell ⟨W.heap.size, 2, none⟩ (.slice ia (ni + 1) ic)) (some W.heap.size) := gb_set (World.grownBy.refl _ _) 2 _
          have far : ∀ k, k ≠ W.heap.size → (w8.setCell ⟨W.heap.size, 2, none⟩ (.slice ia (ni + 1) ic)).heap[k]? = w8.heap[k]? := fun k hk => Below.heap_setCell w8 ⟨W.heap.size, 2, none⟩ _ k hk
          have hrow9 := Mem.heap_set hr8 2 (.slice ia (ni + 1) ic)
          obtain ⟨cs, hcs1, _⟩ := HSE.out.blk
          have hk9 := kinds_gb (kinds_gb HSE.out.kinds HNS.out hga) (nostr_row hr8 (nostr_row3 _ _ _ _ _ _ _ _ _)) hg9
          have hgn9 := own_gb (own_gb HSE.out.gens hcs1 (by decide) hga) hr8 (by decide) hg9
          have hr49 : (w8.setCell ⟨W.heap.size, 2, none⟩ (.slice ia (ni + 1) ic)).heap[W.heap.size + 1]? = some (.cells #[.slice none 0 0, .slice none 0 0, .slice none 0 0] 37 (0, 0)) := (far _ (by omega)).trans ((hga.block _ (lt_of_heap HSE.out.r4) (fun e => by injection e with e; omega)).trans HSE.out.r4)
          have hr59 : (w8.setCell ⟨W.heap.size, 2, none⟩ (.slice ia (ni + 1) ic)).heap[W.heap.size + 1 + 1]? = some (.cells #[.int .i64 0, .int .i64 0] 24 (0, 0)) := (far _ (by omega)).trans ((hga.block _ (lt_of_heap HSE.out.r5) (fun e => by injection e with e; omega)).trans HSE.out.r5)
          have hen9 : (w8.setCell ⟨W.heap.size, 2, none⟩ (.slice ia (ni + 1) ic)).heap[BE]? = some (.cells #[.int .i64 (FN : Int), .int .i64 gv] 24 (0, 0)) := (far _ (by omega)).trans ((hga.block _ (lt_of_heap HREE.out) (fun e => by injection e with e; omega)).trans HREE.out)
          have hb9 : Below W.heap.size W (w8.setCell ⟨W.heap.size, 2, none⟩ (.slice ia (ni + 1) ic)) := (HSE.out.bel.grown hga HSE.out.bel.size (fun r h => by injection h with h; omega)).setCell (p := ⟨W.heap.size, 2, none⟩) (Nat.le_refl _) _
          have hcm9 : ∀ w10 w11, (w8.setCell ⟨W.heap.size, 2, none⟩ (.slice ia (ni + 1) ic)).grownBy w10 (some (W.heap.size + 1)) → w10.grownBy w11 (some (W.heap.size + 1 + 1)) → SlAt 2 CompAt w11 fa (listed (fitAllM y.kinds l)) := by
            intro w10 w11 h10 h11
            have z1 := HSE.out.comps.1
            have z2 := hga.size
            have z3 := h10.size
            have z4 := h11.size
            rw [World.size_setCell] at z3
            exact (HSE.out.comps.to (w' := w11) (by omega) (fun g g1 g2 => (h11.block g (by omega) (fun e => by injection e with e; omega)).trans ((h10.block g (by rw [World.size_setCell]; omega) (fun e => by injection e with e; omega)).trans ((far g (by omega)).trans (hga.block g (by omega) (fun e => by injection e with e; omega)))))).now
          have hr5x : ∀ w10, (w8.setCell ⟨W.heap.size, 2, none⟩ (.slice ia (ni + 1) ic)).grownBy w10 (some (W.heap.size + 1)) → w10.heap[W.heap.size + 1 + 1]? = some (.cells #[.int .i64 0, .int .i64 0] 24 (0, 0)) := fun w10 h10 => (h10.block _ (lt_of_heap hr59) (fun e => by injection e with e; omega)).trans hr59
          have hi9 : ∀ w10 w11, (w8.setCell ⟨W.heap.size, 2, none⟩ (.slice ia (ni + 1) ic)).grownBy w10 (some (W.heap.size + 1)) → w10.grownBy w11 (some (W.heap.size + 1 + 1)) → SlAt 3 ItemAt w11 ia (y.items.take ip ++ [spawnI y l] ++ y.items.drop ip) := by
            intro w10 w11 h10 h11
            have hown9 := own_gb (own_gb (own_gb ho8 hr8 (by decide) hg9) hr49 (by decide) h10) (hr5x w10 h10) (by decide) h11
            rw [take_flat css HC2.out, drop_flat2 css HC2.out] at hown9
            have hfl : (css.take ip).flatten ++ [Value.int .i64 (FN : Int), Value.int .i64 gv, Value.slice fa nf fc] ++ (css.drop ip).flatten = (css.take ip ++ [[Value.int .i64 (FN : Int), Value.int .i64 gv, Value.slice fa nf fc]] ++ css.drop ip).flatten := by simp
            rw [hfl] at hown9
            have hil : ip ≤ y.items.length := by rw [← NI.out]; exact hip
            refine slat_of_own EItem.at hown9 (by simp only [List.length_append, List.length_take, List.length_drop, List.length_singleton]; rw [NI.out]; omega) (by simp only [List.length_append, List.length_take, List.length_drop, List.length_singleton, HC1.out]; rw [NI.out]; omega) (fun c hc => ?_) (ins_all _ css y.items _ (spawnI y l) ip HC1.out hil (fun j h1 h2 => ((((HC5.out j h1 h2).grown hga (fun r h => by injection h with h; omega)).grown hg9 (fun r h => by injection h with h; omega)).grown h10 (fun r h => by injection h with h; omega)).grown h11 (fun r h => by injection h with h; omega) |>.now) ?_)
            · rcases List.mem_append.1 hc with hc | hc
              · rcases List.mem_append.1 hc with hc | hc
                · exact HC2.out c (List.mem_of_mem_take hc)
                · rw [List.mem_singleton.1 hc]; rfl
              · exact HC2.out c (List.mem_of_mem_drop hc)
            · refine ⟨fa, fc, ?_, hcm9 w10 w11 h10 h11⟩
              show _ = [Value.int .i64 (freeN y : Int), .int .i64 ((spawnG y).getD (freeN y) 0), .slice fa (listed (fitAllM y.kinds l)).length fc]
              rw [← HFN.out, ← HGW.out, ← HNF.out]
          obtain ⟨w9, hw9⟩ : ∃ w9, w9 = w8.setCell ⟨W.heap.size, 2, none⟩ (.slice ia (ni + 1) ic) := ⟨_, rfl⟩
          have HWI := Lib.hid (show ∀ w10 w11, w9.grownBy w10 (some (W.heap.size + 1)) → w10.grownBy w11 (some (W.heap.size + 1 + 1)) → WorldIn w11 (.agg #[.slice kk nk nk, .slice (some ⟨gq, 0, none⟩) gl gd, .slice ia (ni + 1) ic]) ⟨y.kinds, spawnG y, y.items.take ip ++ [spawnI y l] ++ y.items.drop ip⟩ from by
            intro w10 w11 h10 h11
            rw [hw9] at h10
            have hk11 := kinds_gb (kinds_gb hk9 (nostr_row hr49 (nostr_row3 _ _ _ _ _ _ _ _ _)) h10) (nostr_row (hr5x w10 h10) (fun j s e => by rcases j with _ | _ | j <;> simp at e)) h11
            have hgn11 := own_gb (own_gb hgn9 hr49 (by decide) h10) (hr5x w10 h10) (by decide) h11
            have hgl : (spawnG y).length = gl := by have := hgn9.1; rw [vints_length, Nat.mul_one] at this; exact this
            have hil : (y.items.take ip ++ [spawnI y l] ++ y.items.drop ip).length = ni + 1 := by simp only [List.length_append, List.length_take, List.length_drop, List.length_singleton]; rw [← NI.out]; omega
            exact ⟨kk, nk, some ⟨gq, 0, none⟩, gd, ia, ic, by simp only; rw [hgl, hil, NK.out], hk11, IntsAt.of_own hgn11 hgl.symm, hi9 w10 w11 h10 h11, by simp only; rw [NK.out]; exact Nat.le_refl _, by have := HSM.out.1; rw [← NK.out] at this; omega⟩)
          have HRW9 := Lib.hid (show w9.heap[W.heap.size]? = some (.cells #[.slice kk nk nk, .slice (some ⟨gq, 0, none⟩) gl gd, .slice ia (ni + 1) ic] 37 (0, 0)) by rw [hw9]; exact hrow9)
          rw [← hw9] at hr49 hr59 hen9 hb9
          have HR4 := Lib.hid hr49
          have HR5 := Lib.hid hr59
          have HEN := Lib.hid hen9
          have HB9 := Lib.hid hb9
          have HLAST := Lib.hid (show SpawnZ y l ⟨y.kinds, spawnG y, y.items.take ip ++ [spawnI y l] ++ y.items.drop ip⟩ from ⟨ip, by rw [← NI.out]; exact hip, fun j h hj => by rw [← HFN.out]; exact HLO.out j h hj, fun j h hj => by rw [← HFN.out]; exact HHI.out j h hj, rfl⟩)
          have HXN := Lib.hid (show (FN : Int) = (spawnI y l).n ∧ gv = (spawnI y l).gen from ⟨by rw [HFN.out]; rfl, by rw [HGW.out, HFN.out]; rfl⟩)
          have HOS := Lib.hid (show W.heap.size + 1 + 1 < BE from by omega)
          clear hga o1 o2 o3 o4 o5 hbg hg9 far hrow9 hcs1 hk9 hgn9 hr49 hr59 hen9 hb9 hcm9 hr5x hi9 hg8 ho8 hr8 c2 d0 d1 HIN HNS HSE HREE HC2 HC5 HC1 HBA
          go_wp2_with fail
          rw [← hw9]
          clear hw9 c8 f8
          refine wp_region_facts_r rfl 3 (by kernel_rfl) (fun a b => World.grownBy a b (some (W.heap.size + 1))) (gb_drew _ _) (fun _ _ _ h h2 => h.trans h2) (RG 2 (some (W.heap.size + 1))) RG.sub (F_sp W.heap.size BE nk gl gd (ni + 1) ic (FN : Int) gv kk (some ⟨gq, 0, none⟩) ia) (F_sp_mono W.heap.size BE nk gl gd (ni + 1) ic (FN : Int) gv kk (some ⟨gq, 0, none⟩) ia) 2 (fun w => w.heap[W.heap.size + 1]? = some (.cells #[.slice none 0 0, .slice none 0 0, .slice none 0 0] 37 (0, 0))) HR4.out (fun i a b hi h ho => heap_below ho (h.1 hi)) ?_ ?_
          · refine ⟨?_, ?_, ?_, trivial⟩
            · intro vs w' F hb hd hF hl hT hq
              have e := (hF 2).trans (look_out _ 2 _ _ (by kernel_rfl))
              exact rg_load 37 _ rfl rfl (W.heap.size) (0) [.slice kk nk nk, .slice (some ⟨gq, 0, none⟩) gl gd, .slice ia (ni + 1) ic] e (CellsK.row ((hb.block _ (lt_of_heap HRW9.out) (fun e => by injection e with e; omega)).trans HRW9.out)) _ Try.underlying37 rfl (by kernel_rfl) ⟨_, rfl, RG.same _ _ _ _, rfl⟩
            · intro vs w' F hb hd hF hl hT hq
              have e := (hF 12).trans (look_out _ 12 _ _ (by kernel_rfl))
              exact rg_load 24 _ rfl rfl (BE) (0) [.int .i64 (FN : Int), .int .i64 gv] e (CellsK.row ((hb.block _ (lt_of_heap HEN.out) (fun e => by have := HOS.out; injection e with e; omega)).trans HEN.out)) _ Try.underlying24 rfl (by kernel_rfl) ⟨_, rfl, RG.same _ _ _ _, rfl⟩
            · intro vs w' F hb hd hF hl hT hq
              have e1 := ((hF 4).trans (look_out _ 4 _ _ (by kernel_rfl)))
              have e2 := (((hF 78).trans (look_at _ 78 0 _ _ (by kernel_rfl) (by kernel_rfl) hl)).trans (dep_of (Fact := F_sp W.heap.size BE nk gl gd (ni + 1) ic (FN : Int) gv kk (some ⟨gq, 0, none⟩) ia) hd 0 (by kernel_rfl)))
              refine wpList_store_rowP rfl 37 (.tmp 4) (.tmp 78) rfl (W.heap.size + 1) #[.slice kk nk nk, .slice (some ⟨gq, 0, none⟩) gl gd, .slice ia (ni + 1) ic] e1 e2 _ _ (hq rfl) (by kernel_rfl) rfl (ones3 _ _ _ rfl rfl rfl) ?_
              intro w2 hput
              exact ⟨undef, rfl, RG.at_ rfl (gb_put hput), hput.here⟩
          · intro vs8 W8 hl hb hI
            have i2 : W8.heap[W.heap.size + 1]? = some (.cells #[.slice kk nk nk, .slice (some ⟨gq, 0, none⟩) gl gd, .slice ia (ni + 1) ic] 37 (0, 0)) := hI 2 (by omega)
            have i1 : vs8.getD 1 undef = .agg #[.int .i64 (FN : Int), .int .i64 gv] := hI 1 (by omega)
            obtain ⟨x0, x1, x2, x3, x4, hvs⟩ := list5 hl
            subst hvs
            replace i1 : x1 = .agg #[.int .i64 (FN : Int), .int .i64 gv] := i1
            subst i1
            have h59 := (hb.block _ (lt_of_heap HR5.out) (fun e => by injection e with e; omega)).trans HR5.out
            have R59 := Lib.hid h59
            have HI2 := Lib.hid i2
            have HGB := Lib.hid hb
            clear i2 hI hl hb h59
            simp only [fillAll, Act.put, List.setIfInBounds_toArray, List.set_cons_succ, List.set_cons_zero, List.drop_succ_cons, List.drop_zero]
            go_wp2_with (refine wpList_store_rowP rfl 24 (.tmp 5) (.tmp 79) rfl (W.heap.size + 1 + 1) #[.int .i64 (FN : Int), .int .i64 gv] rfl rfl _ _ R59.out (by kernel_rfl) rfl (ones2 _ _ rfl rfl) ?_; intro W10 hput; have HP5 := Lib.hid hput; clear hput)
            have g11 := gb_put HP5.out
            refine bodyPost_ret (results_cct Try.results34 _ _ (W.heap.size + 1) (W.heap.size + 1 + 1) 37 24 _ _ (0, 0) (0, 0) _ _ rfl ((HP5.out.else_ _ (by omega)).trans HI2.out) Try.underlying37 rfl (by kernel_rfl) rfl HP5.out.here Try.underlying24 rfl (by kernel_rfl)) rfl ?_
            have hbz : Below W.heap.size W W10 := (HB9.out.grown HGB.out HB9.out.size (fun r h => by injection h with h; omega)).grown g11 (by have := HB9.out.size; have := HGB.out.size; omega) (fun r h => by injection h with h; omega)
            exact SpawnR.good HE.out.symm HXN.out.1 HXN.out.2 HLAST.out (HWI.out _ _ HGB.out g11) hbz
        · have t2 : ((FN : Int) == (ng : Int)) = false := by
            have : ¬ ((FN : Int) = (ng : Int)) := by omega
            simpa using this
          have HFL : FN < ng := by have := firstP_le (freeP y) y.gens.length; have h := HFN.out; unfold freeN at h; rw [← NG.out] at this h; omega
          have HSG := Lib.hid (show spawnG y = y.gens by unfold spawnG; rw [if_neg (by rw [← HFN.out, ← NG.out]; exact hfn)])
          obtain ⟨gv, hgv⟩ : ∃ g, g = y.gens.getD FN 0 := ⟨_, rfl⟩
          have HGV := Lib.hid hgv
          clear hgv
          obtain ⟨gq, gd, hgq, _, _⟩ := HG4.out.form (by omega)
          injection hgq with hg1 _ hg3
          subst hg1
          have hg4 := hg3.symm
          subst hg4
          have hff := HFL
          clear hff hfn HBLK HAT HG4 HK4 HFW4 HB R4 R5 hwS hWS
          go_wp2_with (refine wpList_store_rowP rfl 37 (.tmp 2) (.tmp 44) rfl W.heap.size #[.slice kk nk nk, .slice (some ⟨gq, 0, none⟩) ng gd, .slice (some ⟨G, 0, none⟩) ni ni] rfl rfl _ _ R2.out (by kernel_rfl) rfl (ones3 _ _ _ rfl rfl rfl) ?_; intro wc hput; have HP := Lib.hid (HF1.out wc hput); have e1 : wc.cell? ⟨W.heap.size, 1, none⟩ = some (.slice (some ⟨gq, 0, none⟩) ng gd) := (by rw [cell_of_row _ _ 1 _ _ _ hput.here]; rfl); have eg : wc.cell? ⟨gq, FN, none⟩ = some (.int .i64 gv) := (by have hff := HFL; have hp := (HF1.out wc hput).1.gens; rw [hp.cellAt FN (by omega), vints_get .i64 _ FN (by rw [← NG.out]; exact hff), HGV.out]); have e2 := cell_of_row _ _ 2 _ _ _ (heap_keep hput.here (.cells #[.int .i64 (FN : Int), .int .i64 gv] 24 (0, 0))); clear hput)
          have hsp := HP.out.1
          rw [← HSG.out] at hsp
          have HGW := Lib.hid (show gv = (spawnG y).getD FN 0 by rw [HSG.out]; exact HGV.out)
          obtain ⟨gl, hgl⟩ : ∃ gl, gl = ng := ⟨_, rfl⟩
          rw [← hgl] at hsp ⊢
          rw [← hgl] at HFL
          have HSPC := Lib.hid hsp
          clear hsp hgl e1 e2 eg t2 HP HSG HGV
          obtain ⟨wd, hwd⟩ : ∃ wd, wd = wc.alloc (.cells #[.int .i64 (FN : Int), .int .i64 gv] 24 (0, 0)) := ⟨_, rfl⟩
          have hbd : Below wc.heap.size wc wd := by rw [hwd]; exact (Below.refl _ _).alloc (Nat.le_refl _) _
          have hre : wd.heap[wc.heap.size]? = some (.cells #[.int .i64 (FN : Int), .int .i64 gv] 24 (0, 0)) := by rw [hwd]; exact heap_alloc_new wc _
          rw [← hwd]
          obtain ⟨BE, hBE⟩ : ∃ b, b = wc.heap.size := ⟨_, rfl⟩
          rw [← hBE] at hre ⊢
          have hsd := HSPC.out.below hbd
          have hBW : G < BE := by rw [hBE]; exact HSPC.out.blk.lt
          have HBS := Lib.hid (bin_items y.items (some ⟨G, 0, none⟩) ni ni (FN : Int) NI.out.symm (by rw [NI.out]; exact HSM.out.2.2.1) GS.out.1 wd (fun _ => ⟨_, rfl, hsd.blk.lt, fun j hj => by rw [add_zero_block]; exact (hsd.items j hj).at_⟩))
          have HSD := Lib.hid hsd
          have HRE := Lib.hid hre
          have HBEG := Lib.hid hBW
          clear hbd hre hsd hwd hBE hBW HSPC
          refine HBS.out.mono ?_
          rintro e we ⟨⟨ip, fo, hip, rfl, hlo, hhi, _⟩, hbe⟩
          have HLO := Lib.hid hlo
          have HHI := Lib.hid hhi
          have hse := HSD.out.below hbe
          have hre := heap_below HRE.out hbe
          obtain ⟨cs, hcs1, hcs2⟩ := hse.blk
          obtain ⟨css, hc1, hc2, hc3, hc4, hc5⟩ := item_rows hcs1 (by rw [hcs2, NI.out]) hse.items
          have hown : we.ownsRow G 72 3 (.slice (some ⟨G, 0, none⟩) ni ni) ni css.flatten := ⟨by rw [hc3, Array.length_toList, hcs2], Or.inr ⟨G, ni, cs, rfl, Nat.le_refl _, hcs1, Nat.le_refl _, by unfold maxLen; have := HSM.out.2.2.1; rw [← NI.out] at this; omega, hcs2, by rw [hc3, List.take_of_length_le (by rw [Array.length_toList, hcs2]; exact Nat.le_refl _)]⟩⟩
          have hba : Below we.heap.size we (we.alloc (.cells #[.int .i64 (FN : Int), .int .i64 gv, .slice fa nf fc] 72 (0, 0))) := (Below.refl _ _).alloc (Nat.le_refl _) _
          have hro := new_row we #[.int .i64 (FN : Int), .int .i64 gv, .slice fa nf fc] 72
          have HIN := Lib.hid (ins_items css.flatten [.int .i64 (FN : Int), .int .i64 gv, .slice fa nf fc] G ni ip we.heap.size (we.alloc (.cells #[.int .i64 (FN : Int), .int .i64 gv, .slice fa nf fc] 72 (0, 0))) (own_below hown hba) hip (by have := HSM.out.2.2.1; rw [← NI.out] at this; exact this) rfl
            (fun j v hj => by have := hro j v hj; simpa using this) (fun v hv => by obtain ⟨c, hcc, hvv⟩ := List.mem_flatten.1 hv; exact (hc4 c hcc v hvv).1) (fun v hv => by simp only [List.mem_cons, List.not_mem_nil, or_false] at hv; rcases hv with rfl | rfl | rfl <;> rfl))
          have HNS := Lib.hid (show NoStr we G from nostr_row hcs1 (fun j s hj => by
            have hm := Array.mem_of_getElem? hj
            rw [← Array.mem_toList_iff, ← hc3] at hm
            obtain ⟨c, hcc, hvv⟩ := List.mem_flatten.1 hm
            exact (hc4 c hcc _ hvv).2 s rfl))
          have c2 := cell_of_row _ _ 2 _ _ _ hse.row
          have d0 := cell_of_row _ _ 0 _ _ _ hre
          have d1 := cell_of_row _ _ 1 _ _ _ hre
          have HSE := Lib.hid hse
          have HREE := Lib.hid hre
          have HC2 := Lib.hid hc2
          have HC5 := Lib.hid hc5
          have HC1 := Lib.hid hc1
          have HBA := Lib.hid hba
          clear hlo hhi hse hre hcs1 hcs2 hc1 hc2 hc3 hc4 hc5 hown hba hro hbe HBS HSD HRE
          go_wp2_with fail
          refine HIN.out.mono ?_
          rintro e w8 ⟨v8, rfl, ho8, hg8⟩
          obtain ⟨ia, ic, rfl⟩ := own_slice ho8
          have hga : we.grownBy w8 (some G) := (World.grownBy_alloc we _ _).trans hg8
          have o1 := HSE.out.o1
          have o2 := HSE.out.o2
          have o3 := HSE.out.o3
          have o4 := HSE.out.o4
          have o5 := HSE.out.o5
          have hbg := HBEG.out
          have hr8 : w8.heap[W.heap.size]? = some (.cells #[.slice kk nk nk, .slice (some ⟨gq, 0, none⟩) gl gd, .slice (some ⟨G, 0, none⟩) ni ni] 37 (0, 0)) := (hga.block _ (lt_of_heap HSE.out.row) (fun e => by injection e with e; omega)).trans HSE.out.row
          have c8 := cell_of_row _ _ 2 _ _ _ hr8
          have f8 : w8.frozen? ⟨W.heap.size, 2, none⟩ = false := Mem.frozen_of_row hr8 2
          have hg9 : w8.grownBy (w8.setCell ⟨W.heap.size, 2, none⟩ (.slice ia (ni + 1) ic)) (some W.heap.size) := gb_set (World.grownBy.refl _ _) 2 _
          have far : ∀ k, k ≠ W.heap.size → (w8.setCell ⟨W.heap.size, 2, none⟩ (.slice ia (ni + 1) ic)).heap[k]? = w8.heap[k]? := fun k hk => Below.heap_setCell w8 ⟨W.heap.size, 2, none⟩ _ k hk
          have hrow9 := Mem.heap_set hr8 2 (.slice ia (ni + 1) ic)
          obtain ⟨cs, hcs1, _⟩ := HSE.out.blk
          have hk9 := kinds_gb (kinds_gb HSE.out.kinds HNS.out hga) (nostr_row hr8 (nostr_row3 _ _ _ _ _ _ _ _ _)) hg9
          have hgn9 := own_gb (own_gb HSE.out.gens hcs1 (by decide) hga) hr8 (by decide) hg9
          have hr49 : (w8.setCell ⟨W.heap.size, 2, none⟩ (.slice ia (ni + 1) ic)).heap[W.heap.size + 1]? = some (.cells #[.slice none 0 0, .slice none 0 0, .slice none 0 0] 37 (0, 0)) := (far _ (by omega)).trans ((hga.block _ (lt_of_heap HSE.out.r4) (fun e => by injection e with e; omega)).trans HSE.out.r4)
          have hr59 : (w8.setCell ⟨W.heap.size, 2, none⟩ (.slice ia (ni + 1) ic)).heap[W.heap.size + 1 + 1]? = some (.cells #[.int .i64 0, .int .i64 0] 24 (0, 0)) := (far _ (by omega)).trans ((hga.block _ (lt_of_heap HSE.out.r5) (fun e => by injection e with e; omega)).trans HSE.out.r5)
          have hen9 : (w8.setCell ⟨W.heap.size, 2, none⟩ (.slice ia (ni + 1) ic)).heap[BE]? = some (.cells #[.int .i64 (FN : Int), .int .i64 gv] 24 (0, 0)) := (far _ (by omega)).trans ((hga.block _ (lt_of_heap HREE.out) (fun e => by injection e with e; omega)).trans HREE.out)
          have hb9 : Below W.heap.size W (w8.setCell ⟨W.heap.size, 2, none⟩ (.slice ia (ni + 1) ic)) := (HSE.out.bel.grown hga HSE.out.bel.size (fun r h => by injection h with h; omega)).setCell (p := ⟨W.heap.size, 2, none⟩) (Nat.le_refl _) _
          have hcm9 : ∀ w10 w11, (w8.setCell ⟨W.heap.size, 2, none⟩ (.slice ia (ni + 1) ic)).grownBy w10 (some (W.heap.size + 1)) → w10.grownBy w11 (some (W.heap.size + 1 + 1)) → SlAt 2 CompAt w11 fa (listed (fitAllM y.kinds l)) := by
            intro w10 w11 h10 h11
            have z1 := HSE.out.comps.1
            have z2 := hga.size
            have z3 := h10.size
            have z4 := h11.size
            rw [World.size_setCell] at z3
            exact (HSE.out.comps.to (w' := w11) (by omega) (fun g g1 g2 => (h11.block g (by omega) (fun e => by injection e with e; omega)).trans ((h10.block g (by rw [World.size_setCell]; omega) (fun e => by injection e with e; omega)).trans ((far g (by omega)).trans (hga.block g (by omega) (fun e => by injection e with e; omega)))))).now
          have hr5x : ∀ w10, (w8.setCell ⟨W.heap.size, 2, none⟩ (.slice ia (ni + 1) ic)).grownBy w10 (some (W.heap.size + 1)) → w10.heap[W.heap.size + 1 + 1]? = some (.cells #[.int .i64 0, .int .i64 0] 24 (0, 0)) := fun w10 h10 => (h10.block _ (lt_of_heap hr59) (fun e => by injection e with e; omega)).trans hr59
          have hi9 : ∀ w10 w11, (w8.setCell ⟨W.heap.size, 2, none⟩ (.slice ia (ni + 1) ic)).grownBy w10 (some (W.heap.size + 1)) → w10.grownBy w11 (some (W.heap.size + 1 + 1)) → SlAt 3 ItemAt w11 ia (y.items.take ip ++ [spawnI y l] ++ y.items.drop ip) := by
            intro w10 w11 h10 h11
            have hown9 := own_gb (own_gb (own_gb ho8 hr8 (by decide) hg9) hr49 (by decide) h10) (hr5x w10 h10) (by decide) h11
            rw [take_flat css HC2.out, drop_flat2 css HC2.out] at hown9
            have hfl : (css.take ip).flatten ++ [Value.int .i64 (FN : Int), Value.int .i64 gv, Value.slice fa nf fc] ++ (css.drop ip).flatten = (css.take ip ++ [[Value.int .i64 (FN : Int), Value.int .i64 gv, Value.slice fa nf fc]] ++ css.drop ip).flatten := by simp
            rw [hfl] at hown9
            have hil : ip ≤ y.items.length := by rw [← NI.out]; exact hip
            refine slat_of_own EItem.at hown9 (by simp only [List.length_append, List.length_take, List.length_drop, List.length_singleton]; rw [NI.out]; omega) (by simp only [List.length_append, List.length_take, List.length_drop, List.length_singleton, HC1.out]; rw [NI.out]; omega) (fun c hc => ?_) (ins_all _ css y.items _ (spawnI y l) ip HC1.out hil (fun j h1 h2 => ((((HC5.out j h1 h2).grown hga (fun r h => by injection h with h; omega)).grown hg9 (fun r h => by injection h with h; omega)).grown h10 (fun r h => by injection h with h; omega)).grown h11 (fun r h => by injection h with h; omega) |>.now) ?_)
            · rcases List.mem_append.1 hc with hc | hc
              · rcases List.mem_append.1 hc with hc | hc
                · exact HC2.out c (List.mem_of_mem_take hc)
                · rw [List.mem_singleton.1 hc]; rfl
              · exact HC2.out c (List.mem_of_mem_drop hc)
            · refine ⟨fa, fc, ?_, hcm9 w10 w11 h10 h11⟩
              show _ = [Value.int .i64 (freeN y : Int), .int .i64 ((spawnG y).getD (freeN y) 0), .slice fa (listed (fitAllM y.kinds l)).length fc]
              rw [← HFN.out, ← HGW.out, ← HNF.out]
          obtain ⟨w9, hw9⟩ : ∃ w9, w9 = w8.setCell ⟨W.heap.size, 2, none⟩ (.slice ia (ni + 1) ic) := ⟨_, rfl⟩
          have HWI := Lib.hid (show ∀ w10 w11, w9.grownBy w10 (some (W.heap.size + 1)) → w10.grownBy w11 (some (W.heap.size + 1 + 1)) → WorldIn w11 (.agg #[.slice kk nk nk, .slice (some ⟨gq, 0, none⟩) gl gd, .slice ia (ni + 1) ic]) ⟨y.kinds, spawnG y, y.items.take ip ++ [spawnI y l] ++ y.items.drop ip⟩ from by
            intro w10 w11 h10 h11
            rw [hw9] at h10
            have hk11 := kinds_gb (kinds_gb hk9 (nostr_row hr49 (nostr_row3 _ _ _ _ _ _ _ _ _)) h10) (nostr_row (hr5x w10 h10) (fun j s e => by rcases j with _ | _ | j <;> simp at e)) h11
            have hgn11 := own_gb (own_gb hgn9 hr49 (by decide) h10) (hr5x w10 h10) (by decide) h11
            have hgl : (spawnG y).length = gl := by have := hgn9.1; rw [vints_length, Nat.mul_one] at this; exact this
            have hil : (y.items.take ip ++ [spawnI y l] ++ y.items.drop ip).length = ni + 1 := by simp only [List.length_append, List.length_take, List.length_drop, List.length_singleton]; rw [← NI.out]; omega
            exact ⟨kk, nk, some ⟨gq, 0, none⟩, gd, ia, ic, by simp only; rw [hgl, hil, NK.out], hk11, IntsAt.of_own hgn11 hgl.symm, hi9 w10 w11 h10 h11, by simp only; rw [NK.out]; exact Nat.le_refl _, by have := HSM.out.1; rw [← NK.out] at this; omega⟩)
          have HRW9 := Lib.hid (show w9.heap[W.heap.size]? = some (.cells #[.slice kk nk nk, .slice (some ⟨gq, 0, none⟩) gl gd, .slice ia (ni + 1) ic] 37 (0, 0)) by rw [hw9]; exact hrow9)
          rw [← hw9] at hr49 hr59 hen9 hb9
          have HR4 := Lib.hid hr49
          have HR5 := Lib.hid hr59
          have HEN := Lib.hid hen9
          have HB9 := Lib.hid hb9
          have HLAST := Lib.hid (show SpawnZ y l ⟨y.kinds, spawnG y, y.items.take ip ++ [spawnI y l] ++ y.items.drop ip⟩ from ⟨ip, by rw [← NI.out]; exact hip, fun j h hj => by rw [← HFN.out]; exact HLO.out j h hj, fun j h hj => by rw [← HFN.out]; exact HHI.out j h hj, rfl⟩)
          have HXN := Lib.hid (show (FN : Int) = (spawnI y l).n ∧ gv = (spawnI y l).gen from ⟨by rw [HFN.out]; rfl, by rw [HGW.out, HFN.out]; rfl⟩)
          have HOS := Lib.hid (show W.heap.size + 1 + 1 < BE from by omega)
          clear hga o1 o2 o3 o4 o5 hbg hg9 far hrow9 hcs1 hk9 hgn9 hr49 hr59 hen9 hb9 hcm9 hr5x hi9 hg8 ho8 hr8 c2 d0 d1 HIN HNS HSE HREE HC2 HC5 HC1 HBA
          go_wp2_with fail
          rw [← hw9]
          clear hw9 c8 f8
          refine wp_region_facts_r rfl 3 (by kernel_rfl) (fun a b => World.grownBy a b (some (W.heap.size + 1))) (gb_drew _ _) (fun _ _ _ h h2 => h.trans h2) (RG 2 (some (W.heap.size + 1))) RG.sub (F_sp W.heap.size BE nk gl gd (ni + 1) ic (FN : Int) gv kk (some ⟨gq, 0, none⟩) ia) (F_sp_mono W.heap.size BE nk gl gd (ni + 1) ic (FN : Int) gv kk (some ⟨gq, 0, none⟩) ia) 2 (fun w => w.heap[W.heap.size + 1]? = some (.cells #[.slice none 0 0, .slice none 0 0, .slice none 0 0] 37 (0, 0))) HR4.out (fun i a b hi h ho => heap_below ho (h.1 hi)) ?_ ?_
          · refine ⟨?_, ?_, ?_, trivial⟩
            · intro vs w' F hb hd hF hl hT hq
              have e := (hF 2).trans (look_out _ 2 _ _ (by kernel_rfl))
              exact rg_load 37 _ rfl rfl (W.heap.size) (0) [.slice kk nk nk, .slice (some ⟨gq, 0, none⟩) gl gd, .slice ia (ni + 1) ic] e (CellsK.row ((hb.block _ (lt_of_heap HRW9.out) (fun e => by injection e with e; omega)).trans HRW9.out)) _ Try.underlying37 rfl (by kernel_rfl) ⟨_, rfl, RG.same _ _ _ _, rfl⟩
            · intro vs w' F hb hd hF hl hT hq
              have e := (hF 12).trans (look_out _ 12 _ _ (by kernel_rfl))
              exact rg_load 24 _ rfl rfl (BE) (0) [.int .i64 (FN : Int), .int .i64 gv] e (CellsK.row ((hb.block _ (lt_of_heap HEN.out) (fun e => by have := HOS.out; injection e with e; omega)).trans HEN.out)) _ Try.underlying24 rfl (by kernel_rfl) ⟨_, rfl, RG.same _ _ _ _, rfl⟩
            · intro vs w' F hb hd hF hl hT hq
              have e1 := ((hF 4).trans (look_out _ 4 _ _ (by kernel_rfl)))
              have e2 := (((hF 78).trans (look_at _ 78 0 _ _ (by kernel_rfl) (by kernel_rfl) hl)).trans (dep_of (Fact := F_sp W.heap.size BE nk gl gd (ni + 1) ic (FN : Int) gv kk (some ⟨gq, 0, none⟩) ia) hd 0 (by kernel_rfl)))
              refine wpList_store_rowP rfl 37 (.tmp 4) (.tmp 78) rfl (W.heap.size + 1) #[.slice kk nk nk, .slice (some ⟨gq, 0, none⟩) gl gd, .slice ia (ni + 1) ic] e1 e2 _ _ (hq rfl) (by kernel_rfl) rfl (ones3 _ _ _ rfl rfl rfl) ?_
              intro w2 hput
              exact ⟨undef, rfl, RG.at_ rfl (gb_put hput), hput.here⟩
          · intro vs8 W8 hl hb hI
            have i2 : W8.heap[W.heap.size + 1]? = some (.cells #[.slice kk nk nk, .slice (some ⟨gq, 0, none⟩) gl gd, .slice ia (ni + 1) ic] 37 (0, 0)) := hI 2 (by omega)
            have i1 : vs8.getD 1 undef = .agg #[.int .i64 (FN : Int), .int .i64 gv] := hI 1 (by omega)
            obtain ⟨x0, x1, x2, x3, x4, hvs⟩ := list5 hl
            subst hvs
            replace i1 : x1 = .agg #[.int .i64 (FN : Int), .int .i64 gv] := i1
            subst i1
            have h59 := (hb.block _ (lt_of_heap HR5.out) (fun e => by injection e with e; omega)).trans HR5.out
            have R59 := Lib.hid h59
            have HI2 := Lib.hid i2
            have HGB := Lib.hid hb
            clear i2 hI hl hb h59
            simp only [fillAll, Act.put, List.setIfInBounds_toArray, List.set_cons_succ, List.set_cons_zero, List.drop_succ_cons, List.drop_zero]
            go_wp2_with (refine wpList_store_rowP rfl 24 (.tmp 5) (.tmp 79) rfl (W.heap.size + 1 + 1) #[.int .i64 (FN : Int), .int .i64 gv] rfl rfl _ _ R59.out (by kernel_rfl) rfl (ones2 _ _ rfl rfl) ?_; intro W10 hput; have HP5 := Lib.hid hput; clear hput)
            have g11 := gb_put HP5.out
            refine bodyPost_ret (results_cct Try.results34 _ _ (W.heap.size + 1) (W.heap.size + 1 + 1) 37 24 _ _ (0, 0) (0, 0) _ _ rfl ((HP5.out.else_ _ (by omega)).trans HI2.out) Try.underlying37 rfl (by kernel_rfl) rfl HP5.out.here Try.underlying24 rfl (by kernel_rfl)) rfl ?_
            have hbz : Below W.heap.size W W10 := (HB9.out.grown HGB.out HB9.out.size (fun r h => by injection h with h; omega)).grown g11 (by have := HB9.out.size; have := HGB.out.size; omega) (fun r h => by injection h with h; omega)
            exact SpawnR.good HE.out.symm HXN.out.1 HXN.out.2 HLAST.out (HWI.out _ _ HGB.out g11) hbz
  · have HE := Lib.hid (G1.out hc)
    have HNE := Lib.hid hc
    have t0 : (CE != 0) = true := by rw [bne_iff_ne]; exact hc
    clear hc
    go_wp2_with (first
      | (refine wpList_store_rowP rfl 37 (.tmp 4) (.tmp 19) rfl (W.heap.size + 1) #[.slice none 0 0, .slice none 0 0, .slice none 0 0] rfl rfl _ _ R4.out (by kernel_rfl) rfl (ones3 _ _ _ rfl rfl rfl) ?_; intro W9 hput; have HP4 := Lib.hid hput; have R59 := Lib.hid ((hput.else_ _ (by omega)).trans R5.out); clear hput)
      | (refine wpList_store_rowP rfl 24 (.tmp 5) (.tmp 20) rfl (W.heap.size + 1 + 1) #[.int .i64 0, .int .i64 0] rfl rfl _ _ R59.out (by kernel_rfl) rfl (ones2 _ _ rfl rfl) ?_; intro W10 hput; have HP5 := Lib.hid hput; clear hput))
    refine bodyPost_ret (results_cct Try.results34 _ _ (W.heap.size + 1) (W.heap.size + 1 + 1) 37 24 _ _ (0, 0) (0, 0) _ _ rfl ((HP5.out.else_ _ (by omega)).trans HP4.out.here) Try.underlying37 rfl (by kernel_rfl) rfl HP5.out.here Try.underlying24 rfl (by kernel_rfl)) rfl ?_
    exact SpawnR.bad HE.out (by first | exact HNE.out | decide) rfl (HB.out.trans ((HP4.out.below (by omega)).trans (HP5.out.below (by omega))))
end Go.Proofs.Ytfckbkhnelgjbaa
end
