/- Lemmas for the law TopSlotWorld: WCopy, Close. No conditions. -/
import Derived.Test.YtpilpkbblkhnaaaM08
import Derived.Test.YtpilpkbblkhnaaaM07
import Derived.Test.YtpilpkbblkhnaaaM17
import Derived.Test.YtpilpkbblkhnaaaM20
import Derived.Deep.DeepMust
import Derived.OwnWalk
import Derived.Test.YtpilpkbblkhnaaaM14
import Derived.Test.YtpilpkbblkhnaaaM11
import Derived.Test.YtpilpkbblkhnaaaM10
import Derived.Test.YtpilpkbblkhnaaaM18
/- world.Copy. -/
section
namespace Go.Proofs.Ytpilpkbblkhnaaa
open Go.ChangeShapes Go.WideShapes Go.ChangeAt Go.RowKit Go.Nm Go.Mem
set_option linter.unusedVariables false
theorem NoStr.same {w w' : World} {G : Nat} (h : NoStr w G) (e : w'.heap[G]? = w.heap[G]?) : NoStr w' G := fun i s => by
  rw [World.cell?_of_block (w := w) e]
  exact h i s
theorem own_ne {w : World} {B e size n g G : Nat} {v : Value} {xs : List Value} {cs : Array Value} {t : TypeId} {fr : Nat × Nat} (h : w.ownsRow B e size v n xs) (hg : v.ownBlock = some g) (hG : w.heap[G]? = some (.cells cs t fr)) (hne : e ≠ t) : g ≠ G := fun e2 => by
  subst e2
  rcases h.2 with ⟨rfl, _⟩ | ⟨g', cap, cur, rfl, _, hh, _⟩
  · cases hg
  · injection hg with hg
    have hg : g' = g := hg
    subst hg
    rw [hG] at hh
    injection hh with hh
    injection hh with _ h2 _
    exact hne h2.symm
theorem cell_gb1 {w w' : World} {G : Nat} {p : Addr} {v : Value} (hc : w.cell? p = some v) (hg : w.grownBy w' (some G)) (hp : p.block ≠ G) : w'.cell? p = some v := by
  rw [World.cell?_of_block (w := w) (hg.block _ (World.block_lt_of_cell? _ _ hc) (fun e => hp (by injection e)))]
  exact hc
theorem flds_gb {w w' : World} {G : Nat} {a : Option Addr} {l : List FieldV} (h : SlAt 3 FieldAt w a l) (hn : NoStr w G) (hg : w.grownBy w' (some G)) : SlAt 3 FieldAt w' a l := fun h0 => by
  obtain ⟨x, e, h1, h2⟩ := h h0
  refine ⟨x, e, Nat.lt_of_lt_of_le h1 hg.size, fun i hi => ?_⟩
  have hne : x.block ≠ G := by
    intro e2
    obtain ⟨c0, _⟩ := h2 0 (by omega)
    have hs := World.cell?_spot c0
    rw [Nat.zero_mul] at c0 hs
    have e3 : x.add 0 = ⟨G, x.off, none⟩ := by
      obtain ⟨xb, xo, sp⟩ := x
      have e4 : xb = G := e2
      subst e4
      have : sp = none := by simpa [Addr.add] using hs
      subst this
      rfl
    rw [e3] at c0
    exact hn _ _ c0
  obtain ⟨k0, k1, k2, k3⟩ := h2 i hi
  exact ⟨cell_gb1 k0 hg (by rw [block_of_add]; exact hne), cell_gb1 k1 hg (by show (x.add (i * 3)).block ≠ G; rw [block_of_add]; exact hne), cell_gb1 k2 hg (by show (x.add (i * 3)).block ≠ G; rw [block_of_add]; exact hne), k3⟩
theorem kinds_gb {w w' : World} {G : Nat} {a : Option Addr} {l : List KindV} (h : SlAt 2 KindAt w a l) (hn : NoStr w G) (hg : w.grownBy w' (some G)) : SlAt 2 KindAt w' a l := fun h0 => by
  obtain ⟨x, e, h1, h2⟩ := h h0
  refine ⟨x, e, Nat.lt_of_lt_of_le h1 hg.size, fun i hi => ?_⟩
  have hne : x.block ≠ G := by
    intro e2
    obtain ⟨c0, _⟩ := h2 0 (by omega)
    have hs := World.cell?_spot c0
    rw [Nat.zero_mul] at c0 hs
    have e3 : x.add 0 = ⟨G, x.off, none⟩ := by
      obtain ⟨xb, xo, sp⟩ := x
      have e4 : xb = G := e2
      subst e4
      have : sp = none := by simpa [Addr.add] using hs
      subst this
      rfl
    rw [e3] at c0
    exact hn _ _ c0
  obtain ⟨k0, k1, a2, c2, k2, k3, k4, k5⟩ := h2 i hi
  exact ⟨cell_gb1 k0 hg (by rw [block_of_add]; exact hne), k1, a2, c2, cell_gb1 k2 hg (by show (x.add (i * 2)).block ≠ G; rw [block_of_add]; exact hne), k3, k4, flds_gb k5 hn hg⟩
theorem own_gb {w w' : World} {B e size n G : Nat} {v : Value} {xs : List Value} {cs : Array Value} {t : TypeId} {fr : Nat × Nat} (h : w.ownsRow B e size v n xs) (hG : w.heap[G]? = some (.cells cs t fr)) (hne : e ≠ t) (hg : w.grownBy w' (some G)) : w'.ownsRow B e size v n xs :=
  own_grown h hg (fun g hv e2 => by
    injection e2 with e2
    subst e2
    rcases h.2 with ⟨rfl, _⟩ | ⟨g', cap, cur, rfl, _, hh, _⟩
    · cases hv
    · injection hv with hv
      have hv : g' = g := hv
      subst hv
      rw [hG] at hh
      injection hh with hh
      injection hh with _ h2 _
      exact hne h2.symm)
theorem nostr_row {w : World} {G : Nat} {cs : Array Value} {t : TypeId} {fr : Nat × Nat} (h : w.heap[G]? = some (.cells cs t fr)) (hs : ∀ (j : Nat) (s : ByteArray), cs[j]? ≠ some (Value.string s)) : NoStr w G := fun i s => by
  rw [cell_of_row _ _ _ _ _ _ h]; exact hs i s
theorem nostr_made (n j : Nat) (s : ByteArray) : (madeCells #[Value.int .i64 0, .int .i64 0, .slice none 0 0] n)[j]? ≠ some (Value.string s) := by
  unfold madeCells
  rw [Array.getElem?_map]
  cases (Array.range n)[j]? with
  | none => simp
  | some i =>
    show some ((#[Value.int .i64 0, .int .i64 0, .slice none 0 0] : Array Value)[i % 3]!) ≠ _
    rcases (show i % 3 = 0 ∨ i % 3 = 1 ∨ i % 3 = 2 by omega) with e | e | e <;> rw [e] <;> simp
theorem inf_item : (Try.prog.info? 33).map (fun i => (i.zero, i.size, i.bytes)) = some (some (.agg #[.int .i64 0, .int .i64 0, .slice none 0 0]), 3, 40) := by kernel_rfl
/-- an item in the making -/
def ItemNew (G S : Nat) (w : World) (i : Nat) (y : ItemV) : Prop := w.cell? ⟨G, i, none⟩ = some (.int .i64 y.n) ∧ w.cell? ⟨G, i + 1, none⟩ = some (.int .i64 y.gen) ∧ ∃ a c, w.cell? ⟨G, i + 2, none⟩ = some (.slice a y.comps.length c) ∧ Up S (fun w => SlAt 2 CompAt w a y.comps) w
theorem ItemNew.below {G S : Nat} {w w' : World} {i : Nat} {y : ItemV} (h : ItemNew G S w i y) (hb : Below w.heap.size w w') : ItemNew G S w' i y := by
  obtain ⟨h1, h2, a, c, h3, h4⟩ := h
  exact ⟨cell_abides h1 hb, cell_abides h2 hb, a, c, cell_abides h3 hb, h4.below hb⟩
theorem ItemNew.far {G S : Nat} {w : World} {i : Nat} {y : ItemV} (hGS : G < S) (h : ItemNew G S w i y) (j : Nat) (v : Value) (n1 : j ≠ i) (n2 : j ≠ i + 1) (n3 : j ≠ i + 2) : ItemNew G S (w.setCell ⟨G, j, none⟩ v) i y := by
  obtain ⟨h1, h2, a, c, h3, h4⟩ := h
  exact ⟨by rw [cell_set_ne (fun e => n1 (by injection e))]; exact h1, by rw [cell_set_ne (fun e => n2 (by injection e))]; exact h2, a, c, by rw [cell_set_ne (fun e => n3 (by injection e))]; exact h3, h4.set _ _ hGS⟩
theorem ItemNew.at_ {G S : Nat} {w : World} {i : Nat} {y : ItemV} (h : ItemNew G S w i y) : ItemAt w ⟨G, i, none⟩ y := by
  obtain ⟨h1, h2, a, c, h3, h4⟩ := h
  exact ⟨h1, h2, a, c, h3, h4.now⟩
theorem ItemNew.new {G S : Nat} {w : World} {i : Nat} {y : ItemV} {a : Option Addr} {c : Nat} {o1 o2 o3 : Value} (hGS : G < S) (h1 : w.cell? ⟨G, i, none⟩ = some o1) (h2 : w.cell? ⟨G, i + 1, none⟩ = some o2) (h3 : w.cell? ⟨G, i + 2, none⟩ = some o3) (hi : Up S (fun w => SlAt 2 CompAt w a y.comps) w) :
    ItemNew G S (((w.setCell ⟨G, i, none⟩ (.int .i64 y.n)).setCell ⟨G, i + 1, none⟩ (.int .i64 y.gen)).setCell ⟨G, i + 2, none⟩ (.slice a y.comps.length c)) i y := by
  have n1 : (⟨G, i + 1, none⟩ : Addr) ≠ ⟨G, i, none⟩ := fun e => by injection e with _ e; omega
  have n2 : (⟨G, i + 2, none⟩ : Addr) ≠ ⟨G, i, none⟩ := fun e => by injection e with _ e; omega
  have n3 : (⟨G, i + 2, none⟩ : Addr) ≠ ⟨G, i + 1, none⟩ := fun e => by injection e with _ e; omega
  refine ⟨?_, ?_, a, c, ?_, ((hi.set _ _ hGS).set _ _ hGS).set _ _ hGS⟩
  · rw [cell_set_ne n2, cell_set_ne n1]; exact cell_set_eq h1
  · rw [cell_set_ne n3]; exact cell_set_eq (u := o2) (by rw [cell_set_ne n1.symm]; exact h2)
  · exact cell_set_eq (u := o3) (by rw [cell_set_ne n3.symm, cell_set_ne n2.symm]; exact h3)
theorem own_low {w : World} {B C e size n : Nat} {v : Value} {xs : List Value} (h : w.ownsRow B e size v n xs) (hc : C ≤ B) : w.ownsRow C e size v n xs := by
  obtain ⟨h1, h2⟩ := h
  rcases h2 with h2 | ⟨g, cap, cur, hv, hg, r⟩
  · exact ⟨h1, Or.inl h2⟩
  · exact ⟨h1, Or.inr ⟨g, cap, cur, hv, Nat.le_trans hc hg, r⟩⟩
theorem own_sl {w : World} {B e size n : Nat} {v : Value} {xs : List Value} (h : w.ownsRow B e size v n xs) : ∃ a c, v = .slice a n c := by
  rcases h.2 with ⟨rfl, h0⟩ | ⟨g, cap, cur, rfl, _⟩
  · exact ⟨none, 0, by rw [h0]⟩
  · exact ⟨_, _, rfl⟩
theorem gb_below {a w w' : World} {g : Nat} (h : a.grownBy w (some g)) (hb : Below w.heap.size w w') : a.grownBy w' (some g) := ⟨hb.os.trans h.os, hb.tape.trans h.tape, hb.output.trans h.output, Nat.le_trans h.size hb.size, fun k hk hne => (hb.block k (Nat.lt_of_lt_of_le hk h.size)).trans (h.block k hk hne)⟩
theorem gb_set {a w : World} {g : Nat} (h : a.grownBy w (some g)) (i : Nat) (v : Value) : a.grownBy (w.setCell ⟨g, i, none⟩ v) (some g) := ⟨h.os, h.tape, h.output, by rw [World.size_setCell]; exact h.size, fun k hk hne => (Below.heap_setCell w ⟨g, i, none⟩ v k (fun e => hne (by rw [e]))).trans (h.block k hk hne)⟩
theorem nostr_zero (j : Nat) (s : ByteArray) : (#[Value.slice none 0 0, .slice none 0 0, .slice none 0 0] : Array Value)[j]? ≠ some (Value.string s) := by
  match j with
  | 0 => simp
  | 1 => simp
  | 2 => simp
  | j + 3 => simp
theorem made_row {w : World} {B G ni : Nat} (hrow : w.ownsRow B 33 3 (.slice (some ⟨G, 0, none⟩) ni ni) ni (madeCells #[Value.int .i64 0, .int .i64 0, .slice none 0 0] (ni * 3)).toList) : ∃ cs, w.heap[G]? = some (.cells cs 33 (0, 0)) ∧ cs.size = ni * 3 ∧ ∀ (j : Nat) (s : ByteArray), cs[j]? ≠ some (Value.string s) := by
  rcases hrow.2 with ⟨h, _⟩ | ⟨g', cap, cur, hv, _, hh, _, _, hsz, htk⟩
  · cases h
  · injection hv with h1 _ h3
    injection h1 with h1
    injection h1 with h1
    subst h1 h3
    refine ⟨cur, hh, hsz, fun j s => ?_⟩
    have h5 : cur.toList = (madeCells #[Value.int .i64 0, .int .i64 0, .slice none 0 0] (ni * 3)).toList := by
      rw [← htk, List.take_of_length_le (by rw [Array.length_toList, hsz]; exact Nat.le_refl _)]
    rw [Array.toList_inj.1 h5]
    exact nostr_made _ _ _
/-- a copy of a world: its generations and its row of items are the call's own, the components lie beyond S -/
def WCopyPost (y : WorldV) (nk ng ni : Nat) (W : World) (e : Ending) (w' : World) : Prop := ∃ ak vg G S, e = .returned (.agg #[.slice ak nk nk, vg, .slice (some ⟨G, 0, none⟩) ni ni]) ∧ SlAt 2 KindAt w' ak y.kinds ∧
  w'.ownsRow W.heap.size 3 1 vg ng (vints .i64 y.gens) ∧ (∀ g, vg.ownBlock = some g → g < S ∧ NoStr w' g) ∧ W.heap.size ≤ G ∧ G < S ∧ Blk w' G 33 (ni * 3) ∧ (∀ j (h : j < y.items.length), ItemNew G S w' (j * 3) y.items[j]) ∧ Below W.heap.size W w'
theorem WCopyPost.world {y : WorldV} {W w' : World} {e : Ending} (h : WCopyPost y y.kinds.length y.gens.length y.items.length W e w') (hk : y.kinds.length ≤ 1048576) : (∃ v, e = .returned v ∧ WorldIn w' v y) ∧ Below W.heap.size W w' := by
  obtain ⟨ak, vg, G, S, rfl, h1, h2, _, _, _, h6, h7, h8⟩ := h
  refine ⟨⟨_, rfl, ?_⟩, h8⟩
  have hv : ∃ ag cg, vg = .slice ag y.gens.length cg := by
    rcases h2.2 with ⟨rfl, h0⟩ | ⟨g, cap, cur, rfl, _⟩
    · exact ⟨none, 0, by rw [h0]⟩
    · exact ⟨_, _, rfl⟩
  obtain ⟨ag, cg, rfl⟩ := hv
  refine ⟨ak, _, ag, cg, _, _, rfl, h1, IntsAt.of_own h2 rfl, fun _ => ⟨_, rfl, h6.lt, fun i hi => ?_⟩, Nat.le_refl _, by omega⟩
  rw [Addr.add_lit, Nat.zero_add]
  exact (h7 i hi).at_
end Go.Proofs.Ytpilpkbblkhnaaa
end
/- The reference's Flat and its Close. -/
section
namespace Go.Proofs.Ytpilpkbblkhnaaa
open Go.ChangeShapes Go.WideShapes Go.ChangeAt Go.RowKit Go.Nm Go.Mem Go.Maps
set_option linter.unusedVariables false
end Go.Proofs.Ytpilpkbblkhnaaa
end
