/- Lemmas for the law WorldSpawns: WBound, WSpawnsL. No conditions. -/
import Derived.Test.YtfckbkhnelgjbaaGreatDoorM14
import Derived.Test.YtfckbkhnelgjbaaGreatDoorM27
import Derived.Lib.SmallJoins
/- Bounds of a world's parts out of its bulk. -/
section
namespace Go.Proofs.YtfckbkhnelgjbaaGreatDoor
open Go.RowKit Go.ChangeShapes Go.WideShapes Go.Deep Go.Mem
set_option linter.unusedVariables false
theorem sumB_at {α : Type} (f : α → Nat) : ∀ (l : List α) (x : α), x ∈ l → f x ≤ (l.map f).sum
  | y :: l, x, h => by
    rcases List.mem_cons.1 h with rfl | h
    · simp
    · have := sumB_at f l x h; simp only [List.map_cons, List.sum_cons]; omega
theorem sumB_len {α : Type} (f : α → Nat) (h : ∀ x, 1 ≤ f x) : ∀ l : List α, l.length ≤ (l.map f).sum
  | [] => Nat.le_refl _
  | x :: l => by have := sumB_len f h l; have := h x; simp only [List.map_cons, List.sum_cons, List.length_cons]; omega
theorem comps_bound {l : List CompV} {N : Nat} (h : (l.map costComp).sum ≤ N) : l.length ≤ N ∧ ∀ z ∈ l, z.vals.length ≤ N := by
  refine ⟨Nat.le_trans (sumB_len costComp (fun x => by unfold costComp; omega) l) h, fun z hz => ?_⟩
  have := sumB_at costComp l z hz
  unfold costComp at this h
  omega
theorem world_bound {y : WorldV} {N : Nat} (h : costWorld y ≤ N) (hN : N ≤ 1048576) : SmallW y ∧ ∀ k ∈ y.kinds, k.fields.length ≤ 1048576 := by
  unfold costWorld at h
  have h1 := sumB_len costKind (fun x => by unfold costKind; omega) y.kinds
  have h2 := sumB_len costItem (fun x => by unfold costItem; omega) y.items
  refine ⟨⟨by omega, by omega, by omega, fun z hz => ?_⟩, fun k hk => ?_⟩
  · have h3 := sumB_at costItem y.items z hz
    unfold costItem at h3 h
    obtain ⟨a, b⟩ := comps_bound (l := z.comps) (N := N) (by omega)
    exact ⟨by omega, fun c hc => by have := b c hc; omega⟩
  · have h3 := sumB_at costKind y.kinds k hk
    have h4 := sumB_len costField (fun x => by unfold costField; omega) k.fields
    unfold costKind at h3 h
    omega
end Go.Proofs.YtfckbkhnelgjbaaGreatDoor
end
/- WorldSpawns: the law, its arguments opened. -/
section
namespace Go.Proofs.YtfckbkhnelgjbaaGreatDoor
open Go.ChangeShapes Go.WideShapes Go.ChangeAt Go.RowKit Go.Nm Go.Mem
set_option linter.unusedVariables false
set_option maxRecDepth 100000 in
theorem open_world {H : Type} {enc : TypeId × Value → H} {w : World} {base b0 : Nat} {r : Reach} {spare : Nat → Bool} {held : Bool} {v : Value} {d : DataW H} {p : List MemPlace} (hv : Value.okWide Tryz.prog w r b0 26 v) (h : DataW.Trod enc Tryz.prog w base spare held 26 v d p) :
    ∃ y, WorldIn w v y ∧ costWorld y ≤ Rows.uptoBulk d := by
  obtain ⟨cs, rfl, hsz⟩ := okWide_struct Tryz.underlying26 hv
  obtain ⟨fuel, hf⟩ := h
  have hs3 : cs.toList.length = 3 := by rw [Array.length_toList, hsz]; kernel_rfl
  obtain ⟨y, ⟨v0, v1, v2, e, hw⟩, hc⟩ := read_world (cs := cs.toList) (x := (d, p)) hs3 hf
  have : cs = #[v0, v1, v2] := Array.toList_inj.1 e
  subst this
  exact ⟨y, hw, hc⟩
set_option maxRecDepth 100000 in
theorem law_WorldSpawns {H : Type} {enc : TypeId × Value → H} (W : World) {base : Nat} {r : Reach} {v0 v1 : Value} {d0 d1 : DataW H} {p0 p1 : List MemPlace} {ds : List (DataW H)} (o0 : Value.okWide Tryz.prog W r base 26 v0) (k0 : DataW.Trod enc Tryz.prog W 0 (fun _ => true) true 26 v0 d0 p0)
    (o1 : Value.okWide Tryz.prog W r base 27 v1) (k1 : DataW.Trod enc Tryz.prog W 0 (fun _ => true) true 27 v1 d1 p1) (hk : Rows.uptoSmall H ds = true) (hd0 : d0 ∈ ds) (hd1 : d1 ∈ ds) :
    Calls Tryz.prog 3 #[v0, v1] W fun e w' => e = .returned (.bool true) ∧ Below W.heap.size W w' := by
  obtain ⟨y, hy, cy⟩ := open_world o0 k0
  have h1 := Bulk.mem hd0
  have h2 := Bulk.mem hd1
  have h3 := of_decide_eq_true hk
  obtain ⟨al, len, cl, rfl⟩ := okWide_slice Tryz.underlying27 o1
  obtain ⟨fuel1, hf1⟩ := k1
  obtain ⟨al', l, cl', hcs, hlc, _, hz, hb⟩ := read_comps hf1
  simp [Value.cells] at hcs
  obtain ⟨rfl, rfl, rfl⟩ := hcs
  simp only at hb
  obtain ⟨w1, w2⟩ := world_bound (y := y) (N := 1048576) (by omega) (Nat.le_refl _)
  obtain ⟨b1, b2⟩ := comps_bound (l := l) (N := 1048576) (by omega)
  exact walk_WorldSpawns y l v0 al l.length cl W hy w1 w2 rfl b1 hlc b2 hz sorts_comps
end Go.Proofs.YtfckbkhnelgjbaaGreatDoor
end
