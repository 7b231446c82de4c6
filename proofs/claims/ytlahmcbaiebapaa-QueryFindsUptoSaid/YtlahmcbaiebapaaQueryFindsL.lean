/- The law QueryFinds: its arguments, read. -/
import Derived.Test.YtlahmcbaiebapaaQLaw
import Derived.Test.YtlahmcbaiebapaaRd
namespace Go.Proofs.Ytlahmcbaiebapaa
open Go.ChangeShapes Go.WideShapes Go.ChangeAt Go.RowKit Go.Deep Go.Mem Go.Slt
set_option linter.unusedVariables false
section
variable {H : Type} {enc : TypeId × Value → H} {w : World} {base : Nat} {spare : Nat → Bool} {held : Bool}
def CompW (w : World) (p : Addr) (y : CompV) : Prop := CompAt w p y ∧ (Lit.int .i64 y.kind).wf = true
def ItemW (w : World) (p : Addr) (y : ItemV) : Prop := ItemAt w p y ∧ ∀ c ∈ y.comps, (Lit.int .i64 c.kind).wf = true
theorem slAt_split {α : Type} {k : Nat} {E : World → Addr → α → Prop} {Q : α → Prop} {a : Option Addr} {l : List α} (h : SlAt k (fun w p y => E w p y ∧ Q y) w a l) : SlAt k E w a l ∧ ∀ y ∈ l, Q y := by
  refine ⟨fun h0 => ?_, fun y hy => ?_⟩
  · obtain ⟨x, e, hx, hi⟩ := h h0
    exact ⟨x, e, hx, fun i hi' => (hi i hi').1⟩
  · obtain ⟨i, hi', rfl⟩ := List.getElem_of_mem hy
    obtain ⟨x, e, hx, hi⟩ := h (by omega)
    exact (hi i hi').2
set_option maxRecDepth 100000 in
theorem read_compW (fuel : Nat) (cs : List Value) (x : DataW H × List MemPlace) (p : Addr) (hl : cs.length = 2) (hc : ∀ j, j < 2 → w.cell? (p.add j) = cs[j]?) (ht : DataW.trod enc Try.prog w base spare held fuel 84 cs = some x) : ∃ y, (CompAt w p y ∧ (Lit.int .i64 y.kind).wf = true) ∧ costComp y ≤ Rows.uptoBulk x.1 := by
  obtain ⟨xs, n, _, rfl, _, hxl, hf⟩ := DataW.trod_struct Try.underlying84 ht
  match cs, hl with
  | [v0, v1], _ =>
    have g0 : DataW.trod enc Try.prog w base spare held n 3 (([v0, v1].drop 0).take (Try.prog.cellsOf 3)) = xs[0]? := hf 0 _ rfl
    have g1 : DataW.trod enc Try.prog w base spare held n 23 (([v0, v1].drop 1).take (Try.prog.cellsOf 23)) = xs[1]? := hf 1 _ rfl
    rw [show Try.prog.cellsOf 3 = 1 by kernel_rfl] at g0
    rw [show Try.prog.cellsOf 23 = 1 by kernel_rfl] at g1
    match xs, hxl with
    | [y0, y1], _ =>
      obtain ⟨z, e0, _, hz⟩ := DataW.trod_int Try.underlying3 (show DataW.trod enc Try.prog w base spare held n 3 [v0] = some y0 from g0)
      obtain ⟨a, l, cap, e1, _, _, h4, h5⟩ := read_ints (show DataW.trod enc Try.prog w base spare held n 23 [v1] = some y1 from g1)
      injection e0 with e0; injection e1 with e1
      subst e0 e1
      have c0 := hc 0 (by decide)
      have c1 := hc 1 (by decide)
      have hb : Rows.uptoBulk y1.1 + 1 ≤ Rows.uptoBulk (.agg ([y0, y1].map (·.1))) := agg_bulk (xs := [y0, y1]) (i := 1) (y := y1) rfl
      exact ⟨⟨z, l⟩, ⟨⟨by simpa [Addr.add] using c0, a, cap, by simpa [Addr.add] using c1, h4⟩, hz⟩, by unfold costComp; simp only at hb ⊢; omega⟩
set_option maxRecDepth 100000 in
theorem read_itemW (fuel : Nat) (cs : List Value) (x : DataW H × List MemPlace) (p : Addr) (hl : cs.length = 3) (hc : ∀ j, j < 3 → w.cell? (p.add j) = cs[j]?) (ht : DataW.trod enc Try.prog w base spare held fuel 80 cs = some x) : ∃ y, (ItemAt w p y ∧ ∀ c ∈ y.comps, (Lit.int .i64 c.kind).wf = true) ∧ costItem y ≤ Rows.uptoBulk x.1 := by
  obtain ⟨xs, n, _, rfl, _, hxl, hf⟩ := DataW.trod_struct Try.underlying80 ht
  match cs, hl with
  | [v1, v2, v4], _ =>
    have g1 : DataW.trod enc Try.prog w base spare held n 55 (([v1, v2, v4].drop 0).take (Try.prog.cellsOf 55)) = xs[0]? := hf 0 _ rfl
    have g3 : DataW.trod enc Try.prog w base spare held n 78 (([v1, v2, v4].drop 2).take (Try.prog.cellsOf 78)) = xs[1]? := hf 1 _ rfl
    rw [show Try.prog.cellsOf 55 = 2 by kernel_rfl] at g1
    rw [show Try.prog.cellsOf 78 = 1 by kernel_rfl] at g3
    match xs, hxl with
    | [y1, y3], _ =>
      obtain ⟨us, m, _, _, _, hul, hu⟩ := DataW.trod_struct Try.underlying55 (show DataW.trod enc Try.prog w base spare held n 55 [v1, v2] = some y1 from g1)
      have u0 : DataW.trod enc Try.prog w base spare held m 3 (([v1, v2].drop 0).take (Try.prog.cellsOf 3)) = us[0]? := hu 0 _ rfl
      have u1 : DataW.trod enc Try.prog w base spare held m 3 (([v1, v2].drop 1).take (Try.prog.cellsOf 3)) = us[1]? := hu 1 _ rfl
      rw [show Try.prog.cellsOf 3 = 1 by kernel_rfl] at u0 u1
      match us, hul with
      | [q0, q1], _ =>
        obtain ⟨n0, f0, _, _⟩ := DataW.trod_int Try.underlying3 (show DataW.trod enc Try.prog w base spare held m 3 [v1] = some q0 from u0)
        obtain ⟨n1, f1, _, _⟩ := DataW.trod_int Try.underlying3 (show DataW.trod enc Try.prog w base spare held m 3 [v2] = some q1 from u1)
        obtain ⟨a, l, cap, e3, _, _, h4, h5⟩ := read_slice (E := fun w p y => CompAt w p y ∧ (Lit.int .i64 y.kind).wf = true) (cost := costComp) Try.underlying78 (show Try.prog.cellsOf 84 = 2 by kernel_rfl) (by decide) read_compW (show DataW.trod enc Try.prog w base spare held n 78 [v4] = some y3 from g3)
        injection e3 with e3; injection f0 with f0; injection f1 with f1
        subst e3 f0 f1
        have c0 := hc 0 (by decide)
        have c1 := hc 1 (by decide)
        have c2 := hc 2 (by decide)
        have hb : Rows.uptoBulk y3.1 + 1 ≤ Rows.uptoBulk (.agg ([y1, y3].map (·.1))) := agg_bulk (xs := [y1, y3]) (i := 1) (y := y3) rfl
        obtain ⟨s1, s2⟩ := slAt_split h4
        exact ⟨⟨n0, n1, l⟩, ⟨⟨by simpa [Addr.add] using c0, by simpa [Addr.add] using c1, a, cap, by simpa [Addr.add] using c2, s1⟩, s2⟩, by unfold costItem; simp only at hb ⊢; omega⟩
/-- a slice, whatever its elements -/
theorem slice_form {P : Program} {t e : TypeId} (ht : P.underlying t = some (.slice e)) {fuel : Nat} {v : Value} {x : DataW H × List MemPlace} (h : DataW.trod enc P w base spare held fuel t [v] = some x) : ∃ a n c, v = .slice a n c := by
  rcases DataW.trod_slice ht h with ⟨e, _⟩ | ⟨a, n, c, _, _, _, _, e, _⟩
  · injection e with e; exact ⟨_, _, _, e⟩
  · injection e with e; exact ⟨_, _, _, e⟩
set_option maxRecDepth 100000 in
theorem read_worldI {fuel : Nat} {cs : List Value} {x : DataW H × List MemPlace} (hl : cs.length = 3) (ht : DataW.trod enc Try.prog w base spare held fuel 70 cs = some x) :
    ∃ its, (∃ v0 v1 v2, cs = [v0, v1, v2] ∧ WorldI w (.agg #[v0, v1, v2]) its) ∧ (∀ y ∈ its, ∀ c ∈ y.comps, (Lit.int .i64 c.kind).wf = true) ∧ (its.map costItem).sum + 1 ≤ Rows.uptoBulk x.1 := by
  obtain ⟨xs, n, _, rfl, _, hxl, hf⟩ := DataW.trod_struct Try.underlying70 ht
  match cs, hl with
  | [v0, v1, v2], _ =>
    have g0 : DataW.trod enc Try.prog w base spare held n 67 (([v0, v1, v2].drop 0).take (Try.prog.cellsOf 67)) = xs[0]? := hf 0 _ rfl
    have g1 : DataW.trod enc Try.prog w base spare held n 23 (([v0, v1, v2].drop 1).take (Try.prog.cellsOf 23)) = xs[1]? := hf 1 _ rfl
    have g2 : DataW.trod enc Try.prog w base spare held n 68 (([v0, v1, v2].drop 2).take (Try.prog.cellsOf 68)) = xs[2]? := hf 2 _ rfl
    rw [show Try.prog.cellsOf 67 = 1 by kernel_rfl] at g0
    rw [show Try.prog.cellsOf 23 = 1 by kernel_rfl] at g1
    rw [show Try.prog.cellsOf 68 = 1 by kernel_rfl] at g2
    match xs, hxl with
    | [y0, y1, y2], _ =>
      obtain ⟨ak, nk, ck, rfl⟩ := slice_form Try.underlying67 (show DataW.trod enc Try.prog w base spare held n 67 [v0] = some y0 from g0)
      obtain ⟨ag, ng, cg, rfl⟩ := slice_form Try.underlying23 (show DataW.trod enc Try.prog w base spare held n 23 [v1] = some y1 from g1)
      obtain ⟨ai, li, ci, e2, _, _, i1, i2⟩ := read_slice (E := fun w p y => ItemAt w p y ∧ ∀ c ∈ y.comps, (Lit.int .i64 c.kind).wf = true) (cost := costItem) Try.underlying68 (show Try.prog.cellsOf 80 = 3 by kernel_rfl) (by decide) read_itemW (show DataW.trod enc Try.prog w base spare held n 68 [v2] = some y2 from g2)
      injection e2 with e2
      subst e2
      obtain ⟨s1, s2⟩ := slAt_split i1
      refine ⟨li, ⟨_, _, _, rfl, ak, nk, ck, ag, ng, cg, ai, ci, rfl, s1⟩, s2, ?_⟩
      simp only [List.map_cons, List.map_nil, Rows.uptoBulk, Rows.uptoBulkAll]
      omega
end
theorem sum_at {α : Type} (f : α → Nat) : ∀ (l : List α) (x : α), x ∈ l → f x ≤ (l.map f).sum
  | y :: l, x, h => by
    rcases List.mem_cons.1 h with rfl | h
    · simp
    · have := sum_at f l x h; simp only [List.map_cons, List.sum_cons]; omega
theorem len_sum {α : Type} (f : α → Nat) (h : ∀ x, 1 ≤ f x) : ∀ l : List α, l.length ≤ (l.map f).sum
  | [] => Nat.le_refl _
  | x :: l => by have := len_sum f h l; have := h x; simp only [List.map_cons, List.sum_cons, List.length_cons]; omega
theorem flat_sum {α β : Type} (g : α → List β) (f : α → Nat) (h : ∀ x, (g x).length ≤ f x) : ∀ l : List α, (l.flatMap g).length ≤ (l.map f).sum
  | [] => Nat.le_refl _
  | x :: l => by have := flat_sum g f h l; have := h x; simp only [List.flatMap_cons, List.length_append, List.map_cons, List.sum_cons]; omega
theorem smallI_of {its : List ItemV} (h : (its.map costItem).sum ≤ 1048576) : SmallI its := by
  refine ⟨Nat.le_trans (len_sum costItem (fun x => by unfold costItem; omega) its) h, fun y hy => ?_⟩
  have h1 := sum_at costItem its y hy
  unfold costItem at h1
  have h2 := len_sum costComp (fun x => by unfold costComp; omega) y.comps
  refine ⟨by unfold costItem at h; omega, fun c hc => ?_⟩
  have h3 := sum_at costComp y.comps c hc
  unfold costItem at h
  unfold costComp at h3 h1 h
  omega
theorem fdA_len (rk rf : Int) (its : List ItemV) : (fdA rk rf its).length ≤ (its.map costItem).sum := by
  unfold fdA
  refine flat_sum _ _ (fun y => ?_) its
  unfold fdI costItem
  have := flat_sum (fd rk rf y) costComp (fun c => by unfold fd costComp; split <;> simp) y.comps
  omega
set_option maxRecDepth 100000 in
theorem law_QueryFinds {H : Type} {enc : TypeId × Value → H} (a1 a2 : Option Addr) (len1 len2 cap1 cap2 : Nat) (z1 z2 : List Int) (W : World) (w1 : IsRow .i64 W a1 len1 cap1 z1) (w2 : IsRow .i64 W a2 len2 cap2 z2) (b1 : len1 ≤ 1048576) (b2 : len2 ≤ 1048576)
    {base : Nat} {r : Reach} {v0 v3 : Value} {d0 d3 : DataW H} {p0 p3 : List MemPlace} {ds : List (DataW H)} (o0 : Value.okWide Try.prog W r base 70 v0) (k0 : DataW.Trod enc Try.prog W 0 (fun _ => true) true 70 v0 d0 p0)
    (o3 : Value.okWide Try.prog W r base 72 v3) (k3 : DataW.Trod enc Try.prog W 0 (fun _ => true) true 72 v3 d3 p3) (hk : Rows.uptoSmall H ds = true) (hd0 : d0 ∈ ds) :
    Calls Try.prog 5 #[v0, .slice a1 len1 cap1, .slice a2 len2 cap2, v3] W fun e w' => e = .returned (.bool true) ∧ Below W.heap.size W w' := by
  obtain ⟨cs, rfl, hsz⟩ := okWide_struct Try.underlying70 o0
  obtain ⟨fuel, hf⟩ := k0
  have hs3 : cs.toList.length = 3 := by rw [Array.length_toList, hsz]; kernel_rfl
  obtain ⟨its, ⟨u0, u1, u2, e, hw⟩, hwc, hc⟩ := read_worldI (cs := cs.toList) (x := (d0, p0)) hs3 hf
  have : cs = #[u0, u1, u2] := Array.toList_inj.1 e
  subst this
  obtain ⟨cs3, rfl, hsz3⟩ := okWide_struct Try.underlying72 o3
  obtain ⟨fuel3, hf3⟩ := k3
  have hs2 : cs3.toList.length = 2 := by rw [Array.length_toList, hsz3]; kernel_rfl
  obtain ⟨rk, rf, he⟩ : ∃ rk rf, cs3.toList = [.int .i64 rk, .int .i64 rf] := by
    have hf3' : DataW.trod enc Try.prog W 0 (fun _ => true) true fuel3 72 cs3.toList = some (d3, p3) := hf3
    obtain ⟨xs, n, _, _, _, hxl, hfs⟩ := DataW.trod_struct Try.underlying72 hf3'
    match h : cs3.toList, hs2 with
    | [t0, t1], _ =>
      rw [h] at hfs
      have g0 : DataW.trod enc Try.prog W 0 (fun _ => true) true n 3 (([t0, t1].drop 0).take (Try.prog.cellsOf 3)) = xs[0]? := hfs 0 _ rfl
      have g1 : DataW.trod enc Try.prog W 0 (fun _ => true) true n 3 (([t0, t1].drop 1).take (Try.prog.cellsOf 3)) = xs[1]? := hfs 1 _ rfl
      rw [show Try.prog.cellsOf 3 = 1 by kernel_rfl] at g0 g1
      match xs, hxl with
      | [q0, q1], _ =>
        obtain ⟨n0, f0, _, _⟩ := DataW.trod_int Try.underlying3 (show DataW.trod enc Try.prog W 0 (fun _ => true) true n 3 [t0] = some q0 from g0)
        obtain ⟨n1, f1, _, _⟩ := DataW.trod_int Try.underlying3 (show DataW.trod enc Try.prog W 0 (fun _ => true) true n 3 [t1] = some q1 from g1)
        injection f0 with f0; injection f1 with f1
        exact ⟨n0, n1, by rw [f0, f1]⟩
  have : cs3 = #[.int .i64 rk, .int .i64 rf] := Array.toList_inj.1 he
  subst this
  have h1 := Bulk.mem hd0
  have hc : (its.map costItem).sum + 1 ≤ Rows.uptoBulk d0 := hc
  have h3 := of_decide_eq_true hk
  have hsm : (its.map costItem).sum ≤ 1048576 := by omega
  exact walk_QueryFinds its _ a1 a2 len1 cap1 len2 cap2 (z1.take len1) (z2.take len2) rk rf w1.len w2.len (by omega) (by omega) (smallI_of hsm) (Nat.le_trans (fdA_len _ _ _) hsm) hwc w1.wf w2.wf W hw (IntsAt.of_row w1) (IntsAt.of_row w2)
end Go.Proofs.Ytlahmcbaiebapaa
