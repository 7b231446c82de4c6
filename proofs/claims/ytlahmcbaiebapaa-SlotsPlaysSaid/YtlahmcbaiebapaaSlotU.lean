/- Slots: the room's Take. By program (gen_slots4.py). -/
import Derived.Test.YtlahmcbaiebapaaSlotF
import Derived.Test.YtlahmcbaiebapaaRegSt2
namespace Go.Slt
open Go.Mem Go.Sp
/-- The search from above. -/
def DownL (G : List Int) (B : List Bool) (i : Nat) (q : Int) : Prop := (∃ x : Nat, q = x ∧ i ≤ x ∧ x < G.length ∧ av G B x = true ∧ ∀ j, i ≤ j → j < x → av G B j = false) ∨ (q = -1 ∧ ∀ j, i ≤ j → j < G.length → av G B j = false)
variable {G : List Int} {B : List Bool} {i n : Nat} {q : Int}
theorem DownL.start (G : List Int) (B : List Bool) (i : Nat) (h : G.length ≤ i) : DownL G B i (-1) := .inr ⟨rfl, fun j h1 h2 => by omega⟩
theorem DownL.hit (h : av G B i = true) (hi : i < G.length) : DownL G B i (i : Int) := .inl ⟨i, rfl, Nat.le_refl _, hi, h, fun j h1 h2 => by omega⟩
theorem DownL.miss (h : DownL G B (i + 1) q) (ha : av G B i = false) : DownL G B i q := by
  rcases h with ⟨x, h1, h2, h3, h4, h5⟩ | ⟨h1, h2⟩
  · refine .inl ⟨x, h1, by omega, h3, h4, fun j j1 j2 => ?_⟩
    by_cases e : j = i
    · rw [e]; exact ha
    · exact h5 j (by omega) j2
  · refine .inr ⟨h1, fun j j1 j2 => ?_⟩
    by_cases e : j = i
    · rw [e]; exact ha
    · exact h2 j (by omega) j2
theorem DownL.least (h : DownL G B 0 q) (hn : Least G B n) : (q = -1 ∧ n = G.length) ∨ (q = (n : Int) ∧ n < G.length) := by
  rcases h with ⟨x, h1, h2, h3, h4, h5⟩ | ⟨h1, h2⟩
  · have := least_uniq hn ⟨by omega, fun _ => h4, fun j hj => h5 j (by omega) hj⟩
    exact .inr ⟨by omega, by omega⟩
  · refine .inl ⟨h1, ?_⟩
    exact least_uniq hn ⟨Nat.le_refl _, fun h => by omega, fun j hj => h2 j (by omega) hj⟩
theorem av_true {G : List Int} {B : List Bool} {i : Nat} (h : i < G.length) (hb : B.getD i false = false) (hg : G.getD i 0 < 1073741824) : av G B i = true := by unfold av; rw [hb, decide_eq_true h, decide_eq_true hg]; rfl
theorem av_used {G : List Int} {B : List Bool} {i : Nat} (hb : B.getD i false = true) : av G B i = false := by unfold av; rw [hb]; simp
theorem av_old {G : List Int} {B : List Bool} {i : Nat} (hg : ¬ G.getD i 0 < 1073741824) : av G B i = false := by unfold av; rw [decide_eq_false hg]; simp
theorem takeB_set (B : List Bool) (n : Nat) (h : n = B.length) : (B ++ [false]).set n true = takeB B n := by
  unfold takeB; rw [if_pos h, h]; simp
end Go.Slt
namespace Go.Proofs.Ytlahmcbaiebapaa
open Go.ChangeShapes Go.WideShapes Go.ChangeAt Go.RowKit Go.Mem Go.Sp Go.Slt
set_option linter.unusedVariables false
variable {w w' W0 : World} {D s r : Nat} {vg vu vf vb vh : Value} {G : List Int} {B : List Bool} {U F : List Nat}
/-- What the region of the two appends has made of the world. -/
structure TkSt (W0 : World) (D r : Nat) (vg vb : Value) (G : List Int) (B : List Bool) (S : Nat → Option Value) (w : World) : Prop where
  gr : GrP (RmP r vg vb) W0 w
  e6 : S 7 = none → ∀ v, S 6 = some v → ∃ g, v = .slice (some ⟨g, 0, none⟩) 1 1 ∧ W0.heap.size ≤ g ∧ w.heap[g]? = some (.cells #[.bool false] 4 (0, 0))
  e12 : S 13 = none → ∀ v, S 12 = some v → ∃ g, v = .slice (some ⟨g, 0, none⟩) 1 1 ∧ W0.heap.size ≤ g ∧ w.heap[g]? = some (.cells #[.int .i64 0] 3 (0, 0))
  u0 : S 7 = none → w.ownsRow D 4 1 vb B.length (vbools B)
  u1 : ∀ v, S 7 = some v → w.ownsRow D 4 1 v (B.length + 1) (vbools (B ++ [false])) ∧ ∀ k, v.ownBlock = some k → vb.ownBlock = some k ∨ W0.heap.size ≤ k
  g0 : S 13 = none → w.ownsRow D 3 1 vg G.length (vints .i64 G)
  g1 : ∀ v, S 13 = some v → w.ownsRow D 3 1 v (G.length + 1) (vints .i64 (G ++ [0])) ∧ ∀ k, v.ownBlock = some k → vg.ownBlock = some k ∨ W0.heap.size ≤ k
  c : ∃ x y, w.heap[r]? = some (.cells #[x, y] 65 (0, 0)) ∧ (S 19 = none → x = vg) ∧ (∀ v, S 19 = some v → S 13 = some x) ∧ (S 16 = none → y = vb) ∧ (∀ v, S 16 = some v → S 7 = some y)
theorem TkSt.init (h : Rm w D r vg vb G B) : TkSt w D r vg vb G B (fun _ => none) w.drew :=
  ⟨(GrP.refl _ _).drew, fun _ v h => (by cases h), fun _ v h => (by cases h), fun _ => h.used, fun v h => (by cases h), fun _ => h.gens, fun v h => (by cases h), _, _, h.block, fun _ => rfl, fun v h => (by cases h), fun _ => rfl, fun v h => (by cases h)⟩
theorem TkSt.congr (S S' : Nat → Option Value) (w : World) (hs : ∀ j ∈ [6, 7, 12, 13, 16, 19], S j = S' j) (h : TkSt W0 D r vg vb G B S w) : TkSt W0 D r vg vb G B S' w := by
  have h6 := hs 6 (by decide); have h7 := hs 7 (by decide); have h12 := hs 12 (by decide); have h13 := hs 13 (by decide); have h16 := hs 16 (by decide); have h19 := hs 19 (by decide)
  obtain ⟨a1, a2, a3, a4, a5, a6, a7, a8⟩ := h
  rw [h6, h7] at a2
  rw [h12, h13] at a3
  rw [h7] at a4 a5
  rw [h13] at a6 a7
  rw [h7, h13, h16, h19] at a8
  exact ⟨a1, a2, a3, a4, a5, a6, a7, a8⟩
/-- A world that grew by new blocks alone. -/
theorem TkSt.below {S : Nat → Option Value} (h : TkSt W0 D r vg vb G B S w) (hb : Below w.heap.size w w') : TkSt W0 D r vg vb G B S w' := by
  obtain ⟨a1, a2, a3, a4, a5, a6, a7, x, y, a8, a9⟩ := h
  refine ⟨a1.then hb, fun h v hv => ?_, fun h v hv => ?_, fun h => own_below (a4 h) hb, fun v hv => ⟨own_below (a5 v hv).1 hb, (a5 v hv).2⟩, fun h => own_below (a6 h) hb, fun v hv => ⟨own_below (a7 v hv).1 hb, (a7 v hv).2⟩, x, y, heap_below a8 hb, a9⟩
  · obtain ⟨g, h1, h2, h3⟩ := a2 h v hv
    exact ⟨g, h1, h2, heap_below h3 hb⟩
  · obtain ⟨g, h1, h2, h3⟩ := a3 h v hv
    exact ⟨g, h1, h2, heap_below h3 hb⟩
theorem TkSt.s6 {S : Nat → Option Value} (h : TkSt W0 D r vg vb G B S w) : TkSt W0 D r vg vb G B (upd S 6 (.slice (some ⟨w.heap.size, 0, none⟩) 1 1)) (w.alloc (.cells #[.bool false] 4 (0, 0))) := by
  have h2 := h.below ((Below.refl _ _).alloc (Nat.le_refl _) (.cells #[.bool false] 4 (0, 0)))
  refine ⟨h2.gr, fun _ v hv => ?_, h2.e12, h2.u0, h2.u1, h2.g0, h2.g1, h2.c⟩
  rw [upd_same] at hv
  injection hv with hv
  exact ⟨_, hv.symm, h.gr.size, heap_alloc_new _ _⟩
theorem TkSt.s12 {S : Nat → Option Value} (h : TkSt W0 D r vg vb G B S w) : TkSt W0 D r vg vb G B (upd S 12 (.slice (some ⟨w.heap.size, 0, none⟩) 1 1)) (w.alloc (.cells #[.int .i64 0] 3 (0, 0))) := by
  have h2 := h.below ((Below.refl _ _).alloc (Nat.le_refl _) (.cells #[.int .i64 0] 3 (0, 0)))
  refine ⟨h2.gr, h2.e6, fun _ v hv => ?_, h2.u0, h2.u1, h2.g0, h2.g1, h2.c⟩
  rw [upd_same] at hv
  injection hv with hv
  exact ⟨_, hv.symm, h.gr.size, heap_alloc_new _ _⟩
theorem TkSt.s7 {S : Nat → Option Value} (h : TkSt W0 D r vg vb G B S w) (hv0 : ∀ k, vb.ownBlock = some k → k < W0.heap.size) (n7 : S 7 = none) (n13 : S 13 = none) (n16 : S 16 = none) {g c : Nat} (ho : w'.ownsRow D 4 1 (.slice (some ⟨g, 0, none⟩) (B.length + 1) c) (B.length + 1) (vbools B ++ #[Value.bool false].toList)) (hg : w.grownBy w' vb.ownBlock) (hor : vb.ownBlock = some g ∨ g = w.heap.size) :
    TkSt W0 D r vg vb G B (upd S 7 (.slice (some ⟨g, 0, none⟩) (B.length + 1) c)) w' := by
  obtain ⟨x, y, c1, c2, c3, c4, c5⟩ := h.c
  have hu := h.u0 n7
  have e : vbools B ++ #[Value.bool false].toList = vbools (B ++ [false]) := by simp [vbools]
  rw [e] at ho
  refine ⟨h.gr.gb' hg (fun k hk _ => .inr (.inr hk)), fun h7 => (by cases (show some _ = none from h7)), fun _ v hv => ?_, fun h7 => (by cases (show some _ = none from h7)), fun v hv => ?_, fun _ => own_grown (h.g0 n13) hg (fun k hk => own_other (h.g0 n13) hu (by decide) k hk), fun v hv => (by have := hv; rw [upd_ne _ _ _ _ (by decide), n13] at this; cases this), x, y, heap_gb c1 hg (fun e => own_ne hu c1 (by decide) r e.symm rfl), c2, c3, c4, fun v hv => (by have := hv; rw [upd_ne _ _ _ _ (by decide), n16] at this; cases this)⟩
  · obtain ⟨g2, h1, h2, h3⟩ := h.e12 n13 v hv
    exact ⟨g2, h1, h2, heap_gb h3 hg (fun e => by have := hv0 g2 e.symm; omega)⟩
  · rw [upd_same] at hv
    injection hv with hv
    subst hv
    refine ⟨ho, fun k hk => ?_⟩
    have hk : g = k := by simpa [Value.ownBlock] using hk
    subst hk
    rcases hor with h1 | h1
    · exact .inl h1
    · exact .inr (by rw [h1]; exact h.gr.size)
theorem TkSt.s13 {S : Nat → Option Value} (h : TkSt W0 D r vg vb G B S w) {v7 : Value} (n7 : S 7 = some v7) (n13 : S 13 = none) (n19 : S 19 = none) {g c : Nat} (ho : w'.ownsRow D 3 1 (.slice (some ⟨g, 0, none⟩) (G.length + 1) c) (G.length + 1) (vints .i64 G ++ #[Value.int .i64 0].toList)) (hg : w.grownBy w' vg.ownBlock) (hor : vg.ownBlock = some g ∨ g = w.heap.size) :
    TkSt W0 D r vg vb G B (upd S 13 (.slice (some ⟨g, 0, none⟩) (G.length + 1) c)) w' := by
  obtain ⟨x, y, c1, c2, c3, c4, c5⟩ := h.c
  have hu := h.g0 n13
  rw [vints_snoc] at ho
  refine ⟨h.gr.gb' hg (fun k hk _ => .inr (.inl hk)), fun h7 => (by have := h7; rw [upd_ne _ _ _ _ (by decide), n7] at this; cases this), fun h13 => (by cases (show some _ = none from h13)), fun h7 => (by have := h7; rw [upd_ne _ _ _ _ (by decide), n7] at this; cases this), fun v hv => ⟨own_grown (h.u1 v hv).1 hg (fun k hk => own_other (h.u1 v hv).1 hu (by decide) k hk), (h.u1 v hv).2⟩, fun h13 => (by cases (show some _ = none from h13)), fun v hv => ?_, x, y, heap_gb c1 hg (fun e => own_ne hu c1 (by decide) r e.symm rfl), c2, fun v hv => (by have := hv; rw [upd_ne _ _ _ _ (by decide), n19] at this; cases this), c4, c5⟩
  rw [upd_same] at hv
  injection hv with hv
  subst hv
  refine ⟨ho, fun k hk => ?_⟩
  have hk : g = k := by simpa [Value.ownBlock] using hk
  subst hk
  rcases hor with h1 | h1
  · exact .inl h1
  · exact .inr (by rw [h1]; exact h.gr.size)
theorem TkSt.s16 {S : Nat → Option Value} (h : TkSt W0 D r vg vb G B S w) {v7 v13 : Value} (n7 : S 7 = some v7) (n13 : S 13 = some v13) (n19 : S 19 = none) : TkSt W0 D r vg vb G B (upd S 16 undef) (w.setCell ⟨r, 1, none⟩ v7) := by
  obtain ⟨x, y, c1, c2, c3, c4, c5⟩ := h.c
  refine ⟨h.gr.set (.inl rfl) 1 v7, fun h7 => (by have := h7; rw [upd_ne _ _ _ _ (by decide), n7] at this; cases this), fun h13 => (by have := h13; rw [upd_ne _ _ _ _ (by decide), n13] at this; cases this), fun h7 => (by have := h7; rw [upd_ne _ _ _ _ (by decide), n7] at this; cases this), fun v hv => ⟨own_set (h.u1 v hv).1 (own_ne (h.u1 v hv).1 c1 (by decide)) _ _, (h.u1 v hv).2⟩, fun h13 => (by have := h13; rw [upd_ne _ _ _ _ (by decide), n13] at this; cases this), fun v hv => ⟨own_set (h.g1 v hv).1 (own_ne (h.g1 v hv).1 c1 (by decide)) _ _, (h.g1 v hv).2⟩, x, v7, by simpa using heap_set c1 1 v7, c2, c3, fun h16 => (by cases (show some _ = none from h16)), fun _ _ => n7⟩
theorem TkSt.s19 {S : Nat → Option Value} (h : TkSt W0 D r vg vb G B S w) {v7 v13 : Value} (n7 : S 7 = some v7) (n13 : S 13 = some v13) : TkSt W0 D r vg vb G B (upd S 19 undef) (w.setCell ⟨r, 0, none⟩ v13) := by
  obtain ⟨x, y, c1, c2, c3, c4, c5⟩ := h.c
  refine ⟨h.gr.set (.inl rfl) 0 v13, fun h7 => (by have := h7; rw [upd_ne _ _ _ _ (by decide), n7] at this; cases this), fun h13 => (by have := h13; rw [upd_ne _ _ _ _ (by decide), n13] at this; cases this), fun h7 => (by have := h7; rw [upd_ne _ _ _ _ (by decide), n7] at this; cases this), fun v hv => ⟨own_set (h.u1 v hv).1 (own_ne (h.u1 v hv).1 c1 (by decide)) _ _, (h.u1 v hv).2⟩, fun h13 => (by have := h13; rw [upd_ne _ _ _ _ (by decide), n13] at this; cases this), fun v hv => ⟨own_set (h.g1 v hv).1 (own_ne (h.g1 v hv).1 c1 (by decide)) _ _, (h.g1 v hv).2⟩, v13, y, by simpa using heap_set c1 0 v13, fun h19 => (by cases (show some _ = none from h19)), fun _ _ => n13, c4, c5⟩
theorem TkSt.done {S : Nat → Option Value} (h : TkSt W0 D r vg vb G B S w) (hr : Rm W0 D r vg vb G B) {v7 v13 v16 v19 : Value} (n7 : S 7 = some v7) (n13 : S 13 = some v13) (n16 : S 16 = some v16) (n19 : S 19 = some v19) : Rm w D r v13 v7 (G ++ [0]) (B ++ [false]) ∧ GrP (RmP r vg vb) W0 w ∧ (∀ k, v13.ownBlock = some k → vg.ownBlock = some k ∨ W0.heap.size ≤ k) ∧ (∀ k, v7.ownBlock = some k → vb.ownBlock = some k ∨ W0.heap.size ≤ k) := by
  obtain ⟨x, y, c1, -, c3, -, c5⟩ := h.c
  have hx := c3 _ n19
  have hy := c5 _ n16
  rw [n13] at hx
  rw [n7] at hy
  injection hx with hx
  injection hy with hy
  subst hx hy
  refine ⟨⟨c1, ?_, ?_, hr.dr, Nat.le_trans hr.dw h.gr.size⟩, h.gr, (h.g1 _ n13).2, (h.u1 _ n7).2⟩
  · rw [List.length_append]; exact (h.g1 _ n13).1
  · rw [List.length_append]; exact (h.u1 _ n7).1
def RTakePost (G : List Int) (B : List Bool) (D r : Nat) (vg vb : Value) (n : Nat) (w : World) (e : Ending) (w' : World) : Prop :=
  RmPost (if n = 256 then G else takeG G n) (if n = 256 then B else takeB B n) D r vg vb (.tuple #[.agg (if n = 256 then #[.int .i64 0, .int .i64 0] else #[.int .i64 (n : Int), .int .i64 (G.getD n 0)]), .int .i64 (if n = 256 then 6 else 0)]) w e w'
theorem list20 {α : Type} {vs : List α} (h : vs.length = 20) : ∃ x0 x1 x2 x3 x4 x5 x6 x7 x8 x9 x10 x11 x12 x13 x14 x15 x16 x17 x18 x19, vs = [x0, x1, x2, x3, x4, x5, x6, x7, x8, x9, x10, x11, x12, x13, x14, x15, x16, x17, x18, x19] := by
  obtain ⟨x0, t0, rfl, h0⟩ := cons_of h
  obtain ⟨x1, t1, rfl, h1⟩ := cons_of h0
  obtain ⟨x2, t2, rfl, h2⟩ := cons_of h1
  obtain ⟨x3, t3, rfl, h3⟩ := cons_of h2
  obtain ⟨x4, t4, rfl, h4⟩ := cons_of h3
  obtain ⟨x5, t5, rfl, h5⟩ := cons_of h4
  obtain ⟨x6, t6, rfl, h6⟩ := cons_of h5
  obtain ⟨x7, t7, rfl, h7⟩ := cons_of h6
  obtain ⟨x8, t8, rfl, h8⟩ := cons_of h7
  obtain ⟨x9, t9, rfl, h9⟩ := cons_of h8
  obtain ⟨x10, t10, rfl, h10⟩ := cons_of h9
  obtain ⟨x11, t11, rfl, h11⟩ := cons_of h10
  obtain ⟨x12, t12, rfl, h12⟩ := cons_of h11
  obtain ⟨x13, t13, rfl, h13⟩ := cons_of h12
  obtain ⟨x14, t14, rfl, h14⟩ := cons_of h13
  obtain ⟨x15, t15, rfl, h15⟩ := cons_of h14
  obtain ⟨x16, t16, rfl, h16⟩ := cons_of h15
  obtain ⟨x17, t17, rfl, h17⟩ := cons_of h16
  obtain ⟨x18, t18, rfl, h18⟩ := cons_of h17
  obtain ⟨x19, t19, rfl, h19⟩ := cons_of h18
  exact ⟨x0, x1, x2, x3, x4, x5, x6, x7, x8, x9, x10, x11, x12, x13, x14, x15, x16, x17, x18, x19, by rw [List.eq_nil_of_length_eq_zero h19]⟩
def F_rt11 (r m cb cg : Nat) (ab ag : Option Addr) (jq : Nat) (v : Value) (w : World) : Prop :=
  match jq with
  | 0 => v = .pointer (some ⟨r, 0, none⟩)
  | 1 => v = .pointer (some ⟨r, 0, none⟩)
  | 2 => v = .pointer (some ⟨r, 0, none⟩)
  | 3 => v = .pointer (some ⟨r, 0, none⟩)
  | 4 => v = .pointer (some ⟨r, 1, none⟩)
  | 5 => v = .slice ab m cb
  | 6 => True
  | 7 => ∃ g c, v = .slice (some ⟨g, 0, none⟩) (m + 1) c
  | 8 => v = .pointer (some ⟨r, 0, none⟩)
  | 9 => v = .pointer (some ⟨r, 0, none⟩)
  | 10 => v = .pointer (some ⟨r, 0, none⟩)
  | 11 => v = .slice ag m cg
  | 12 => True
  | 13 => ∃ g c, v = .slice (some ⟨g, 0, none⟩) (m + 1) c
  | 14 => v = .pointer (some ⟨r, 0, none⟩)
  | 15 => v = .pointer (some ⟨r, 1, none⟩)
  | 16 => v = undef
  | 17 => v = .pointer (some ⟨r, 0, none⟩)
  | 18 => v = .pointer (some ⟨r, 0, none⟩)
  | 19 => v = undef
  | _ => True
theorem F_rt11_mono (r m cb cg : Nat) (ab ag : Option Addr) : FactsF (F_rt11 r m cb cg  ab ag ) := ⟨by
  intro jq v w w' h
  unfold F_rt11 at h ⊢
  split at h
  all_goals first
    | exact h
    | trivial⟩


set_option maxRecDepth 100000 in
set_option maxHeartbeats 8000000 in
theorem rm_Take (h : Rm w D r vg vb G B) (hl : B.length = G.length) (h256 : G.length ≤ 256) (n : Nat) (hn : Least G B n) :
    Calls Try.prog 36 #[.pointer (some ⟨r, 0, none⟩)] w (RTakePost G B D r vg vb n w) := by
  have hb0 : Below w.heap.size w (w.alloc (.cells #[.int .i64 0, .int .i64 0] 55)) := (Below.refl _ _).alloc (Nat.le_refl _) _
  have h0 := h.below hb0
  have bx := heap_alloc_new w (.cells #[.int .i64 0, .int .i64 0] 55)
  obtain ⟨ab, cb, rfl⟩ := own_slice h.used
  obtain ⟨ag, cg, rfl⟩ := own_slice h.gens
  obtain ⟨m, hm⟩ : ∃ m, m = G.length := ⟨_, rfl⟩
  have hlb : m = B.length := by omega
  rw [← hm] at h256
  have c1 := h0.c1
  rw [← hlb] at c1
  have hsn : n < w.heap.size + (n + 1) := by omega
  have hvb : ∀ k, (Value.slice ab B.length cb).ownBlock = some k → k < w.heap.size := fun k hk => (own_lt h.used k hk).2
  have hrw := lt_of_heap h.block
  have HVB := Lib.hid hvb
  have HN := Lib.hid hn
  have H := Lib.hid h
  have H0 := Lib.hid h0
  have HB0 := Lib.hid hb0
  have HBX := Lib.hid bx
  have HM := Lib.hid hm
  have HLB := Lib.hid hlb
  have HL := Lib.hid hl
  have hnm : n ≤ m := by rw [hm]; exact hn.le
  clear h h0 hb0 bx hm hlb hl hn hvb hsn
  go_enter Try.func36, Try.ntmps36
  go_wp2_with fail
  obtain ⟨w1, hw1⟩ : ∃ w1, w1 = w.alloc (.cells #[.int .i64 0, .int .i64 0] 55) := ⟨_, rfl⟩
  rw [← hw1] at H0 HB0 HBX c1 ⊢
  clear hw1
  go_loop [4, 5] (fun v4 v5 => ∃ q k : Int, -1 ≤ k ∧ k < (m : Int) ∧ v4 = .int .i64 q ∧ v5 = .int .i64 k ∧ DownL G B (k + 1).toNat q) (fun _ v5 => (intOf v5 + 1).toNat)
  case atStart => exact ⟨-1, (m : Int) - 1, by omega, by omega, rfl, rfl, DownL.start _ _ _ (by rw [← HM.out]; omega)⟩
  case round =>
    obtain ⟨q, k, hk1, hk2, rfl, rfl, hd⟩ := hrel
    by_cases hk : 0 ≤ k
    · obtain ⟨i, rfl⟩ : ∃ i : Nat, k = i := ⟨k.toNat, by omega⟩
      have hi : i < m := by omega
      have e1 : ((i : Int) + 1).toNat = i + 1 := by omega
      have e2 : ((i : Int) - 1 + 1).toNat = i := by omega
      rw [e1] at hd
      have HD := Lib.hid hd
      have HE2 := Lib.hid e2
      clear e1 e2 hd
      have h1 := H0.out
      obtain ⟨gb, rfl, -, -, -, -, cc, -⟩ := vbools_cell h1.used i (by rw [← HLB.out]; exact hi)
      obtain ⟨gg, rfl, -, -, -, -, cg2, -⟩ := vints_cell h1.gens i (by rw [← HM.out]; exact hi)
      have c0 := h1.c0
      rw [← HM.out] at c0
      obtain ⟨x, hx⟩ : ∃ x, x = G.getD i 0 := ⟨_, rfl⟩
      rw [← hx] at cg2
      have HX := Lib.hid hx
      clear h1 hx
      cases hb : B.getD i false
      · rw [hb] at cc
        have HBB := Lib.hid hb
        clear hb
        by_cases hlt : x < 1073741824
        · have ha := av_true (by rw [← HM.out]; exact hi) HBB.out (by rw [← HX.out]; exact hlt)
          have HA := Lib.hid ha
          clear ha
          go_wp2_with fail
          go_round
          case rel => exact ⟨i, (i : Int) - 1, by omega, by omega, rfl, rfl, by rw [HE2.out]; exact DownL.hit HA.out (by rw [← HM.out]; exact hi)⟩
          case measure => simp [intOf]
        · have ha := av_old (B := B) (by rw [← HX.out]; exact hlt)
          have HA := Lib.hid ha
          clear ha
          go_wp2_with fail
          go_round
          case rel => exact ⟨q, (i : Int) - 1, by omega, by omega, rfl, rfl, by rw [HE2.out]; exact DownL.miss HD.out HA.out⟩
          case measure => simp [intOf]
      · rw [hb] at cc
        have ha := av_used (G := G) hb
        have HA := Lib.hid ha
        clear ha hb
        go_wp2_with fail
        go_round
        case rel => exact ⟨q, (i : Int) - 1, by omega, by omega, rfl, rfl, by rw [HE2.out]; exact DownL.miss HD.out HA.out⟩
        case measure => simp [intOf]
    · have hkk : k = -1 := by omega
      rw [show (k + 1).toNat = 0 by omega] at hd
      rcases hd.least HN.out with ⟨rfl, hnl⟩ | ⟨rfl, hnl⟩
      · have hnm2 : n = m := by rw [hnl, HM.out]
        clear hd hkk hnl
        by_cases h2 : n = 256
        · have t0 : ((m : Int) == 256) = true := by rw [beq_iff_eq]; omega
          have H2 := Lib.hid h2
          clear h2 hnm2
          have y0 := cell_of_row _ _ 0 _ _ _ HBX.out
          have y1 := cell_of_row _ _ 1 _ _ _ HBX.out
          simp only [List.getElem?_toArray, List.getElem?_cons_zero, List.getElem?_cons_succ] at y0 y1
          have y2 := Mem.frozen_of_row HBX.out 0
          have y3 := Mem.frozen_of_row HBX.out 1
          go_wp2_with fail
          have hbe2 := heap_set2 HBX.out (.int .i64 0) (.int .i64 0)
          have hb2 : Below w.heap.size w ((w1.setCell ⟨w.heap.size, 0, none⟩ (.int .i64 0)).setCell ⟨w.heap.size, 1, none⟩ (.int .i64 0)) := (HB0.out.setCell (p := ⟨w.heap.size, 0, none⟩) (Nat.le_refl _) _).setCell (p := ⟨w.heap.size, 1, none⟩) (Nat.le_refl _) _
          refine bodyPost_ret (results_ct Try.results36 _ _ w.heap.size 55 _ (0, 0) _ rfl hbe2 Try.underlying55 rfl (by kernel_rfl)) rfl ?_
          unfold RTakePost
          simp only [if_pos H2.out]
          have h3 := H.out.below hb2
          exact ⟨rfl, _, _, h3, .of_below hb2, fun k hk => .inl hk⟩
        · have t0 : ((m : Int) == 256) = false := by rw [beq_eq_false_iff_ne]; omega
          have H2 := Lib.hid h2
          have HNM := Lib.hid hnm2
          clear h2 hnm2
          go_wp2_with fail
          have hr := H0.out
          have HR := Lib.hid hr
          have cr0 := Lib.hid hr.c0
          have cr1 := Lib.hid hr.c1
          have HVB1 := Lib.hid (fun k hk => Nat.lt_of_lt_of_le (HVB.out k hk) HB0.out.size)
          clear hr c1 t0
          refine wp_region_st rfl 20 (by kernel_rfl) (TkSt w1 D r (.slice ag G.length cg) (.slice ab B.length cb) G B) [6, 7, 12, 13, 16, 19] (TkSt.congr) (TkSt.init HR.out) (F_rt11 r m cb cg ab ag) (F_rt11_mono r m cb cg ab ag) [0, 0, 0, 4, 12, 28, 0, 124, 0, 256, 768, 1792, 0, 8188, 16381, 32765, 65533, 131071, 262143, 524287] (by kernel_rfl) ?_ ?_
          · refine ⟨?_, ?_, ?_, ?_, ?_, ?_, ?_, ?_, ?_, ?_, ?_, ?_, ?_, ?_, ?_, ?_, ?_, ?_, ?_, ?_, trivial⟩
            · intro vs w' F S hst hd hF hl hT hA hN hp
              have e := (hF 0).trans (look_out _ 0 _ _ (by kernel_rfl))
              exact one_move _ rfl (by first | exact Or.inl rfl | exact Or.inr rfl) ⟨_, rfl, (hp (by kernel_rfl) _), e⟩
            · intro vs w' F S hst hd hF hl hT hA hN hp
              have e := (hF 0).trans (look_out _ 0 _ _ (by kernel_rfl))
              exact one_move _ rfl (by first | exact Or.inl rfl | exact Or.inr rfl) ⟨_, rfl, (hp (by kernel_rfl) _), e⟩
            · intro vs w' F S hst hd hF hl hT hA hN hp
              have e := (hF 0).trans (look_out _ 0 _ _ (by kernel_rfl))
              exact one_move _ rfl (by first | exact Or.inl rfl | exact Or.inr rfl) ⟨_, rfl, (hp (by kernel_rfl) _), e⟩
            · intro vs w' F S hst hd hF hl hT hA hN hp
              have e := ((hF 51).trans (look_at _ 51 2 _ _ (by kernel_rfl) (by kernel_rfl) hl)).trans (dep_of (Fact := F_rt11 r m cb cg ab ag) hd 2 (by kernel_rfl))
              exact one_nilCheck _ rfl rfl _ e ⟨_, rfl, (hp (by kernel_rfl) _), rfl⟩
            · intro vs w' F S hst hd hF hl hT hA hN hp
              have e := ((hF 52).trans (look_at _ 52 3 _ _ (by kernel_rfl) (by kernel_rfl) hl)).trans (dep_of (Fact := F_rt11 r m cb cg ab ag) hd 3 (by kernel_rfl))
              exact one_field _ _ _ rfl rfl _ _ e (1) (fun w => by kernel_rfl) ⟨_, rfl, (hp (by kernel_rfl) _), rfl⟩
            · intro vs w' F S hst hd hF hl hT hA hN hp
              have e := (((hF 53).trans (look_at _ 53 4 _ _ (by kernel_rfl) (by kernel_rfl) hl)).trans (dep_of (Fact := F_rt11 r m cb cg ab ag) hd 4 (by kernel_rfl)))
              have n16 := hN 16 (by decide) (by kernel_rfl)
              obtain ⟨x, y, c1, -, -, c4, -⟩ := hst.c
              have hy := c4 n16
              subst hy
              exact one_load _ _ rfl rfl _ _ e (by rw [cell_of_row _ _ 1 _ _ _ c1]; rfl) (by kernel_rfl) ⟨_, rfl, hp (by kernel_rfl) _, by rw [HLB.out]; rfl⟩
            · intro vs w' F S hst hd hF hl hT hA hN hp
              exact rg_slice_val _ 4 _ rfl rfl (.bool false) (.bool false) rfl rfl Try.underlying63 (by kernel_rfl) rfl ⟨_, rfl, hst.s6, trivial⟩
            · intro vs w' F S hst hd hF hl hT hA hN hp
              have ea := (((hF 54).trans (look_at _ 54 5 _ _ (by kernel_rfl) (by kernel_rfl) hl)).trans (dep_of (Fact := F_rt11 r m cb cg ab ag) hd 5 (by kernel_rfl)))
              have n7 := hN 7 (by decide) (by kernel_rfl)
              have n13 := hN 13 (by decide) (by kernel_rfl)
              have n16 := hN 16 (by decide) (by kernel_rfl)
              obtain ⟨g6, e6, l6, b6⟩ := hst.e6 n7 _ (hA 6 (by kernel_rfl) (by decide))
              have hu := hst.u0 n7
              have eb := ((hF 55).trans (look_at _ 55 6 _ _ (by kernel_rfl) (by kernel_rfl) hl)).trans e6
              refine wpList_append_blk rfl _ _ 63 rfl D 4 (.bool false) 1 1 Try.underlying63 (by kernel_rfl) rfl (by decide) _ _ _ ea (by rw [HLB.out]; exact hu) g6 #[.bool false] 4 eb b6 rfl rfl (by have := HLB.out; omega) (by decide) (Nat.le_trans H0.out.dw hst.gr.size) ?_
              intro g' c' w2 hown hg hor hlt
              rw [HLB.out] at hg hor
              exact ⟨_, rfl, hst.s7 HVB1.out n7 n13 n16 hown hg hor, g', c', by rw [← HLB.out]⟩
            · intro vs w' F S hst hd hF hl hT hA hN hp
              have e := (hF 0).trans (look_out _ 0 _ _ (by kernel_rfl))
              exact one_move _ rfl (by first | exact Or.inl rfl | exact Or.inr rfl) ⟨_, rfl, (hp (by kernel_rfl) _), e⟩
            · intro vs w' F S hst hd hF hl hT hA hN hp
              have e := ((hF 57).trans (look_at _ 57 8 _ _ (by kernel_rfl) (by kernel_rfl) hl)).trans (dep_of (Fact := F_rt11 r m cb cg ab ag) hd 8 (by kernel_rfl))
              exact one_nilCheck _ rfl rfl _ e ⟨_, rfl, (hp (by kernel_rfl) _), rfl⟩
            · intro vs w' F S hst hd hF hl hT hA hN hp
              have e := ((hF 58).trans (look_at _ 58 9 _ _ (by kernel_rfl) (by kernel_rfl) hl)).trans (dep_of (Fact := F_rt11 r m cb cg ab ag) hd 9 (by kernel_rfl))
              exact one_field _ _ _ rfl rfl _ _ e (0) (fun w => by kernel_rfl) ⟨_, rfl, (hp (by kernel_rfl) _), rfl⟩
            · intro vs w' F S hst hd hF hl hT hA hN hp
              have e := (((hF 59).trans (look_at _ 59 10 _ _ (by kernel_rfl) (by kernel_rfl) hl)).trans (dep_of (Fact := F_rt11 r m cb cg ab ag) hd 10 (by kernel_rfl)))
              have n19 := hN 19 (by decide) (by kernel_rfl)
              obtain ⟨x, y, c1, c2, -, -, -⟩ := hst.c
              have hx := c2 n19
              subst hx
              exact one_load _ _ rfl rfl _ _ e (by rw [cell_of_row _ _ 0 _ _ _ c1]; rfl) (by kernel_rfl) ⟨_, rfl, hp (by kernel_rfl) _, by rw [HM.out]; rfl⟩
            · intro vs w' F S hst hd hF hl hT hA hN hp
              exact rg_slice_val _ 3 _ rfl rfl (.int .i64 0) (.int .i64 0) rfl rfl Try.underlying23 (by kernel_rfl) rfl ⟨_, rfl, hst.s12, trivial⟩
            · intro vs w' F S hst hd hF hl hT hA hN hp
              have ea := (((hF 60).trans (look_at _ 60 11 _ _ (by kernel_rfl) (by kernel_rfl) hl)).trans (dep_of (Fact := F_rt11 r m cb cg ab ag) hd 11 (by kernel_rfl)))
              have n13 := hN 13 (by decide) (by kernel_rfl)
              have n19 := hN 19 (by decide) (by kernel_rfl)
              obtain ⟨g6, e6, l6, b6⟩ := hst.e12 n13 _ (hA 12 (by kernel_rfl) (by decide))
              have n7 := hA 7 (by kernel_rfl) (by decide)
              have hu := hst.g0 n13
              have eb := ((hF 61).trans (look_at _ 61 12 _ _ (by kernel_rfl) (by kernel_rfl) hl)).trans e6
              refine wpList_append_blk rfl _ _ 23 rfl D 3 (.int .i64 0) 1 8 Try.underlying23 (by kernel_rfl) rfl (by decide) _ _ _ ea (by rw [HM.out]; exact hu) g6 #[.int .i64 0] 3 eb b6 rfl rfl (by have := HM.out; omega) (by decide) (Nat.le_trans H0.out.dw hst.gr.size) ?_
              intro g' c' w2 hown hg hor hlt
              rw [HM.out] at hg hor
              exact ⟨_, rfl, hst.s13 n7 n13 n19 hown hg hor, g', c', by rw [← HM.out]⟩
            · intro vs w' F S hst hd hF hl hT hA hN hp
              have e := ((hF 49).trans (look_at _ 49 0 _ _ (by kernel_rfl) (by kernel_rfl) hl)).trans (dep_of (Fact := F_rt11 r m cb cg ab ag) hd 0 (by kernel_rfl))
              exact one_nilCheck _ rfl rfl _ e ⟨_, rfl, (hp (by kernel_rfl) _), rfl⟩
            · intro vs w' F S hst hd hF hl hT hA hN hp
              have e := ((hF 63).trans (look_at _ 63 14 _ _ (by kernel_rfl) (by kernel_rfl) hl)).trans (dep_of (Fact := F_rt11 r m cb cg ab ag) hd 14 (by kernel_rfl))
              exact one_field _ _ _ rfl rfl _ _ e (1) (fun w => by kernel_rfl) ⟨_, rfl, (hp (by kernel_rfl) _), rfl⟩
            · intro vs w' F S hst hd hF hl hT hA hN hp
              have e := (((hF 64).trans (look_at _ 64 15 _ _ (by kernel_rfl) (by kernel_rfl) hl)).trans (dep_of (Fact := F_rt11 r m cb cg ab ag) hd 15 (by kernel_rfl)))
              have n7 := hA 7 (by kernel_rfl) (by decide)
              have n13 := hA 13 (by kernel_rfl) (by decide)
              have n19 := hN 19 (by decide) (by kernel_rfl)
              obtain ⟨g7, c7, e7⟩ := (dep_of (Fact := F_rt11 r m cb cg ab ag) hd 7 (by kernel_rfl))
              have eb := ((hF 56).trans (look_at _ 56 7 _ _ (by kernel_rfl) (by kernel_rfl) hl)).trans e7
              rw [e7] at n7
              obtain ⟨x, y, c1, -⟩ := hst.c
              exact rg_store_sl rfl _ _ _ rfl r 1 (some ⟨g7, 0, none⟩) (m + 1) c7 y e eb (by rw [cell_of_row _ _ 1 _ _ _ c1]; rfl) (Mem.frozen_of_row c1 1) (by kernel_rfl) ⟨_, rfl, hst.s16 n7 n13 n19, rfl⟩
            · intro vs w' F S hst hd hF hl hT hA hN hp
              have e := ((hF 50).trans (look_at _ 50 1 _ _ (by kernel_rfl) (by kernel_rfl) hl)).trans (dep_of (Fact := F_rt11 r m cb cg ab ag) hd 1 (by kernel_rfl))
              exact one_nilCheck _ rfl rfl _ e ⟨_, rfl, (hp (by kernel_rfl) _), rfl⟩
            · intro vs w' F S hst hd hF hl hT hA hN hp
              have e := ((hF 65).trans (look_at _ 65 17 _ _ (by kernel_rfl) (by kernel_rfl) hl)).trans (dep_of (Fact := F_rt11 r m cb cg ab ag) hd 17 (by kernel_rfl))
              exact one_field _ _ _ rfl rfl _ _ e (0) (fun w => by kernel_rfl) ⟨_, rfl, (hp (by kernel_rfl) _), rfl⟩
            · intro vs w' F S hst hd hF hl hT hA hN hp
              have e := (((hF 66).trans (look_at _ 66 18 _ _ (by kernel_rfl) (by kernel_rfl) hl)).trans (dep_of (Fact := F_rt11 r m cb cg ab ag) hd 18 (by kernel_rfl)))
              have n7 := hA 7 (by kernel_rfl) (by decide)
              have n13 := hA 13 (by kernel_rfl) (by decide)
              obtain ⟨g7, c7, e7⟩ := (dep_of (Fact := F_rt11 r m cb cg ab ag) hd 13 (by kernel_rfl))
              have eb := ((hF 62).trans (look_at _ 62 13 _ _ (by kernel_rfl) (by kernel_rfl) hl)).trans e7
              rw [e7] at n13
              obtain ⟨x, y, c1, -⟩ := hst.c
              exact rg_store_sl rfl _ _ _ rfl r 0 (some ⟨g7, 0, none⟩) (m + 1) c7 x e eb (by rw [cell_of_row _ _ 0 _ _ _ c1]; rfl) (Mem.frozen_of_row c1 0) (by kernel_rfl) ⟨_, rfl, hst.s19 n7 n13, rfl⟩
          · intro vs8 W8 S8 hl hst hS hI
            obtain ⟨hf, hgf, hog, hob⟩ := hst.done HR.out (hS 7 (by decide)) (hS 13 (by decide)) (hS 16 (by decide)) (hS 19 (by decide))
            obtain ⟨g7, c7, e7⟩ := hI 7 (by decide)
            obtain ⟨g13, c13, e13⟩ := hI 13 (by decide)
            rw [e7, e13] at hf
            rw [e13] at hog
            rw [e7] at hob
            have hs1 := HB0.out.size
            have HBE2 := Lib.hid ((hgf.block w.heap.size (lt_of_heap HBX.out) (by
              rintro (h1 | h1 | h1)
              · omega
              · have := (own_lt H.out.gens _ h1).2; omega
              · have := HVB.out _ h1; omega)).trans HBX.out)
            have HGR2 := Lib.hid ((GrP.of_below (P := RmP r (.slice ag G.length cg) (.slice ab B.length cb)) HB0.out).step hgf (fun _ _ h => h))
            have HOG2 := Lib.hid (fun k hk => (hog k hk).imp id (fun h => Nat.le_trans hs1 h))
            have HOB2 := Lib.hid (fun k hk => (hob k hk).imp id (fun h => Nat.le_trans hs1 h))
            have H2R := Lib.hid hf
            obtain ⟨z0, z1, z2, z3, z4, z5, z6, z7, z8, z9, z10, z11, z12, z13, z14, z15, z16, z17, z18, z19, hvs⟩ := list20 hl
            subst hvs
            clear hI hl hS hst hgf hog hob hf e7 e13 cr0 cr1
            simp only [fillAll, Act.put, List.setIfInBounds_toArray, List.set_cons_succ, List.set_cons_zero]
            show wpList _ _ _ [] _ _
            obtain ⟨W2, hW2⟩ : ∃ W2, W2 = W8 := ⟨_, rfl⟩
            obtain ⟨m2, hm2⟩ : ∃ m2, m2 = m + 1 := ⟨_, rfl⟩
            obtain ⟨cb2, hcb2⟩ : ∃ c, c = c7 := ⟨_, rfl⟩
            obtain ⟨cg2, hcg2⟩ : ∃ c, c = c13 := ⟨_, rfl⟩
            obtain ⟨G2, hG2⟩ : ∃ G2, G2 = G ++ [0] := ⟨_, rfl⟩
            obtain ⟨B2, hB2⟩ : ∃ B2, B2 = B ++ [false] := ⟨_, rfl⟩
            rw [← hW2] at HBE2 HGR2 H2R ⊢
            obtain ⟨ab2, hab2⟩ : ∃ x : Option Addr, x = some ⟨g7, 0, none⟩ := ⟨_, rfl⟩
            obtain ⟨ag2, hag2⟩ : ∃ x : Option Addr, x = some ⟨g13, 0, none⟩ := ⟨_, rfl⟩
            rw [← hm2, ← hcb2, ← hcg2, ← hG2, ← hB2, ← hab2, ← hag2] at H2R
            rw [← hm2, ← hcg2, ← hag2] at HOG2
            rw [← hm2, ← hcb2, ← hab2] at HOB2
            have HQ2 := Lib.hid (show G2.getD n 0 = G.getD n 0 from by rw [hG2, ← takeG_get G n n]; unfold takeG; rw [if_pos (by rw [← HM.out]; exact HNM.out)])
            have HM2 := Lib.hid (show m2 = G2.length ∧ m2 = B2.length from ⟨by rw [hG2, hm2, List.length_append, HM.out]; rfl, by rw [hB2, hm2, List.length_append, HLB.out]; rfl⟩)
            have HG2 := Lib.hid (show G2 = takeG G n from by rw [hG2]; unfold takeG; rw [if_pos (by rw [← HM.out]; exact HNM.out)])
            have HB2 := Lib.hid (show B2.set n true = takeB B n from by rw [hB2]; exact takeB_set B n (by rw [← HLB.out]; exact HNM.out))
            have hn2 : n < m2 := by have := HNM.out; omega
            have H256 := H2
            rw [show (m : Int) = (n : Int) from by have := HNM.out; omega]
            clear hW2 hm2 hcb2 hcg2 hG2 hB2 HR hab2 hag2
            have hnb : n < B2.length := by have := HM2.out; omega
            obtain ⟨gb, rfl, -, -, hgbl, -, cbn, -⟩ := vbools_cell H2R.out.used n hnb
            obtain ⟨gg, rfl, -, -, hggl, -, cgn, -⟩ := vints_cell H2R.out.gens n (by have := HM2.out; omega)
            have hbg : gb ≠ gg := fun e => own_other H2R.out.used H2R.out.gens (by decide) gb rfl (by rw [e]; rfl)
            have hrg : r ≠ gg := fun e => own_ne H2R.out.gens H2R.out.block (by decide) gg rfl (by rw [e])
            have hrb : r ≠ gb := fun e => own_ne H2R.out.used H2R.out.block (by decide) gb rfl (by rw [e])
            have hxb : gb ≠ w.heap.size := fun e => own_ne H2R.out.used HBE2.out (by decide) gb rfl (by rw [e])
            have hxg : gg ≠ w.heap.size := fun e => own_ne H2R.out.gens HBE2.out (by decide) gg rfl (by rw [e])
            have hxr : r ≠ w.heap.size := by omega
            have d0 := H2R.out.c0
            have d1 := H2R.out.c1
            have d2 := Mem.frozen_of_row (H2R.out.block) 0
            have f1 := (H2R.out.ub n hnb).2
            have y0 := cell_of_row _ _ 0 _ _ _ HBE2.out
            have y1 := cell_of_row _ _ 1 _ _ _ HBE2.out
            simp only [List.getElem?_toArray, List.getElem?_cons_zero, List.getElem?_cons_succ] at y0 y1
            have y2 := Mem.frozen_of_row HBE2.out 0
            have y3 := Mem.frozen_of_row HBE2.out 1
            rw [HQ2.out] at cgn
            obtain ⟨q2, hq2⟩ : ∃ q2, q2 = G.getD n 0 := ⟨_, rfl⟩
            rw [← hq2] at cgn
            have HQQ := Lib.hid hq2
            have i1 : (0 : Int) ≤ (n : Int) := by omega
            have i2 : (n : Int) < (m2 : Int) := by have := HM2.out; omega
            clear hq2 hnb
            go_wp2_with fail
            have hf0 : (W2.setCell ⟨gb, n, none⟩ (.bool true)).heap[w.heap.size]? = some (.cells #[.int .i64 0, .int .i64 0] 55 (0, 0)) := heap_far HBE2.out (p := ⟨gb, n, none⟩) (fun e => hxb e.symm) _
            have hbe2 := heap_set2 hf0 (.int .i64 (n : Int)) (.int .i64 q2)
            have hr2 := H2R.out.setUse HM2.out.2 n true
            have hr3 : Rm (((W2.setCell ⟨gb, n, none⟩ (.bool true)).setCell ⟨w.heap.size, 0, none⟩ (.int .i64 (n : Int))).setCell ⟨w.heap.size, 1, none⟩ (.int .i64 q2)) D r (.slice (some ⟨gg, 0, none⟩) m2 cg2) (.slice (some ⟨gb, 0, none⟩) m2 cb2) G2 (B2.set n true) := by
              refine hr2.keep (P := fun k => k = w.heap.size) (((GrP.refl (fun k => k = w.heap.size) _).set rfl 0 _).set rfl 1 _) (fun e => hxr e) (fun k hk e => ?_) (fun k hk e => ?_)
              · have : gg = k := by simpa [Value.ownBlock] using hk
                omega
              · have : gb = k := by simpa [Value.ownBlock] using hk
                omega
            have hg3 := ((HGR2.out.set' (k := gb) (fun hk => by
              rcases HOB2.out gb rfl with h1 | h1
              · exact .inr (.inr h1)
              · omega) n (.bool true)).set' (k := w.heap.size) (fun hk => by omega) 0 (.int .i64 (n : Int))).set' (k := w.heap.size) (fun hk => by omega) 1 (.int .i64 q2)
            refine bodyPost_ret (results_ct Try.results36 _ _ w.heap.size 55 _ (0, 0) _ rfl hbe2 Try.underlying55 rfl (by kernel_rfl)) rfl ?_
            unfold RTakePost
            simp only [if_neg H256.out]
            rw [← HQQ.out]
            rw [HG2.out, HB2.out] at hr3
            exact ⟨rfl, _, _, hr3, hg3, HOG2.out⟩
      · clear hd hkk
        obtain ⟨W2, hW2⟩ : ∃ W2, W2 = w1 := ⟨_, rfl⟩
        obtain ⟨m2, hm2⟩ : ∃ m2, m2 = m := ⟨_, rfl⟩
        obtain ⟨cb2, hcb2⟩ : ∃ c, c = cb := ⟨_, rfl⟩
        obtain ⟨cg2, hcg2⟩ : ∃ c, c = cg := ⟨_, rfl⟩
        obtain ⟨G2, hG2⟩ : ∃ G2, G2 = G := ⟨_, rfl⟩
        obtain ⟨B2, hB2⟩ : ∃ B2, B2 = B := ⟨_, rfl⟩
        have HM2 := Lib.hid (show m2 = G2.length ∧ m2 = B2.length from ⟨by rw [hG2, hm2, HM.out], by rw [hB2, hm2, HLB.out]⟩)
        have H2R := H0
        rw [← HM.out, ← HLB.out] at H2R
        obtain ⟨ab2, hab2⟩ : ∃ x, x = ab := ⟨_, rfl⟩
        obtain ⟨ag2, hag2⟩ : ∃ x, x = ag := ⟨_, rfl⟩
        rw [← hW2, ← hm2, ← hcb2, ← hcg2, ← hG2, ← hB2, ← hab2, ← hag2] at H2R
        have HBE2 := HBX
        rw [← hW2] at HBE2 ⊢
        have HGR2 := Lib.hid (GrP.of_below (P := RmP r (.slice ag G.length cg) (.slice ab B.length cb)) HB0.out)
        rw [← hW2] at HGR2
        have HOG2 := Lib.hid (show ∀ k, (Value.slice ag2 m2 cg2).ownBlock = some k → (Value.slice ag G.length cg).ownBlock = some k ∨ w.heap.size ≤ k from fun k hk => .inl (by rw [hm2, HM.out, hcg2, hag2] at hk; exact hk))
        have HOB2 := Lib.hid (show ∀ k, (Value.slice ab2 m2 cb2).ownBlock = some k → (Value.slice ab B.length cb).ownBlock = some k ∨ w.heap.size ≤ k from fun k hk => .inl (by rw [hm2, HLB.out, hcb2, hab2] at hk; exact hk))
        have HQ2 := Lib.hid (show G2.getD n 0 = G.getD n 0 from by rw [hG2])
        have HG2 := Lib.hid (show G2 = takeG G n from by rw [hG2]; unfold takeG; rw [if_neg (by omega)])
        have HB2 := Lib.hid (show B2.set n true = takeB B n from by rw [hB2]; unfold takeB; rw [if_neg (by have := HL.out; omega)])
        have hn2 : n < m2 := by have := HM.out; omega
        have H256 := Lib.hid (show ¬ n = 256 by have := HM.out; omega)
        clear hm2 hcb2 hcg2 hG2 hB2 c1 hab2 hag2 hW2
        have hnb : n < B2.length := by have := HM2.out; omega
        obtain ⟨gb, rfl, -, -, hgbl, -, cbn, -⟩ := vbools_cell H2R.out.used n hnb
        obtain ⟨gg, rfl, -, -, hggl, -, cgn, -⟩ := vints_cell H2R.out.gens n (by have := HM2.out; omega)
        have hbg : gb ≠ gg := fun e => own_other H2R.out.used H2R.out.gens (by decide) gb rfl (by rw [e]; rfl)
        have hrg : r ≠ gg := fun e => own_ne H2R.out.gens H2R.out.block (by decide) gg rfl (by rw [e])
        have hrb : r ≠ gb := fun e => own_ne H2R.out.used H2R.out.block (by decide) gb rfl (by rw [e])
        have hxb : gb ≠ w.heap.size := fun e => own_ne H2R.out.used HBE2.out (by decide) gb rfl (by rw [e])
        have hxg : gg ≠ w.heap.size := fun e => own_ne H2R.out.gens HBE2.out (by decide) gg rfl (by rw [e])
        have hxr : r ≠ w.heap.size := by omega
        have d0 := H2R.out.c0
        have d1 := H2R.out.c1
        have d2 := Mem.frozen_of_row (H2R.out.block) 0
        have f1 := (H2R.out.ub n hnb).2
        have y0 := cell_of_row _ _ 0 _ _ _ HBE2.out
        have y1 := cell_of_row _ _ 1 _ _ _ HBE2.out
        simp only [List.getElem?_toArray, List.getElem?_cons_zero, List.getElem?_cons_succ] at y0 y1
        have y2 := Mem.frozen_of_row HBE2.out 0
        have y3 := Mem.frozen_of_row HBE2.out 1
        rw [HQ2.out] at cgn
        obtain ⟨q2, hq2⟩ : ∃ q2, q2 = G.getD n 0 := ⟨_, rfl⟩
        rw [← hq2] at cgn
        have HQQ := Lib.hid hq2
        have i1 : (0 : Int) ≤ (n : Int) := by omega
        have i2 : (n : Int) < (m2 : Int) := by have := HM2.out; omega
        clear hq2 hnb
        go_wp2_with fail
        have hf0 : (W2.setCell ⟨gb, n, none⟩ (.bool true)).heap[w.heap.size]? = some (.cells #[.int .i64 0, .int .i64 0] 55 (0, 0)) := heap_far HBE2.out (p := ⟨gb, n, none⟩) (fun e => hxb e.symm) _
        have hbe2 := heap_set2 hf0 (.int .i64 (n : Int)) (.int .i64 q2)
        have hr2 := H2R.out.setUse HM2.out.2 n true
        have hr3 : Rm (((W2.setCell ⟨gb, n, none⟩ (.bool true)).setCell ⟨w.heap.size, 0, none⟩ (.int .i64 (n : Int))).setCell ⟨w.heap.size, 1, none⟩ (.int .i64 q2)) D r (.slice (some ⟨gg, 0, none⟩) m2 cg2) (.slice (some ⟨gb, 0, none⟩) m2 cb2) G2 (B2.set n true) := by
          refine hr2.keep (P := fun k => k = w.heap.size) (((GrP.refl (fun k => k = w.heap.size) _).set rfl 0 _).set rfl 1 _) (fun e => hxr e) (fun k hk e => ?_) (fun k hk e => ?_)
          · have : gg = k := by simpa [Value.ownBlock] using hk
            omega
          · have : gb = k := by simpa [Value.ownBlock] using hk
            omega
        have hg3 := ((HGR2.out.set' (k := gb) (fun hk => by
          rcases HOB2.out gb rfl with h1 | h1
          · exact .inr (.inr h1)
          · omega) n (.bool true)).set' (k := w.heap.size) (fun hk => by omega) 0 (.int .i64 (n : Int))).set' (k := w.heap.size) (fun hk => by omega) 1 (.int .i64 q2)
        refine bodyPost_ret (results_ct Try.results36 _ _ w.heap.size 55 _ (0, 0) _ rfl hbe2 Try.underlying55 rfl (by kernel_rfl)) rfl ?_
        unfold RTakePost
        simp only [if_neg H256.out]
        rw [← HQQ.out]
        rw [HG2.out, HB2.out] at hr3
        exact ⟨rfl, _, _, hr3, hg3, HOG2.out⟩
end Go.Proofs.Ytlahmcbaiebapaa
