/- Slots: lists of entities; the room's List. -/
import Derived.Test.YtlahmcbaiebapaaSlotF
import Derived.Deep.DeepMust
namespace Go.Slt
open Go.Mem
/-- The cells of entities. -/
def entC (E : List (Int × Int)) : List Value := E.flatMap fun x => [.int .i64 x.1, .int .i64 x.2]
theorem entC_nil : entC [] = [] := rfl
theorem entC_snoc (E : List (Int × Int)) (n g : Int) : entC E ++ #[Value.int .i64 n, Value.int .i64 g].toList = entC (E ++ [(n, g)]) := by simp [entC]
theorem entC_get : ∀ (E : List (Int × Int)) (i : Nat), i < E.length → (entC E)[i * 2]? = some (.int .i64 (E.getD i (0, 0)).1) ∧ (entC E)[i * 2 + 1]? = some (.int .i64 (E.getD i (0, 0)).2)
  | x :: E, 0, _ => ⟨rfl, rfl⟩
  | x :: E, i + 1, h => by
    have h1 := entC_get E i (by simpa using h)
    have e : entC (x :: E) = [.int .i64 x.1, .int .i64 x.2] ++ entC E := rfl
    rw [e, List.getElem?_append_right (by simp; omega), List.getElem?_append_right (by simp; omega)]
    have e1 : (i + 1) * 2 - ([Value.int .i64 x.1, .int .i64 x.2] : List Value).length = i * 2 := by simp; omega
    have e2 : (i + 1) * 2 + 1 - ([Value.int .i64 x.1, .int .i64 x.2] : List Value).length = i * 2 + 1 := by simp; omega
    rw [e1, e2]
    exact h1
def EntsAt (w : World) (a : Option Addr) (E : List (Int × Int)) : Prop := 0 < E.length → ∃ x, a = some x ∧ x.block < w.heap.size ∧ ∀ i, i < E.length → w.cell? (x.add (i * 2)) = some (.int .i64 (E.getD i (0, 0)).1) ∧ w.cell? (x.add (i * 2 + 1)) = some (.int .i64 (E.getD i (0, 0)).2)
theorem EntsAt.below {w w' : World} {a : Option Addr} {E : List (Int × Int)} (h : EntsAt w a E) (hb : Go.RowKit.Below w.heap.size w w') : EntsAt w' a E := by
  intro hn
  obtain ⟨x, rfl, hx, hc⟩ := h hn
  exact ⟨x, rfl, Nat.lt_of_lt_of_le hx hb.size, fun i hi => ⟨(hb.cell (by rw [block_of_add]; exact hx)).trans (hc i hi).1, (hb.cell (by rw [block_of_add]; exact hx)).trans (hc i hi).2⟩⟩
theorem EntsAt.of_own {w : World} {base e n cap : Nat} {a : Option Addr} {E : List (Int × Int)} (h : w.ownsRow base e 2 (.slice a n cap) n (entC E)) (hn : n = E.length) : EntsAt w a E := by
  intro hz
  rcases a with _ | ad
  · obtain ⟨g, cap', hv, _⟩ := h.form (by omega)
    cases hv
  · obtain ⟨g, cap', hv, _, hlt⟩ := h.form (by omega)
    injection hv with hv
    injection hv with hv
    subst hv
    exact ⟨_, rfl, hlt, fun i hi => ⟨h.cells (g := g) rfl _ _ (entC_get E i hi).1, h.cells (g := g) rfl _ _ (entC_get E i hi).2⟩⟩
/-- The entities of the first k slots. -/
def entK (G : List Int) (B : List Bool) (k : Nat) : List (Int × Int) := ((List.range k).filter fun i => B.getD i false).map fun (i : Nat) => ((i : Int), G.getD i 0)
theorem entK_succ (G : List Int) (B : List Bool) (k : Nat) : entK G B (k + 1) = entK G B k ++ (if B.getD k false = true then [((k : Int), G.getD k 0)] else []) := by
  unfold entK
  rw [List.range_succ, List.filter_append, List.map_append]
  congr 1
  by_cases h : B.getD k false = true
  · rw [if_pos h, List.filter_cons_of_pos (p := fun i => B.getD i false) h]; rfl
  · rw [if_neg h, List.filter_cons_of_neg (p := fun i => B.getD i false) h]; rfl
theorem entK_len (G : List Int) (B : List Bool) (k : Nat) : (entK G B k).length ≤ k := by
  unfold entK
  rw [List.length_map]
  have := List.length_filter_le (fun i => B.getD i false) (List.range k)
  simpa using this
end Go.Slt
namespace Go.Proofs.Ytlahmcbaiebapaa
open Go.ChangeShapes Go.WideShapes Go.ChangeAt Go.RowKit Go.Mem Go.Sp Go.Slt
set_option linter.unusedVariables false
variable {w w' : World} {D s r : Nat} {vg vu vf vb vh : Value} {G : List Int} {B : List Bool} {U F : List Nat}
def ListPost (E : List (Int × Int)) (w : World) (e : Ending) (w' : World) : Prop := ∃ a n c, E.length = n ∧ e = .returned (.slice a n c) ∧ EntsAt w' a E ∧ Below w.heap.size w w'

set_option maxRecDepth 100000 in
set_option maxHeartbeats 4000000 in
theorem rm_List (h : Rm w D r vg vb G B) (hl : B.length = G.length) (h256 : G.length ≤ 256) :
    Calls Try.prog 43 #[.pointer (some ⟨r, 0, none⟩)] w (ListPost (entK G B B.length) w) := by
  obtain ⟨ab, cb, rfl⟩ := own_slice h.used
  obtain ⟨ag, cg, rfl⟩ := own_slice h.gens
  obtain ⟨m, hm⟩ : ∃ m, m = B.length := ⟨_, rfl⟩
  have c1 := h.c1
  have hm2 : G.length = m := by omega
  simp only [← hl, ← hm] at h c1 h256 ⊢
  have H := Lib.hid h
  have HM := Lib.hid hm
  have HM2 := Lib.hid hm2
  clear h hm hm2 hl
  go_enter Try.func43, Try.ntmps43
  go_wp2_with fail
  go_loopg [3, 4, 5, 11] m (fun gk v3 v4 v5 vi wx => ∃ i n : Nat, i ≤ m ∧ gk = m - i ∧ vi = .int .i64 i ∧ n = (entK G B i).length ∧ wx.ownsRow w.heap.size 55 2 v3 n (entC (entK G B i)) ∧ Below w.heap.size w wx)
  case atStart => exact ⟨0, 0, Nat.zero_le _, rfl, rfl, rfl, World.ownsRow_nil _ _ _ _, Below.refl _ _⟩
  case round =>
    obtain ⟨i, n, him, g2, rfl, hn, hown, hbw⟩ := hrel
    have G2 := Lib.hid g2
    have HN := Lib.hid hn
    have HBW := Lib.hid hbw
    have hni : n ≤ i := by rw [hn]; exact entK_len G B i
    clear g2 hn
    by_cases hlt : i < m
    · have h1 := H.out.below hbw
      obtain ⟨gb, rfl, -, -, -, -, cc, -⟩ := vbools_cell (L := B) (n := m) h1.used i (by rw [← HM.out]; exact hlt)
      have c0 := h1.c0
      have i1 : (0 : Int) ≤ (i : Int) := by omega
      have i2 : (i : Int) < (m : Int) := by omega
      cases hb : B.getD i false
      · rw [hb] at cc
        have he : entK G B (i + 1) = entK G B i := by rw [entK_succ, hb]; simp
        have HE := Lib.hid he
        have HOWN := Lib.hid hown
        clear hb he h1 hown hbw
        go_wp2_with fail
        go_roundg (m - (i + 1))
        case measure => rw [G2.out]; omega
        case rel => exact ⟨i + 1, n, hlt, rfl, by go_num, by rw [HE.out]; exact HN.out, by rw [HE.out]; exact HOWN.out, HBW.out⟩
      · rw [hb] at cc
        obtain ⟨gg, rfl, -, -, -, -, cg2, -⟩ := vints_cell (L := G) (n := m) h1.gens i (by rw [HM2.out]; exact hlt)
        obtain ⟨q, hq⟩ : ∃ q, q = G.getD i 0 := ⟨_, rfl⟩
        rw [← hq] at cg2
        have he : entK G B (i + 1) = entK G B i ++ [((i : Int), q)] := by rw [entK_succ, hb, hq]; simp
        have HE := Lib.hid he
        have hB := hbw.size
        clear hb he h1 hq hbw
        go_wp2_with (at_builtin; go_must (refine wpList_append_new rfl _ _ 45 rfl w.heap.size 55 (.agg #[.int .i64 0, .int .i64 0]) 2 16 Try.underlying45 (by kernel_rfl) rfl (by decide) _ _ _ rfl hown _ _ rfl rfl rfl (by omega) (by decide) hB ?_))
        intro g' cap' w2 hown' hg hor hlt'
        rw [entC_snoc] at hown'
        have hb2 : Below w.heap.size w w2 := HBW.out.grown hg hB (fun j hj => (hown.lt j hj).1)
        have HO := Lib.hid hown'
        have HB2 := Lib.hid hb2
        clear hown hown' hg hor hlt' hb2 hB
        go_wp2_with fail
        go_roundg (m - (i + 1))
        case measure => rw [G2.out]; omega
        case rel => exact ⟨i + 1, n + 1, hlt, rfl, by go_num, by rw [HE.out, List.length_append, ← HN.out]; rfl, by rw [HE.out]; exact HO.out, HB2.out⟩
    · have hi : i = m := by omega
      obtain ⟨a3, c3, rfl⟩ := own_slice hown
      have HOWN := Lib.hid hown
      clear hown hbw
      go_wp2_with fail
      go_ret
      subst hi
      exact ⟨a3, n, c3, HN.out.symm, rfl, EntsAt.of_own HOWN.out HN.out, HBW.out⟩
end Go.Proofs.Ytlahmcbaiebapaa
