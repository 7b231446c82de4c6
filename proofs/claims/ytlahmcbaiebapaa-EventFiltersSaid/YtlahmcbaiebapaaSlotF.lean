/- Slots: Free, and the room's. By program (gen_slots.py). -/
import Derived.Test.YtlahmcbaiebapaaSlotA
import Derived.Test.YtlahmcbaiebapaaRegAll
import Derived.Test.YtlahmcbaiebapaaRegNil
import Derived.Test.YtlahmcbaiebapaaRd
namespace Go.Proofs.Ytlahmcbaiebapaa
open Go.ChangeShapes Go.WideShapes Go.ChangeAt Go.RowKit Go.Mem Go.Sp Go.Slt
set_option linter.unusedVariables false
variable {w w' : World} {D s r : Nat} {vg vu vf vb vh : Value} {G : List Int} {B : List Bool} {U F : List Nat}
theorem Sl.re (h : Sl w D s vg vu vf G B U F) (B2 : List Bool) : Sl w D s vg vu vf G B2 U F := ⟨h.block, h.gens, h.used, h.free, h.ds, h.dw⟩
theorem Sl.setGen {ag m cg : Nat} (h : Sl w D s (.slice (some ⟨ag, 0, none⟩) m cg) vu vf G B U F) (hm : m = G.length) (i : Nat) (v : Int) : Sl (w.setCell ⟨ag, i, none⟩ (.int .i64 v)) D s (.slice (some ⟨ag, 0, none⟩) m cg) vu vf (G.set i v) B U F := by
  have hb : ∀ k, vu.ownBlock = some k → some k ≠ some ag := fun k hk e => own_other h.used h.gens (by decide) k hk (by rw [e]; rfl)
  have hf : ∀ k, vf.ownBlock = some k → some k ≠ some ag := fun k hk e => own_other h.free h.gens (by decide) k hk (by rw [e]; rfl)
  have hs : s ≠ ag := fun e => own_ne h.gens h.block (by decide) ag rfl (by rw [e])
  refine ⟨heap_far h.block hs _, ?_, own_set h.used hb _ _, own_set h.free hf _ _, h.ds, by simpa using h.dw⟩
  have h1 := h.gens
  rw [← hm] at h1
  have h2 := h1.stored i (.int .i64 v)
  rw [vints_set] at h2
  rw [List.length_set, ← hm]
  exact h2.1
theorem Sl.setUsed (h : Sl w D s vg vu vf G B U F) {v : Value} {A : List Nat} (hv : w.ownsRow D 26 1 v A.length (vints .u64 (V A))) : Sl (w.setCell ⟨s, 1, none⟩ v) D s vg v vf G B A F := by
  have hn : ∀ {e size n : Nat} {u : Value} {xs : List Value}, w.ownsRow D e size u n xs → e ≠ 134 → (w.setCell ⟨s, 1, none⟩ v).ownsRow D e size u n xs := fun ho he => own_set ho (own_ne ho h.block he) _ _
  refine ⟨?_, hn h.gens (by decide), hn hv (by decide), hn h.free (by decide), h.ds, by simpa using h.dw⟩
  have := heap_set h.block 1 v
  simpa using this
theorem Sl.setFree (h : Sl w D s vg vu vf G B U F) {v : Value} {A : List Nat} (hv : w.ownsRow D 26 1 v A.length (vints .u64 (V A))) : Sl (w.setCell ⟨s, 2, none⟩ v) D s vg vu v G B U A := by
  have hn : ∀ {e size n : Nat} {u : Value} {xs : List Value}, w.ownsRow D e size u n xs → e ≠ 134 → (w.setCell ⟨s, 2, none⟩ v).ownsRow D e size u n xs := fun ho he => own_set ho (own_ne ho h.block he) _ _
  refine ⟨?_, hn h.gens (by decide), hn h.used (by decide), hn hv (by decide), h.ds, by simpa using h.dw⟩
  have := heap_set h.block 2 v
  simpa using this
theorem Sl.setGens (h : Sl w D s vg vu vf G B U F) {v : Value} {G2 : List Int} (hv : w.ownsRow D 3 1 v G2.length (vints .i64 G2)) : Sl (w.setCell ⟨s, 0, none⟩ v) D s v vu vf G2 B U F := by
  have hn : ∀ {e size n : Nat} {u : Value} {xs : List Value}, w.ownsRow D e size u n xs → e ≠ 134 → (w.setCell ⟨s, 0, none⟩ v).ownsRow D e size u n xs := fun ho he => own_set ho (own_ne ho h.block he) _ _
  refine ⟨?_, hn hv (by decide), hn h.used (by decide), hn h.free (by decide), h.ds, by simpa using h.dw⟩
  have := heap_set h.block 0 v
  simpa using this
theorem Rm.ub {gb m cb : Nat} (h : Rm w D r vg (.slice (some ⟨gb, 0, none⟩) m cb) G B) (i : Nat) (hi : i < B.length) : w.cell? ⟨gb, i, none⟩ = some (.bool (B.getD i false)) ∧ w.frozen? ⟨gb, i, none⟩ = false := by
  obtain ⟨g, e, _, _, _, _, h1, h2⟩ := vbools_cell h.used i hi
  injection e with e; injection e with e
  subst e
  exact ⟨h1, h2⟩
theorem Rm.ug {gg m cg : Nat} (h : Rm w D r (.slice (some ⟨gg, 0, none⟩) m cg) vb G B) (i : Nat) (hi : i < G.length) : w.cell? ⟨gg, i, none⟩ = some (.int .i64 (G.getD i 0)) ∧ w.frozen? ⟨gg, i, none⟩ = false := by
  obtain ⟨g, e, _, _, _, _, h1, h2⟩ := vints_cell h.gens i hi
  injection e with e; injection e with e
  subst e
  exact ⟨h1, h2⟩
theorem Sl.ug {gg m cg : Nat} (h : Sl w D s (.slice (some ⟨gg, 0, none⟩) m cg) vu vf G B U F) (i : Nat) (hi : i < G.length) : w.cell? ⟨gg, i, none⟩ = some (.int .i64 (G.getD i 0)) ∧ w.frozen? ⟨gg, i, none⟩ = false := by
  obtain ⟨g, e, _, _, _, _, h1, h2⟩ := vints_cell h.gens i hi
  injection e with e; injection e with e
  subst e
  exact ⟨h1, h2⟩
/-- Behind a call on the slots. -/
def SlPost (G2 : List Int) (B2 : List Bool) (D s : Nat) (vg ret : Value) (w : World) (e : Ending) (w' : World) : Prop :=
  e = .returned ret ∧ ∃ vg' vu' vf' U2 F2, Sl w' D s vg' vu' vf' G2 B2 U2 F2 ∧ SI G2 B2 U2 F2 ∧ GrP (SlP s vg) w w' ∧ (∀ k, vg'.ownBlock = some k → vg.ownBlock = some k ∨ w.heap.size ≤ k)
def RmPost (G2 : List Int) (B2 : List Bool) (D r : Nat) (vg vb ret : Value) (w : World) (e : Ending) (w' : World) : Prop :=
  e = .returned ret ∧ ∃ vg' vb', Rm w' D r vg' vb' G2 B2 ∧ GrP (RmP r vg vb) w w' ∧ (∀ k, vg'.ownBlock = some k → vg.ownBlock = some k ∨ w.heap.size ≤ k)
theorem Rm.setGen {ag m cg : Nat} (h : Rm w D r (.slice (some ⟨ag, 0, none⟩) m cg) vb G B) (hm : m = G.length) (i : Nat) (v : Int) : Rm (w.setCell ⟨ag, i, none⟩ (.int .i64 v)) D r (.slice (some ⟨ag, 0, none⟩) m cg) vb (G.set i v) B := by
  have hb : ∀ k, vb.ownBlock = some k → some k ≠ some ag := fun k hk e => own_other h.used h.gens (by decide) k hk (by rw [e]; rfl)
  have hs : r ≠ ag := fun e => own_ne h.gens h.block (by decide) ag rfl (by rw [e])
  refine ⟨heap_far h.block hs _, ?_, own_set h.used hb _ _, h.dr, by simpa using h.dw⟩
  have h1 := h.gens
  rw [← hm] at h1
  have h2 := h1.stored i (.int .i64 v)
  rw [vints_set] at h2
  rw [List.length_set, ← hm]
  exact h2.1
theorem vbools_set (L : List Bool) (i : Nat) (v : Bool) : (vbools L).set i (.bool v) = vbools (L.set i v) := by simp [vbools, List.map_set]
theorem Rm.setUse {ab m cb : Nat} (h : Rm w D r vg (.slice (some ⟨ab, 0, none⟩) m cb) G B) (hm : m = B.length) (i : Nat) (v : Bool) : Rm (w.setCell ⟨ab, i, none⟩ (.bool v)) D r vg (.slice (some ⟨ab, 0, none⟩) m cb) G (B.set i v) := by
  have hb : ∀ k, vg.ownBlock = some k → some k ≠ some ab := fun k hk e => own_other h.gens h.used (by decide) k hk (by rw [e]; rfl)
  have hs : r ≠ ab := fun e => own_ne h.used h.block (by decide) ab rfl (by rw [e])
  refine ⟨heap_far h.block hs _, own_set h.gens hb _ _, ?_, h.dr, by simpa using h.dw⟩
  have h1 := h.used
  rw [← hm] at h1
  have h2 := h1.stored i (.bool v)
  rw [vbools_set] at h2
  rw [List.length_set, ← hm]
  exact h2.1

/-- A set in a row of the call's own. -/
def SetV (DD : Nat) (A : List Nat) (v : Value) (ww : World) : Prop := ∃ a n c, v = .slice a n c ∧ ww.ownsRow DD 26 1 v A.length (vints .u64 (V A))
theorem SetV.below {DD : Nat} {A : List Nat} {v : Value} (h : SetV DD A v w) (hb : Below w.heap.size w w') : SetV DD A v w' := by
  obtain ⟨a, n, c, e, ho⟩ := h
  exact ⟨a, n, c, e, own_below ho hb⟩
theorem SetV.of_res {DD : Nat} {A : List Nat} {w : World} {e : Ending} (h : SetRes A w e w') (hD : DD ≤ w.heap.size) : ∃ v, e = .returned v ∧ SetV DD A v w' ∧ Below w.heap.size w w' := by
  obtain ⟨a, n, c, h1, rfl, _, h2, h3⟩ := h
  exact ⟨_, rfl, ⟨a, n, c, rfl, by rw [h1]; exact own_lower h3 hD⟩, h2⟩
theorem list11 {α : Type} {vs : List α} (h : vs.length = 11) : ∃ x0 x1 x2 x3 x4 x5 x6 x7 x8 x9 x10, vs = [x0, x1, x2, x3, x4, x5, x6, x7, x8, x9, x10] := by
  obtain ⟨x0, t0, rfl, h0⟩ := cons_of h
  obtain ⟨x1, t1, rfl, h1⟩ := cons_of h0
  obtain ⟨x2, t2, rfl, h2⟩ := cons_of h1
  obtain ⟨x3, t3, rfl, h3⟩ := cons_of h2
  obtain ⟨x4, t4, rfl, h4⟩ := cons_of h3
  obtain ⟨x5, t5, rfl, h5⟩ := cons_of h4
  obtain ⟨x6, t6, rfl, h6⟩ := cons_of h5
  obtain ⟨x7, t7, rfl, h7⟩ := cons_of h6
  obtain ⟨x8, t8, rfl, h8⟩ := cons_of h7
  obtain ⟨x9, t9, rfl, h9⟩ := cons_of h8
  obtain ⟨x10, t10, rfl, h10⟩ := cons_of h9
  exact ⟨x0, x1, x2, x3, x4, x5, x6, x7, x8, x9, x10, by rw [List.eq_nil_of_length_eq_zero h10]⟩
def F_fr4 (BX DD s n nu cu : Nat) (au : Option Addr) (U : List Nat) (jq : Nat) (v : Value) (w : World) : Prop :=
  match jq with
  | 0 => v = .pointer (some ⟨s, 0, none⟩)
  | 1 => v = .pointer (some ⟨s, 0, none⟩)
  | 2 => v = .pointer (some ⟨s, 0, none⟩)
  | 3 => v = .pointer (some ⟨s, 1, none⟩)
  | 4 => v = .slice au nu cu
  | 5 => v = .pointer (some ⟨BX, 0, none⟩)
  | 6 => v = .int .i64 (n : Int)
  | 7 => SetV DD (joinN minus U (oneN (n : Int))) v w
  | 8 => v = .pointer (some ⟨s, 0, none⟩)
  | 9 => v = .pointer (some ⟨s, 1, none⟩)
  | _ => True
theorem F_fr4_mono (BX DD s n nu cu : Nat) (au : Option Addr) (U : List Nat) : Facts (F_fr4 BX DD s n nu cu au U) := ⟨by
  intro jq v w w' h hb
  unfold F_fr4 at h ⊢
  split at h
  all_goals first
    | exact h
    | exact h.below hb
    | trivial⟩
def F_fr6 (BX DD s n nf cf : Nat) (af : Option Addr) (FF : List Nat) (jq : Nat) (v : Value) (w : World) : Prop :=
  match jq with
  | 0 => v = .pointer (some ⟨s, 0, none⟩)
  | 1 => v = .pointer (some ⟨s, 0, none⟩)
  | 2 => v = .pointer (some ⟨s, 0, none⟩)
  | 3 => v = .pointer (some ⟨s, 2, none⟩)
  | 4 => v = .slice af nf cf
  | 5 => v = .pointer (some ⟨BX, 0, none⟩)
  | 6 => v = .int .i64 (n : Int)
  | 7 => SetV DD (withN FF (n : Int)) v w
  | 8 => v = .pointer (some ⟨s, 0, none⟩)
  | 9 => v = .pointer (some ⟨s, 2, none⟩)
  | _ => True
theorem F_fr6_mono (BX DD s n nf cf : Nat) (af : Option Addr) (FF : List Nat) : Facts (F_fr6 BX DD s n nf cf af FF) := ⟨by
  intro jq v w w' h hb
  unfold F_fr6 at h ⊢
  split at h
  all_goals first
    | exact h
    | exact h.below hb
    | trivial⟩


set_option maxRecDepth 100000 in
set_option maxHeartbeats 4000000 in
theorem rm_Free (h : Rm w D r vg vb G B) (hl : B.length = G.length) (hi : ∀ i, i < G.length → 0 ≤ G.getD i 0 ∧ G.getD i 0 ≤ M30) (N g : Int) :
    Calls Try.prog 40 #[.pointer (some ⟨r, 0, none⟩), .agg #[.int .i64 N, .int .i64 g]] w
      (RmPost (if alive G B N g = true then freeG G N.toNat else G) (if alive G B N g = true then freeB B N.toNat else B) D r vg vb (.int .i64 (if alive G B N g = true then 0 else 4)) w) := by
  have hb0 : Below w.heap.size w (w.alloc (.cells #[.int .i64 N, .int .i64 g] 55)) := (Below.refl _ _).alloc (Nat.le_refl _) _
  have h0 := h.below hb0
  have bx := heap_alloc_new w (.cells #[.int .i64 N, .int .i64 g] 55)
  have CA := rm_Alive h0 hl N g
  obtain ⟨al, hal⟩ : ∃ al, al = alive G B N g := ⟨_, rfl⟩
  rw [← hal] at CA ⊢
  have HCA := Lib.hid CA
  have HB0 := Lib.hid hb0
  have H0 := Lib.hid h0
  have HBX := Lib.hid bx
  cases al
  · clear CA hb0 h0 bx hal
    go_enter Try.func40, Try.ntmps40
    go_wp2_with fail
    refine HCA.out.mono ?_
    rintro e w1 ⟨rfl, b1⟩
    have H1 := Lib.hid (H0.out.below b1)
    have HB1 := Lib.hid (bt HB0.out b1)
    clear b1
    go_wp2_with fail
    go_ret
    exact ⟨rfl, _, _, H1.out, .of_below HB1.out, fun k hk => .inl hk⟩
  · have hn0 : 0 ≤ N ∧ B.getD N.toNat false = true := by
      unfold alive at hal
      have h1 := hal.symm
      simp only [Bool.and_eq_true, decide_eq_true_eq] at h1
      exact ⟨h1.1, h1.2.1⟩
    obtain ⟨n, rfl⟩ : ∃ n : Nat, N = (n : Int) := ⟨N.toNat, by omega⟩
    rw [Int.toNat_natCast] at hn0 ⊢
    have hn : n < B.length := by
      rcases Nat.lt_or_ge n B.length with q | q
      · exact q
      · rw [getD_over q] at hn0; cases hn0.2
    obtain ⟨ab, cb, rfl⟩ := own_slice h.used
    obtain ⟨ag, cg, rfl⟩ := own_slice h.gens
    obtain ⟨gb, rfl, _, _, gbl, gbD, _, _⟩ := vbools_cell h.used n hn
    obtain ⟨gg, rfl, _, _, ggl, ggD, _, _⟩ := vints_cell h.gens n (by omega)
    obtain ⟨m, hm⟩ : ∃ m, m = G.length := ⟨_, rfl⟩
    have hbg : gb ≠ gg := fun e => own_other h.used h.gens (by decide) gb rfl (by rw [e]; rfl)
    have hrg : r ≠ gg := fun e => own_ne h.gens h.block (by decide) gg rfl (by rw [e])
    have hrb : r ≠ gb := fun e => own_ne h.used h.block (by decide) gb rfl (by rw [e])
    have hwx : gg ≠ w.heap.size := by omega
    have hwb : gb ≠ w.heap.size := by omega
    obtain ⟨q, hq⟩ : ∃ q, q = G.getD n 0 := ⟨_, rfl⟩
    have hqi := hi n (by omega)
    rw [← hq] at hqi
    obtain ⟨q0, q1⟩ := hqi
    have q1 : q ≤ 1073741824 := q1
    have HQ := Lib.hid hq
    have HM := Lib.hid hm
    have HL := Lib.hid hl
    rw [hl, ← hm] at hn
    simp only [hl, ← hm, if_true] at H0 ⊢
    clear CA hb0 h0 bx hal hn0 hi hq hm hl h ggl gbl ggD gbD
    go_enter Try.func40, Try.ntmps40
    go_wp2_with fail
    refine HCA.out.mono ?_
    rintro e w1 ⟨rfl, b1⟩
    have h1 := H0.out.below b1
    have H1 := Lib.hid h1
    have HB1 := Lib.hid (bt HB0.out b1)
    have HBX1 := heap_below HBX.out b1
    have x0 := cell_of_row _ _ 0 _ _ _ HBX1
    simp only [List.getElem?_toArray, List.getElem?_cons_zero] at x0
    have HBX1x := Lib.hid HBX1
    have c0 := h1.c0
    have c1 := h1.c1
    obtain ⟨cb1, fb1⟩ := h1.ub n (by rw [HL.out, ← HM.out]; exact hn)
    obtain ⟨cg1, fg1⟩ := h1.ug n (by rw [← HM.out]; exact hn)
    have i1 : (0 : Int) ≤ (n : Int) := by omega
    have i2 : (n : Int) < (m : Int) := by omega
    have e9 : IntKind.i64.wrap (q + 1) = q + 1 := by rw [IntKind.wrap_i64]; omega
    rw [← HQ.out] at cg1
    clear h1 HBX1 b1
    go_wp2_with fail
    go_region
    have h2 := (H1.out.setUse (by rw [HL.out]; exact HM.out) n false).below (Below.refl _ _).drew
    have H2 := Lib.hid h2
    have hb2 := (GrP.of_below (P := RmP r (.slice (some ⟨gg, 0, none⟩) m cg) (.slice (some ⟨gb, 0, none⟩) m cb)) HB1.out).set (k := gb) (.inr (.inr rfl)) n (.bool false)
    have HB2 := Lib.hid hb2.drew
    have x2 : (w1.setCell ⟨gb, n, none⟩ (.bool false)).drew.cell? ⟨w.heap.size, 0, none⟩ = some (.int .i64 n) := by
      have := cell_of_row _ _ 0 _ _ _ (Mem.heap_drew (heap_far HBX1x.out (p := ⟨gb, n, none⟩) (fun e => hwb e.symm) (.bool false)))
      exact this
    obtain ⟨w2, hw2⟩ : ∃ w2, w2 = (w1.setCell ⟨gb, n, none⟩ (.bool false)).drew := ⟨_, rfl⟩
    rw [← hw2] at H2 HB2 x2 ⊢
    clear h2 hb2 hw2 cb1 fb1 cg1 fg1 c0 c1 x0
    have c0 := H2.out.c0
    obtain ⟨cg1, fg1⟩ := H2.out.ug n (by rw [← HM.out]; exact hn)
    rw [← HQ.out] at cg1
    go_wp2_with fail
    go_region
    have HF := Lib.hid (H2.out.setGen HM.out n (q + 1))
    have HBF := Lib.hid (HB2.out.set (k := gg) (.inr (.inl rfl)) n (.int .i64 (q + 1)))
    go_wp2_with fail
    go_ret
    refine ⟨rfl, .slice (some ⟨gg, 0, none⟩) m cg, .slice (some ⟨gb, 0, none⟩) m cb, ?_, HBF.out.drew, fun k hk => .inl hk⟩
    unfold freeG freeB
    rw [← HQ.out]
    exact HF.out.below (Below.refl _ _).drew

set_option maxRecDepth 100000 in
set_option maxHeartbeats 8000000 in
theorem sl_Free {E0 : List Nat} (h : Sl w D s vg vu vf G B U E0) (si : SI G B U E0) (N g : Int) (hN : N ≤ 9223372036854775807) :
    Calls Try.prog 39 #[.pointer (some ⟨s, 0, none⟩), .agg #[.int .i64 N, .int .i64 g]] w
      (SlPost (if alive G B N g = true then freeG G N.toNat else G) (if alive G B N g = true then freeB B N.toNat else B) D s vg (.int .i64 (if alive G B N g = true then 0 else 4)) w) := by
  have hb0 : Below w.heap.size w (w.alloc (.cells #[.int .i64 N, .int .i64 g] 55)) := (Below.refl _ _).alloc (Nat.le_refl _) _
  have h0 := h.below hb0
  have bx := heap_alloc_new w (.cells #[.int .i64 N, .int .i64 g] 55)
  have CA := sl_Alive h0 si N g hN
  obtain ⟨al, hal⟩ : ∃ al, al = alive G B N g := ⟨_, rfl⟩
  rw [← hal] at CA ⊢
  have HCA := Lib.hid CA
  have HB0 := Lib.hid hb0
  have H0 := Lib.hid h0
  have HBX := Lib.hid bx
  have HSI := Lib.hid si
  cases al
  · clear CA hb0 h0 bx hal
    go_enter Try.func39, Try.ntmps39
    go_wp2_with fail
    refine HCA.out.mono ?_
    rintro e w1 ⟨rfl, b1⟩
    have H1 := Lib.hid (H0.out.below b1)
    have HB1 := Lib.hid (bt HB0.out b1)
    clear b1
    go_wp2_with fail
    go_ret
    exact ⟨rfl, _, _, _, _, _, H1.out, HSI.out, .of_below HB1.out, fun k hk => .inl hk⟩
  · have hn0 : 0 ≤ N ∧ B.getD N.toNat false = true := by
      unfold alive at hal
      have h1 := hal.symm
      simp only [Bool.and_eq_true, decide_eq_true_eq] at h1
      exact ⟨h1.1, h1.2.1⟩
    obtain ⟨n, rfl⟩ : ∃ n : Nat, N = (n : Int) := ⟨N.toNat, by omega⟩
    rw [Int.toNat_natCast] at hn0 ⊢
    have hsi2 := Lib.hid (free_si si hn0.2)
    have hn : n < G.length := by
      rw [← si.len]
      rcases Nat.lt_or_ge n B.length with q | q
      · exact q
      · rw [getD_over q] at hn0; cases hn0.2
    obtain ⟨au, cu, rfl⟩ := own_slice h.used
    obtain ⟨af, cf, rfl⟩ := own_slice h.free
    obtain ⟨ag, cg, rfl⟩ := own_slice h.gens
    obtain ⟨gg, rfl, _, _, ggl, ggD, _, _⟩ := vints_cell h.gens n hn
    have hsg : s ≠ gg := fun e => own_ne h.gens h.block (by decide) gg rfl (by rw [e])
    have hsx : s ≠ w.heap.size := fun e => by have := lt_of_heap h.block; omega
    have hwx : gg ≠ w.heap.size := by omega
    obtain ⟨m, hm⟩ : ∃ m, m = G.length := ⟨_, rfl⟩
    obtain ⟨nu, hnu⟩ : ∃ nu, nu = U.length := ⟨_, rfl⟩
    obtain ⟨nf, hnf⟩ : ∃ nf, nf = E0.length := ⟨_, rfl⟩
    have hu1 : nu ≤ 17592186044416 := by have := si.cu.1; omega
    have hf1 : nf ≤ 17592186044416 := by have := si.cf.1; omega
    obtain ⟨q, hq⟩ : ∃ q, q = G.getD n 0 := ⟨_, rfl⟩
    have hqi := si.lo n hn
    have hlv := si.live n hn0.2
    rw [← hq] at hqi hlv
    obtain ⟨q0, _⟩ := hqi
    have q1 : q < 1073741824 := hlv
    have HQ := Lib.hid hq
    have HM := Lib.hid hm
    have HNU := Lib.hid hnu
    have HNF := Lib.hid hnf
    have HDW := Lib.hid h.dw
    rw [← hm] at hn
    simp only [← hm, ← hnu, ← hnf, if_true] at H0 ⊢
    clear CA hb0 h0 bx hal hn0 hq hm hnu hnf h ggl ggD hlv si
    go_enter Try.func39, Try.ntmps39
    go_wp2_with fail
    refine HCA.out.mono ?_
    rintro e w1 ⟨rfl, b1⟩
    have h1 := H0.out.below b1
    have H1 := Lib.hid h1
    have HB1 := Lib.hid (bt HB0.out b1)
    have hbx1 := heap_below HBX.out b1
    have x0 := cell_of_row _ _ 0 _ _ _ hbx1
    simp only [List.getElem?_toArray, List.getElem?_cons_zero] at x0
    have HBX1 := Lib.hid hbx1
    have c0 := h1.c0
    obtain ⟨cg1, fg1⟩ := h1.ug n (by rw [← HM.out]; exact hn)
    have i1 : (0 : Int) ≤ (n : Int) := by omega
    have i2 : (n : Int) < (m : Int) := by omega
    have e9 : IntKind.i64.wrap (q + 1) = q + 1 := by rw [IntKind.wrap_i64]; omega
    rw [← HQ.out] at cg1
    clear h1 hbx1 b1
    go_wp2_with fail
    go_region
    have h2 := (H1.out.setGen HM.out n (q + 1)).below (Below.refl _ _).drew
    have hb2 := ((GrP.of_below (P := SlP s (.slice (some ⟨gg, 0, none⟩) m cg)) HB1.out).set (k := gg) (.inr rfl) n (.int .i64 (q + 1))).drew
    have hbx2 := Mem.heap_drew (heap_far HBX1.out (p := ⟨gg, n, none⟩) (fun e => hwx e.symm) (.int .i64 (q + 1)))
    obtain ⟨w2, hw2⟩ : ∃ w2, w2 = (w1.setCell ⟨gg, n, none⟩ (.int .i64 (q + 1))).drew := ⟨_, rfl⟩
    rw [← hw2] at h2 hb2 hbx2 ⊢
    have H2 := Lib.hid h2
    have HB2 := Lib.hid hb2
    have HBX2 := Lib.hid hbx2
    have S0 := Lib.hid h2.c0
    have S1 := Lib.hid h2.c1
    have S2 := Lib.hid h2.c2
    have x2 := cell_of_row _ _ 0 _ _ _ hbx2
    simp only [List.getElem?_toArray, List.getElem?_cons_zero] at x2
    have X0 := Lib.hid x2
    have CW := Lib.hid (fun w' (hb : Below w2.heap.size w2 w') => (sets_Without U au nu cu HNU.out.symm hu1 HSI.out.cu.2.1 (n : Int) w' ((h2.below hb).su)).mono fun _ _ h => SetV.of_res (DD := D) h (Nat.le_trans (h2.below hb).dw (Nat.le_refl _)))
    have HDW2 := Lib.hid h2.dw
    clear h2 hb2 hw2 hbx2 x2 cg1 fg1 c0 x0
    go_wp2_with fail
    refine wp_region_facts_t rfl 10 (by kernel_rfl) (F_fr4 w.heap.size D s n nu cu au U) (F_fr4_mono w.heap.size D s n nu cu au U) ?_ ?_
    · refine ⟨?_, ?_, ?_, ?_, ?_, ?_, ?_, ?_, ?_, ?_, trivial⟩
      · intro vs w' F hb hd hF hl hT
        have e := (hF 0).trans (look_out _ 0 _ _ (by kernel_rfl))
        exact one_move _ rfl (by first | exact Or.inl rfl | exact Or.inr rfl) ⟨_, rfl, Below.refl _ _, e⟩
      · intro vs w' F hb hd hF hl hT
        have e := (hF 0).trans (look_out _ 0 _ _ (by kernel_rfl))
        exact one_move _ rfl (by first | exact Or.inl rfl | exact Or.inr rfl) ⟨_, rfl, Below.refl _ _, e⟩
      · intro vs w' F hb hd hF hl hT
        have e := ((hF 20).trans (look_at _ 20 1 _ _ (by kernel_rfl) (by kernel_rfl) hl)).trans (dep_of (Fact := F_fr4 w.heap.size D s n nu cu au U) hd 1 (by kernel_rfl))
        exact one_nilCheck _ rfl rfl _ e ⟨_, rfl, Below.refl _ _, rfl⟩
      · intro vs w' F hb hd hF hl hT
        have e := ((hF 21).trans (look_at _ 21 2 _ _ (by kernel_rfl) (by kernel_rfl) hl)).trans (dep_of (Fact := F_fr4 w.heap.size D s n nu cu au U) hd 2 (by kernel_rfl))
        exact one_field _ _ _ rfl rfl _ _ e (1) (fun w => by kernel_rfl) ⟨_, rfl, Below.refl _ _, rfl⟩
      · intro vs w' F hb hd hF hl hT
        have e := ((hF 22).trans (look_at _ 22 3 _ _ (by kernel_rfl) (by kernel_rfl) hl)).trans (dep_of (Fact := F_fr4 w.heap.size D s n nu cu au U) hd 3 (by kernel_rfl))
        exact one_load _ _ rfl rfl _ _ e (cell_abides S1.out hb) (by kernel_rfl) ⟨_, rfl, Below.refl _ _, rfl⟩
      · intro vs w' F hb hd hF hl hT
        have e := (hF 3).trans (look_out _ 3 _ _ (by kernel_rfl))
        exact one_field _ _ _ rfl rfl _ _ e (0) (fun w => by kernel_rfl) ⟨_, rfl, Below.refl _ _, rfl⟩
      · intro vs w' F hb hd hF hl hT
        have e := ((hF 24).trans (look_at _ 24 5 _ _ (by kernel_rfl) (by kernel_rfl) hl)).trans (dep_of (Fact := F_fr4 w.heap.size D s n nu cu au U) hd 5 (by kernel_rfl))
        exact one_load _ _ rfl rfl _ _ e (cell_abides X0.out hb) (by kernel_rfl) ⟨_, rfl, Below.refl _ _, rfl⟩
      · intro vs w' F hb hd hF hl hT
        have e1 := (((hF 23).trans (look_at _ 23 4 _ _ (by kernel_rfl) (by kernel_rfl) hl)).trans (dep_of (Fact := F_fr4 w.heap.size D s n nu cu au U) hd 4 (by kernel_rfl)))
        have e2 := (((hF 25).trans (look_at _ 25 6 _ _ (by kernel_rfl) (by kernel_rfl) hl)).trans (dep_of (Fact := F_fr4 w.heap.size D s n nu cu au U) hd 6 (by kernel_rfl)))
        refine one_call _ _ rfl rfl (enters_of Try.func26 (by kernel_rfl) rfl) #[.slice au nu cu, .int .i64 (n : Int)] (eval2 e1 e2) ?_
        refine (CW.out w' hb).mono ?_
        rintro e3 w3 ⟨v3, rfl, h3, hb3⟩
        exact ⟨_, rfl, _, rfl, hb3, h3⟩
      · intro vs w' F hb hd hF hl hT
        have e := ((hF 19).trans (look_at _ 19 0 _ _ (by kernel_rfl) (by kernel_rfl) hl)).trans (dep_of (Fact := F_fr4 w.heap.size D s n nu cu au U) hd 0 (by kernel_rfl))
        exact one_nilCheck _ rfl rfl _ e ⟨_, rfl, Below.refl _ _, rfl⟩
      · intro vs w' F hb hd hF hl hT
        have e := ((hF 27).trans (look_at _ 27 8 _ _ (by kernel_rfl) (by kernel_rfl) hl)).trans (dep_of (Fact := F_fr4 w.heap.size D s n nu cu au U) hd 8 (by kernel_rfl))
        exact one_field _ _ _ rfl rfl _ _ e (1) (fun w => by kernel_rfl) ⟨_, rfl, Below.refl _ _, rfl⟩
    · intro vs8 W8 hl hb hI
      obtain ⟨a7, n7, c7, hv7, ho7⟩ := hI 7 (by omega)
      rw [hv7] at ho7
      have hv9 : vs8.getD 9 undef = .pointer (some ⟨s, 1, none⟩) := hI 9 (by omega)
      obtain ⟨z0, z1, z2, z3, z4, z5, z6, z7, z8, z9, z10, hvs⟩ := list11 hl
      subst hvs
      replace hv7 : z7 = .slice a7 n7 c7 := hv7
      replace hv9 : z9 = .pointer (some ⟨s, 1, none⟩) := hv9
      subst hv7 hv9
      have h8 := H2.out.below hb
      have H8 := Lib.hid (h8.setUsed ho7)
      have HB8 := Lib.hid ((HB2.out.then hb).set (k := s) (.inl rfl) 1 (.slice a7 n7 c7))
      have hbx8 := Lib.hid (heap_far (heap_below HBX2.out hb) (p := ⟨s, 1, none⟩) (fun e => hsx e.symm) (.slice a7 n7 c7))
      have c1 := h8.c1
      have f1 := h8.fz 1
      clear hI hl ho7 hb h8 S0 S1 S2 X0 CW
      simp only [fillAll, Act.put, List.setIfInBounds_toArray, List.set_cons_succ, List.set_cons_zero, List.drop_succ_cons, List.drop_zero]
      go_wp2_with fail
      obtain ⟨w3, hw3⟩ : ∃ w3, w3 = W8.setCell ⟨s, 1, none⟩ (.slice a7 n7 c7) := ⟨_, rfl⟩
      rw [← hw3] at H8 HB8 hbx8 ⊢
      clear hw3 c1 f1
      have c0 := H8.out.c0
      obtain ⟨cg3, fg3⟩ := H8.out.ug n (by rw [List.length_set, ← HM.out]; exact hn)
      rw [getD_set' _ _ _ _ _ (by rw [← HM.out]; exact hn), if_pos rfl] at cg3
      have x3 := cell_of_row _ _ 0 _ _ _ hbx8.out
      simp only [List.getElem?_toArray, List.getElem?_cons_zero] at x3
      go_quiet (fail)
      have HBX9 := Lib.hid (show (w3.drewN nq).heap[w.heap.size]? = some (.cells #[.int .i64 (n : Int), .int .i64 g] 55 (0, 0)) from hbx8.out)
      have H9 := Lib.hid (H8.out.below (below_drewN (Below.refl _ _) nq))
      have HB9 := Lib.hid (HB8.out.drewN nq)
      obtain ⟨w4, hw4⟩ : ∃ w4, w4 = w3.drewN nq := ⟨_, rfl⟩
      rw [← hw4] at H9 HB9 HBX9 ⊢
      clear hw4 c0 cg3 fg3 x3
      by_cases hlt : q + 1 < 1073741824
      · have h4 := H9.out
        have S2 := Lib.hid h4.c2
        have x4 := cell_of_row _ _ 0 _ _ _ HBX9.out
        simp only [List.getElem?_toArray, List.getElem?_cons_zero] at x4
        have X0 := Lib.hid x4
        have CW := Lib.hid (fun w' (hb : Below w4.heap.size w4 w') => (sets_With E0 af nf cf HNF.out.symm hf1 HSI.out.cf.2.1 (n : Int) w' ((h4.below hb).sf)).mono fun _ _ h => SetV.of_res (DD := D) h (h4.below hb).dw)
        clear h4 x4
        go_wp2_with fail
        refine wp_region_facts_t rfl 10 (by kernel_rfl) (F_fr6 w.heap.size D s n nf cf af E0) (F_fr6_mono w.heap.size D s n nf cf af E0) ?_ ?_
        · refine ⟨?_, ?_, ?_, ?_, ?_, ?_, ?_, ?_, ?_, ?_, trivial⟩
          · intro vs w' F hb hd hF hl hT
            have e := (hF 0).trans (look_out _ 0 _ _ (by kernel_rfl))
            exact one_move _ rfl (by first | exact Or.inl rfl | exact Or.inr rfl) ⟨_, rfl, Below.refl _ _, e⟩
          · intro vs w' F hb hd hF hl hT
            have e := (hF 0).trans (look_out _ 0 _ _ (by kernel_rfl))
            exact one_move _ rfl (by first | exact Or.inl rfl | exact Or.inr rfl) ⟨_, rfl, Below.refl _ _, e⟩
          · intro vs w' F hb hd hF hl hT
            have e := ((hF 39).trans (look_at _ 39 1 _ _ (by kernel_rfl) (by kernel_rfl) hl)).trans (dep_of (Fact := F_fr6 w.heap.size D s n nf cf af E0) hd 1 (by kernel_rfl))
            exact one_nilCheck _ rfl rfl _ e ⟨_, rfl, Below.refl _ _, rfl⟩
          · intro vs w' F hb hd hF hl hT
            have e := ((hF 40).trans (look_at _ 40 2 _ _ (by kernel_rfl) (by kernel_rfl) hl)).trans (dep_of (Fact := F_fr6 w.heap.size D s n nf cf af E0) hd 2 (by kernel_rfl))
            exact one_field _ _ _ rfl rfl _ _ e (2) (fun w => by kernel_rfl) ⟨_, rfl, Below.refl _ _, rfl⟩
          · intro vs w' F hb hd hF hl hT
            have e := ((hF 41).trans (look_at _ 41 3 _ _ (by kernel_rfl) (by kernel_rfl) hl)).trans (dep_of (Fact := F_fr6 w.heap.size D s n nf cf af E0) hd 3 (by kernel_rfl))
            exact one_load _ _ rfl rfl _ _ e (cell_abides S2.out hb) (by kernel_rfl) ⟨_, rfl, Below.refl _ _, rfl⟩
          · intro vs w' F hb hd hF hl hT
            have e := (hF 3).trans (look_out _ 3 _ _ (by kernel_rfl))
            exact one_field _ _ _ rfl rfl _ _ e (0) (fun w => by kernel_rfl) ⟨_, rfl, Below.refl _ _, rfl⟩
          · intro vs w' F hb hd hF hl hT
            have e := ((hF 43).trans (look_at _ 43 5 _ _ (by kernel_rfl) (by kernel_rfl) hl)).trans (dep_of (Fact := F_fr6 w.heap.size D s n nf cf af E0) hd 5 (by kernel_rfl))
            exact one_load _ _ rfl rfl _ _ e (cell_abides X0.out hb) (by kernel_rfl) ⟨_, rfl, Below.refl _ _, rfl⟩
          · intro vs w' F hb hd hF hl hT
            have e1 := (((hF 42).trans (look_at _ 42 4 _ _ (by kernel_rfl) (by kernel_rfl) hl)).trans (dep_of (Fact := F_fr6 w.heap.size D s n nf cf af E0) hd 4 (by kernel_rfl)))
            have e2 := (((hF 44).trans (look_at _ 44 6 _ _ (by kernel_rfl) (by kernel_rfl) hl)).trans (dep_of (Fact := F_fr6 w.heap.size D s n nf cf af E0) hd 6 (by kernel_rfl)))
            refine one_call _ _ rfl rfl (enters_of Try.func24 (by kernel_rfl) rfl) #[.slice af nf cf, .int .i64 (n : Int)] (eval2 e1 e2) ?_
            refine (CW.out w' hb).mono ?_
            rintro e3 w3 ⟨v3, rfl, h3, hb3⟩
            exact ⟨_, rfl, _, rfl, hb3, h3⟩
          · intro vs w' F hb hd hF hl hT
            have e := ((hF 38).trans (look_at _ 38 0 _ _ (by kernel_rfl) (by kernel_rfl) hl)).trans (dep_of (Fact := F_fr6 w.heap.size D s n nf cf af E0) hd 0 (by kernel_rfl))
            exact one_nilCheck _ rfl rfl _ e ⟨_, rfl, Below.refl _ _, rfl⟩
          · intro vs w' F hb hd hF hl hT
            have e := ((hF 46).trans (look_at _ 46 8 _ _ (by kernel_rfl) (by kernel_rfl) hl)).trans (dep_of (Fact := F_fr6 w.heap.size D s n nf cf af E0) hd 8 (by kernel_rfl))
            exact one_field _ _ _ rfl rfl _ _ e (2) (fun w => by kernel_rfl) ⟨_, rfl, Below.refl _ _, rfl⟩
        · intro vs8 W8 hl hb hI
          obtain ⟨a5, n5, c5, hv7, ho7⟩ := hI 7 (by omega)
          rw [hv7] at ho7
          have hv9 : vs8.getD 9 undef = .pointer (some ⟨s, 2, none⟩) := hI 9 (by omega)
          obtain ⟨z0, z1, z2, z3, z4, z5, z6, z7, z8, z9, z10, hvs⟩ := list11 hl
          subst hvs
          replace hv7 : z7 = .slice a5 n5 c5 := hv7
          replace hv9 : z9 = .pointer (some ⟨s, 2, none⟩) := hv9
          subst hv7 hv9
          have h10 := H9.out.below hb
          have H10 := Lib.hid (h10.setFree ho7)
          have HB10 := Lib.hid ((HB9.out.then hb).set (k := s) (.inl rfl) 2 (.slice a5 n5 c5))
          have c2 := h10.c2
          have f2 := h10.fz 2
          clear hI hl ho7 hb h10 S2 X0 CW
          simp only [fillAll, Act.put, List.setIfInBounds_toArray, List.set_cons_succ, List.set_cons_zero, List.drop_succ_cons, List.drop_zero]
          go_wp2_with fail
          go_ret
          have hs := hsi2.out
          unfold freeF at hs
          rw [← HQ.out, if_pos hlt] at hs
          have hx := H10.out
          rw [show G.set n (q + 1) = freeG G n by unfold freeG; rw [← HQ.out]] at hx
          exact ⟨rfl, _, _, _, _, _, hx.re _, hs, HB10.out, fun k hk => .inl hk⟩
      · go_wp2_with fail
        go_ret
        have hs := hsi2.out
        unfold freeF at hs
        rw [← HQ.out, if_neg (show ¬ (q + 1 < M30) from by show ¬ (q + 1 < 1073741824); omega)] at hs
        have hx := H9.out
        rw [show G.set n (q + 1) = freeG G n by unfold freeG; rw [← HQ.out]] at hx
        exact ⟨rfl, _, _, _, _, _, hx.re _, hs, HB9.out, fun k hk => .inl hk⟩
end Go.Proofs.Ytlahmcbaiebapaa
