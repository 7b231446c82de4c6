/- Lemmas for the law TopSlotWorld: SlotF, SlotO. No conditions. -/
import Derived.Test.YtpilpkbblkhnaaaM05
import Derived.Test.YtpilpkbblkhnaaaM06
import Derived.Test.YtpilpkbblkhnaaaM04
/- Slots: Free, and the room's. By program (gen_slots.py). -/
section
namespace Go.Proofs.Ytpilpkbblkhnaaa
open Go.ChangeShapes Go.WideShapes Go.ChangeAt Go.RowKit Go.Mem Go.Sp Go.Slt
set_option linter.unusedVariables false
variable {w w' : World} {D s r : Nat} {vg vu vf vb vh : Value} {G : List Int} {B : List Bool} {U F : List Nat}
theorem Sl.re (h : Sl w D s vg vu vf G B U F) (B2 : List Bool) : Sl w D s vg vu vf G B2 U F := ⟨h.block, h.gens, h.used, h.free, h.ds, h.dw⟩
theorem Sl.setGen {ag m cg : Nat} (h : Sl w D s (.slice (some ⟨ag, 0, none⟩) m cg) vu vf G B U F) (hm : m = G.length) (i : Nat) (v : Int) : Sl (w.setCell ⟨ag, i, none⟩ (.int .i64 v)) D s (.slice (some ⟨ag, 0, none⟩) m cg) vu vf (G.set i v) B U F := by
  have hb : ∀ k, vu.ownBlock = some k → some k ≠ some ag := fun k hk e => own_other h.used h.gens (by decide) k hk (by rw [e]; rfl)
  have hf : ∀ k, vf.ownBlock = some k → some k ≠ some ag := fun k hk e => own_other h.free h.gens (by decide) k hk (by rw [e]; rfl)
  have hs : s ≠ ag := fun e => Mem.own_ne h.gens h.block (by decide) ag rfl (by rw [e])
  refine ⟨heap_far h.block hs _, ?_, own_set h.used hb _ _, own_set h.free hf _ _, h.ds, by simpa using h.dw⟩
  have h1 := h.gens
  rw [← hm] at h1
  have h2 := h1.stored i (.int .i64 v)
  rw [vints_set] at h2
  rw [List.length_set, ← hm]
  exact h2.1
theorem Sl.setUsed (h : Sl w D s vg vu vf G B U F) {v : Value} {A : List Nat} (hv : w.ownsRow D 61 1 v A.length (vints .u64 (V A))) : Sl (w.setCell ⟨s, 1, none⟩ v) D s vg v vf G B A F := by
  have hn : ∀ {e size n : Nat} {u : Value} {xs : List Value}, w.ownsRow D e size u n xs → e ≠ 74 → (w.setCell ⟨s, 1, none⟩ v).ownsRow D e size u n xs := fun ho he => own_set ho (Mem.own_ne ho h.block he) _ _
  refine ⟨?_, hn h.gens (by decide), hn hv (by decide), hn h.free (by decide), h.ds, by simpa using h.dw⟩
  have := heap_set h.block 1 v
  simpa using this
theorem Sl.setFree (h : Sl w D s vg vu vf G B U F) {v : Value} {A : List Nat} (hv : w.ownsRow D 61 1 v A.length (vints .u64 (V A))) : Sl (w.setCell ⟨s, 2, none⟩ v) D s vg vu v G B U A := by
  have hn : ∀ {e size n : Nat} {u : Value} {xs : List Value}, w.ownsRow D e size u n xs → e ≠ 74 → (w.setCell ⟨s, 2, none⟩ v).ownsRow D e size u n xs := fun ho he => own_set ho (Mem.own_ne ho h.block he) _ _
  refine ⟨?_, hn h.gens (by decide), hn h.used (by decide), hn hv (by decide), h.ds, by simpa using h.dw⟩
  have := heap_set h.block 2 v
  simpa using this
theorem Sl.setGens (h : Sl w D s vg vu vf G B U F) {v : Value} {G2 : List Int} (hv : w.ownsRow D 3 1 v G2.length (vints .i64 G2)) : Sl (w.setCell ⟨s, 0, none⟩ v) D s v vu vf G2 B U F := by
  have hn : ∀ {e size n : Nat} {u : Value} {xs : List Value}, w.ownsRow D e size u n xs → e ≠ 74 → (w.setCell ⟨s, 0, none⟩ v).ownsRow D e size u n xs := fun ho he => own_set ho (Mem.own_ne ho h.block he) _ _
  refine ⟨?_, hn hv (by decide), hn h.used (by decide), hn h.free (by decide), h.ds, by simpa using h.dw⟩
  have := heap_set h.block 0 v
  simpa using this
theorem Sl.ug {gg m cg : Nat} (h : Sl w D s (.slice (some ⟨gg, 0, none⟩) m cg) vu vf G B U F) (i : Nat) (hi : i < G.length) : w.cell? ⟨gg, i, none⟩ = some (.int .i64 (G.getD i 0)) ∧ w.frozen? ⟨gg, i, none⟩ = false := by
  obtain ⟨g, e, _, _, _, _, h1, h2⟩ := vints_cell h.gens i hi
  injection e with e; injection e with e
  subst e
  exact ⟨h1, h2⟩
/-- Behind a call on the slots. -/
def SlPost (G2 : List Int) (B2 : List Bool) (D s : Nat) (vg ret : Value) (w : World) (e : Ending) (w' : World) : Prop :=
  e = .returned ret ∧ ∃ vg' vu' vf' U2 F2, Sl w' D s vg' vu' vf' G2 B2 U2 F2 ∧ SI G2 B2 U2 F2 ∧ GrP (SlP s vg) w w' ∧ (∀ k, vg'.ownBlock = some k → vg.ownBlock = some k ∨ w.heap.size ≤ k)
/-- A set in a row of the call's own. -/
def SetV (DD : Nat) (A : List Nat) (v : Value) (ww : World) : Prop := ∃ a n c, v = .slice a n c ∧ ww.ownsRow DD 61 1 v A.length (vints .u64 (V A))
theorem SetV.below {DD : Nat} {A : List Nat} {v : Value} (h : SetV DD A v w) (hb : Below w.heap.size w w') : SetV DD A v w' := by
  obtain ⟨a, n, c, e, ho⟩ := h
  exact ⟨a, n, c, e, own_below ho hb⟩
theorem SetV.of_res {DD : Nat} {A : List Nat} {w : World} {e : Ending} (h : SetRes A w e w') (hD : DD ≤ w.heap.size) : ∃ v, e = .returned v ∧ SetV DD A v w' ∧ Below w.heap.size w w' := by
  obtain ⟨a, n, c, h1, rfl, _, h2, h3⟩ := h
  exact ⟨_, rfl, ⟨a, n, c, rfl, by rw [h1]; exact own_lower h3 hD⟩, h2⟩
theorem list11 {α : Type} {vs : List α} (h : vs.length = 11) : ∃ x0 x1 x2 x3 x4 x5 x6 x7 x8 x9 x10, vs = [x0, x1, x2, x3, x4, x5, x6, x7, x8, x9, x10] := by
  obtain ⟨x0, t0, rfl, h0⟩ := cons_of h
  obtain ⟨x1, t1, rfl, h1⟩ := cons_of h0
  obtain ⟨x2, t2, rfl, h2⟩ := cons_of h1
  obtain ⟨x3, t3, rfl, h3⟩ := cons_of h2
  obtain ⟨x4, t4, rfl, h4⟩ := cons_of h3
  obtain ⟨x5, t5, rfl, h5⟩ := cons_of h4
  obtain ⟨x6, t6, rfl, h6⟩ := cons_of h5
  obtain ⟨x7, t7, rfl, h7⟩ := cons_of h6
  obtain ⟨x8, t8, rfl, h8⟩ := cons_of h7
  obtain ⟨x9, t9, rfl, h9⟩ := cons_of h8
  obtain ⟨x10, t10, rfl, h10⟩ := cons_of h9
  exact ⟨x0, x1, x2, x3, x4, x5, x6, x7, x8, x9, x10, by rw [List.eq_nil_of_length_eq_zero h10]⟩
def F_fr4 (BX DD s n nu cu : Nat) (au : Option Addr) (U : List Nat) (jq : Nat) (v : Value) (w : World) : Prop :=
  match jq with
  | 0 => v = .pointer (some ⟨s, 0, none⟩)
  | 1 => v = .pointer (some ⟨s, 0, none⟩)
  | 2 => v = .pointer (some ⟨s, 0, none⟩)
  | 3 => v = .pointer (some ⟨s, 1, none⟩)
  | 4 => v = .slice au nu cu
  | 5 => v = .pointer (some ⟨BX, 0, none⟩)
  | 6 => v = .int .i64 (n : Int)
  | 7 => SetV DD (joinN minus U (oneN (n : Int))) v w
  | 8 => v = .pointer (some ⟨s, 0, none⟩)
  | 9 => v = .pointer (some ⟨s, 1, none⟩)
  | _ => True
theorem F_fr4_mono (BX DD s n nu cu : Nat) (au : Option Addr) (U : List Nat) : Facts (F_fr4 BX DD s n nu cu au U) := ⟨by
  intro jq v w w' h hb
  unfold F_fr4 at h ⊢
  split at h
  all_goals first
    | exact h
    | exact h.below hb
    | trivial⟩
def F_fr6 (BX DD s n nf cf : Nat) (af : Option Addr) (FF : List Nat) (jq : Nat) (v : Value) (w : World) : Prop :=
  match jq with
  | 0 => v = .pointer (some ⟨s, 0, none⟩)
  | 1 => v = .pointer (some ⟨s, 0, none⟩)
  | 2 => v = .pointer (some ⟨s, 0, none⟩)
  | 3 => v = .pointer (some ⟨s, 2, none⟩)
  | 4 => v = .slice af nf cf
  | 5 => v = .pointer (some ⟨BX, 0, none⟩)
  | 6 => v = .int .i64 (n : Int)
  | 7 => SetV DD (withN FF (n : Int)) v w
  | 8 => v = .pointer (some ⟨s, 0, none⟩)
  | 9 => v = .pointer (some ⟨s, 2, none⟩)
  | _ => True
theorem F_fr6_mono (BX DD s n nf cf : Nat) (af : Option Addr) (FF : List Nat) : Facts (F_fr6 BX DD s n nf cf af FF) := ⟨by
  intro jq v w w' h hb
  unfold F_fr6 at h ⊢
  split at h
  all_goals first
    | exact h
    | exact h.below hb
    | trivial⟩


set_option maxRecDepth 100000 in
set_option maxHeartbeats 8000000 in
theorem sl_Free {E0 : List Nat} (h : Sl w D s vg vu vf G B U E0) (si : SI G B U E0) (N g : Int) (hN : N ≤ 9223372036854775807) :
    Calls Try.prog 12 #[.pointer (some ⟨s, 0, none⟩), .agg #[.int .i64 N, .int .i64 g]] w
      (SlPost (if alive G B N g = true then freeG G N.toNat else G) (if alive G B N g = true then freeB B N.toNat else B) D s vg (.int .i64 (if alive G B N g = true then 0 else 4)) w) := by
  have hb0 : Below w.heap.size w (w.alloc (.cells #[.int .i64 N, .int .i64 g] 30)) := (Below.refl _ _).alloc (Nat.le_refl _) _
  have h0 := h.below hb0
  have bx := heap_alloc_new w (.cells #[.int .i64 N, .int .i64 g] 30)
  have CA := sl_Alive h0 si N g hN
  obtain ⟨al, hal⟩ : ∃ al, al = alive G B N g := ⟨_, rfl⟩
  rw [← hal] at CA ⊢
  have HCA := Lib.hid CA
  have HB0 := Lib.hid hb0
  have H0 := Lib.hid h0
  have HBX := Lib.hid bx
  have HSI := Lib.hid si
  cases al
  · clear CA hb0 h0 bx hal
    go_enter Try.func12, Try.ntmps12
    go_wp2_with fail
    refine HCA.out.mono ?_
    rintro e w1 ⟨rfl, b1⟩
    have H1 := Lib.hid (H0.out.below b1)
    have HB1 := Lib.hid (bt HB0.out b1)
    clear b1
    go_wp2_with fail
    go_ret
    exact ⟨rfl, _, _, _, _, _, H1.out, HSI.out, .of_below HB1.out, fun k hk => .inl hk⟩
  · have hn0 : 0 ≤ N ∧ B.getD N.toNat false = true := by
      unfold alive at hal
      have h1 := hal.symm
      simp only [Bool.and_eq_true, decide_eq_true_eq] at h1
      exact ⟨h1.1, h1.2.1⟩
    obtain ⟨n, rfl⟩ : ∃ n : Nat, N = (n : Int) := ⟨N.toNat, by omega⟩
    rw [Int.toNat_natCast] at hn0 ⊢
    have hsi2 := Lib.hid (free_si si hn0.2)
    have hn : n < G.length := by
      rw [← si.len]
      rcases Nat.lt_or_ge n B.length with q | q
      · exact q
      · rw [getD_over q] at hn0; cases hn0.2
    obtain ⟨au, cu, rfl⟩ := own_slice h.used
    obtain ⟨af, cf, rfl⟩ := own_slice h.free
    obtain ⟨ag, cg, rfl⟩ := own_slice h.gens
    obtain ⟨gg, rfl, _, _, ggl, ggD, _, _⟩ := vints_cell h.gens n hn
    have hsg : s ≠ gg := fun e => Mem.own_ne h.gens h.block (by decide) gg rfl (by rw [e])
    have hsx : s ≠ w.heap.size := fun e => by have := lt_of_heap h.block; omega
    have hwx : gg ≠ w.heap.size := by omega
    obtain ⟨m, hm⟩ : ∃ m, m = G.length := ⟨_, rfl⟩
    obtain ⟨nu, hnu⟩ : ∃ nu, nu = U.length := ⟨_, rfl⟩
    obtain ⟨nf, hnf⟩ : ∃ nf, nf = E0.length := ⟨_, rfl⟩
    have hu1 : nu ≤ 17592186044416 := by have := si.cu.1; omega
    have hf1 : nf ≤ 17592186044416 := by have := si.cf.1; omega
    obtain ⟨q, hq⟩ : ∃ q, q = G.getD n 0 := ⟨_, rfl⟩
    have hqi := si.lo n hn
    have hlv := si.live n hn0.2
    rw [← hq] at hqi hlv
    obtain ⟨q0, _⟩ := hqi
    have q1 : q < 1073741824 := hlv
    have HQ := Lib.hid hq
    have HM := Lib.hid hm
    have HNU := Lib.hid hnu
    have HNF := Lib.hid hnf
    have HDW := Lib.hid h.dw
    rw [← hm] at hn
    simp only [← hm, ← hnu, ← hnf, if_true] at H0 ⊢
    clear CA hb0 h0 bx hal hn0 hq hm hnu hnf h ggl ggD hlv si
    go_enter Try.func12, Try.ntmps12
    go_wp2_with fail
    refine HCA.out.mono ?_
    rintro e w1 ⟨rfl, b1⟩
    have h1 := H0.out.below b1
    have H1 := Lib.hid h1
    have HB1 := Lib.hid (bt HB0.out b1)
    have hbx1 := heap_below HBX.out b1
    have x0 := cell_of_row _ _ 0 _ _ _ hbx1
    simp only [List.getElem?_toArray, List.getElem?_cons_zero] at x0
    have HBX1 := Lib.hid hbx1
    have c0 := h1.c0
    obtain ⟨cg1, fg1⟩ := h1.ug n (by rw [← HM.out]; exact hn)
    have i1 : (0 : Int) ≤ (n : Int) := by omega
    have i2 : (n : Int) < (m : Int) := by omega
    have e9 : IntKind.i64.wrap (q + 1) = q + 1 := by rw [IntKind.wrap_i64]; omega
    rw [← HQ.out] at cg1
    clear h1 hbx1 b1
    go_wp2_with fail
    go_region
    have h2 := (H1.out.setGen HM.out n (q + 1)).below (Below.refl _ _).drew
    have hb2 := ((GrP.of_below (P := SlP s (.slice (some ⟨gg, 0, none⟩) m cg)) HB1.out).set (k := gg) (.inr rfl) n (.int .i64 (q + 1))).drew
    have hbx2 := Mem.heap_drew (heap_far HBX1.out (p := ⟨gg, n, none⟩) (fun e => hwx e.symm) (.int .i64 (q + 1)))
    obtain ⟨w2, hw2⟩ : ∃ w2, w2 = (w1.setCell ⟨gg, n, none⟩ (.int .i64 (q + 1))).drew := ⟨_, rfl⟩
    rw [← hw2] at h2 hb2 hbx2 ⊢
    have H2 := Lib.hid h2
    have HB2 := Lib.hid hb2
    have HBX2 := Lib.hid hbx2
    have S0 := Lib.hid h2.c0
    have S1 := Lib.hid h2.c1
    have S2 := Lib.hid h2.c2
    have x2 := cell_of_row _ _ 0 _ _ _ hbx2
    simp only [List.getElem?_toArray, List.getElem?_cons_zero] at x2
    have X0 := Lib.hid x2
    have CW := Lib.hid (fun w' (hb : Below w2.heap.size w2 w') => (sets_Without U au nu cu HNU.out.symm hu1 HSI.out.cu.2.1 (n : Int) w' ((h2.below hb).su)).mono fun _ _ h => SetV.of_res (DD := D) h (Nat.le_trans (h2.below hb).dw (Nat.le_refl _)))
    have HDW2 := Lib.hid h2.dw
    clear h2 hb2 hw2 hbx2 x2 cg1 fg1 c0 x0
    go_wp2_with fail
    refine wp_region_facts_t rfl 10 (by kernel_rfl) (F_fr4 w.heap.size D s n nu cu au U) (F_fr4_mono w.heap.size D s n nu cu au U) ?_ ?_
    · refine ⟨?_, ?_, ?_, ?_, ?_, ?_, ?_, ?_, ?_, ?_, trivial⟩
      · intro vs w' F hb hd hF hl hT
        have e := (hF 0).trans (look_out _ 0 _ _ (by kernel_rfl))
        exact one_move _ rfl (by first | exact Or.inl rfl | exact Or.inr rfl) ⟨_, rfl, Below.refl _ _, e⟩
      · intro vs w' F hb hd hF hl hT
        have e := (hF 0).trans (look_out _ 0 _ _ (by kernel_rfl))
        exact one_move _ rfl (by first | exact Or.inl rfl | exact Or.inr rfl) ⟨_, rfl, Below.refl _ _, e⟩
      · intro vs w' F hb hd hF hl hT
        have e := ((hF 20).trans (look_at _ 20 1 _ _ (by kernel_rfl) (by kernel_rfl) hl)).trans (dep_of (Fact := F_fr4 w.heap.size D s n nu cu au U) hd 1 (by kernel_rfl))
        exact one_nilCheck _ rfl rfl _ e ⟨_, rfl, Below.refl _ _, rfl⟩
      · intro vs w' F hb hd hF hl hT
        have e := ((hF 21).trans (look_at _ 21 2 _ _ (by kernel_rfl) (by kernel_rfl) hl)).trans (dep_of (Fact := F_fr4 w.heap.size D s n nu cu au U) hd 2 (by kernel_rfl))
        exact one_field _ _ _ rfl rfl _ _ e (1) (fun w => by kernel_rfl) ⟨_, rfl, Below.refl _ _, rfl⟩
      · intro vs w' F hb hd hF hl hT
        have e := ((hF 22).trans (look_at _ 22 3 _ _ (by kernel_rfl) (by kernel_rfl) hl)).trans (dep_of (Fact := F_fr4 w.heap.size D s n nu cu au U) hd 3 (by kernel_rfl))
        exact one_load _ _ rfl rfl _ _ e (cell_abides S1.out hb) (by kernel_rfl) ⟨_, rfl, Below.refl _ _, rfl⟩
      · intro vs w' F hb hd hF hl hT
        have e := (hF 3).trans (look_out _ 3 _ _ (by kernel_rfl))
        exact one_field _ _ _ rfl rfl _ _ e (0) (fun w => by kernel_rfl) ⟨_, rfl, Below.refl _ _, rfl⟩
      · intro vs w' F hb hd hF hl hT
        have e := ((hF 24).trans (look_at _ 24 5 _ _ (by kernel_rfl) (by kernel_rfl) hl)).trans (dep_of (Fact := F_fr4 w.heap.size D s n nu cu au U) hd 5 (by kernel_rfl))
        exact one_load _ _ rfl rfl _ _ e (cell_abides X0.out hb) (by kernel_rfl) ⟨_, rfl, Below.refl _ _, rfl⟩
      · intro vs w' F hb hd hF hl hT
        have e1 := (((hF 23).trans (look_at _ 23 4 _ _ (by kernel_rfl) (by kernel_rfl) hl)).trans (dep_of (Fact := F_fr4 w.heap.size D s n nu cu au U) hd 4 (by kernel_rfl)))
        have e2 := (((hF 25).trans (look_at _ 25 6 _ _ (by kernel_rfl) (by kernel_rfl) hl)).trans (dep_of (Fact := F_fr4 w.heap.size D s n nu cu au U) hd 6 (by kernel_rfl)))
        refine one_call _ _ rfl rfl (enters_of Try.func27 (by kernel_rfl) rfl) #[.slice au nu cu, .int .i64 (n : Int)] (eval2 e1 e2) ?_
        refine (CW.out w' hb).mono ?_
        rintro e3 w3 ⟨v3, rfl, h3, hb3⟩
        exact ⟨_, rfl, _, rfl, hb3, h3⟩
      · intro vs w' F hb hd hF hl hT
        have e := ((hF 19).trans (look_at _ 19 0 _ _ (by kernel_rfl) (by kernel_rfl) hl)).trans (dep_of (Fact := F_fr4 w.heap.size D s n nu cu au U) hd 0 (by kernel_rfl))
        exact one_nilCheck _ rfl rfl _ e ⟨_, rfl, Below.refl _ _, rfl⟩
      · intro vs w' F hb hd hF hl hT
        have e := ((hF 27).trans (look_at _ 27 8 _ _ (by kernel_rfl) (by kernel_rfl) hl)).trans (dep_of (Fact := F_fr4 w.heap.size D s n nu cu au U) hd 8 (by kernel_rfl))
        exact one_field _ _ _ rfl rfl _ _ e (1) (fun w => by kernel_rfl) ⟨_, rfl, Below.refl _ _, rfl⟩
    · intro vs8 W8 hl hb hI
      obtain ⟨a7, n7, c7, hv7, ho7⟩ := hI 7 (by omega)
      rw [hv7] at ho7
      have hv9 : vs8.getD 9 undef = .pointer (some ⟨s, 1, none⟩) := hI 9 (by omega)
      obtain ⟨z0, z1, z2, z3, z4, z5, z6, z7, z8, z9, z10, hvs⟩ := list11 hl
      subst hvs
      replace hv7 : z7 = .slice a7 n7 c7 := hv7
      replace hv9 : z9 = .pointer (some ⟨s, 1, none⟩) := hv9
      subst hv7 hv9
      have h8 := H2.out.below hb
      have H8 := Lib.hid (h8.setUsed ho7)
      have HB8 := Lib.hid ((HB2.out.then hb).set (k := s) (.inl rfl) 1 (.slice a7 n7 c7))
      have hbx8 := Lib.hid (heap_far (heap_below HBX2.out hb) (p := ⟨s, 1, none⟩) (fun e => hsx e.symm) (.slice a7 n7 c7))
      have c1 := h8.c1
      have f1 := h8.fz 1
      clear hI hl ho7 hb h8 S0 S1 S2 X0 CW
      simp only [fillAll, Act.put, List.setIfInBounds_toArray, List.set_cons_succ, List.set_cons_zero, List.drop_succ_cons, List.drop_zero]
      go_wp2_with fail
      obtain ⟨w3, hw3⟩ : ∃ w3, w3 = W8.setCell ⟨s, 1, none⟩ (.slice a7 n7 c7) := ⟨_, rfl⟩
      rw [← hw3] at H8 HB8 hbx8 ⊢
      clear hw3 c1 f1
      have c0 := H8.out.c0
      obtain ⟨cg3, fg3⟩ := H8.out.ug n (by rw [List.length_set, ← HM.out]; exact hn)
      rw [getD_set' _ _ _ _ _ (by rw [← HM.out]; exact hn), if_pos rfl] at cg3
      have x3 := cell_of_row _ _ 0 _ _ _ hbx8.out
      simp only [List.getElem?_toArray, List.getElem?_cons_zero] at x3
      go_quiet (fail)
      have HBX9 := Lib.hid (show (w3.drewN nq).heap[w.heap.size]? = some (.cells #[.int .i64 (n : Int), .int .i64 g] 30 (0, 0)) from hbx8.out)
      have H9 := Lib.hid (H8.out.below (below_drewN (Below.refl _ _) nq))
      have HB9 := Lib.hid (HB8.out.drewN nq)
      obtain ⟨w4, hw4⟩ : ∃ w4, w4 = w3.drewN nq := ⟨_, rfl⟩
      rw [← hw4] at H9 HB9 HBX9 ⊢
      clear hw4 c0 cg3 fg3 x3
      by_cases hlt : q + 1 < 1073741824
      · have h4 := H9.out
        have S2 := Lib.hid h4.c2
        have x4 := cell_of_row _ _ 0 _ _ _ HBX9.out
        simp only [List.getElem?_toArray, List.getElem?_cons_zero] at x4
        have X0 := Lib.hid x4
        have CW := Lib.hid (fun w' (hb : Below w4.heap.size w4 w') => (sets_With E0 af nf cf HNF.out.symm hf1 HSI.out.cf.2.1 (n : Int) w' ((h4.below hb).sf)).mono fun _ _ h => SetV.of_res (DD := D) h (h4.below hb).dw)
        clear h4 x4
        go_wp2_with fail
        refine wp_region_facts_t rfl 10 (by kernel_rfl) (F_fr6 w.heap.size D s n nf cf af E0) (F_fr6_mono w.heap.size D s n nf cf af E0) ?_ ?_
        · refine ⟨?_, ?_, ?_, ?_, ?_, ?_, ?_, ?_, ?_, ?_, trivial⟩
          · intro vs w' F hb hd hF hl hT
            have e := (hF 0).trans (look_out _ 0 _ _ (by kernel_rfl))
            exact one_move _ rfl (by first | exact Or.inl rfl | exact Or.inr rfl) ⟨_, rfl, Below.refl _ _, e⟩
          · intro vs w' F hb hd hF hl hT
            have e := (hF 0).trans (look_out _ 0 _ _ (by kernel_rfl))
            exact one_move _ rfl (by first | exact Or.inl rfl | exact Or.inr rfl) ⟨_, rfl, Below.refl _ _, e⟩
          · intro vs w' F hb hd hF hl hT
            have e := ((hF 39).trans (look_at _ 39 1 _ _ (by kernel_rfl) (by kernel_rfl) hl)).trans (dep_of (Fact := F_fr6 w.heap.size D s n nf cf af E0) hd 1 (by kernel_rfl))
            exact one_nilCheck _ rfl rfl _ e ⟨_, rfl, Below.refl _ _, rfl⟩
          · intro vs w' F hb hd hF hl hT
            have e := ((hF 40).trans (look_at _ 40 2 _ _ (by kernel_rfl) (by kernel_rfl) hl)).trans (dep_of (Fact := F_fr6 w.heap.size D s n nf cf af E0) hd 2 (by kernel_rfl))
            exact one_field _ _ _ rfl rfl _ _ e (2) (fun w => by kernel_rfl) ⟨_, rfl, Below.refl _ _, rfl⟩
          · intro vs w' F hb hd hF hl hT
            have e := ((hF 41).trans (look_at _ 41 3 _ _ (by kernel_rfl) (by kernel_rfl) hl)).trans (dep_of (Fact := F_fr6 w.heap.size D s n nf cf af E0) hd 3 (by kernel_rfl))
            exact one_load _ _ rfl rfl _ _ e (cell_abides S2.out hb) (by kernel_rfl) ⟨_, rfl, Below.refl _ _, rfl⟩
          · intro vs w' F hb hd hF hl hT
            have e := (hF 3).trans (look_out _ 3 _ _ (by kernel_rfl))
            exact one_field _ _ _ rfl rfl _ _ e (0) (fun w => by kernel_rfl) ⟨_, rfl, Below.refl _ _, rfl⟩
          · intro vs w' F hb hd hF hl hT
            have e := ((hF 43).trans (look_at _ 43 5 _ _ (by kernel_rfl) (by kernel_rfl) hl)).trans (dep_of (Fact := F_fr6 w.heap.size D s n nf cf af E0) hd 5 (by kernel_rfl))
            exact one_load _ _ rfl rfl _ _ e (cell_abides X0.out hb) (by kernel_rfl) ⟨_, rfl, Below.refl _ _, rfl⟩
          · intro vs w' F hb hd hF hl hT
            have e1 := (((hF 42).trans (look_at _ 42 4 _ _ (by kernel_rfl) (by kernel_rfl) hl)).trans (dep_of (Fact := F_fr6 w.heap.size D s n nf cf af E0) hd 4 (by kernel_rfl)))
            have e2 := (((hF 44).trans (look_at _ 44 6 _ _ (by kernel_rfl) (by kernel_rfl) hl)).trans (dep_of (Fact := F_fr6 w.heap.size D s n nf cf af E0) hd 6 (by kernel_rfl)))
            refine one_call _ _ rfl rfl (enters_of Try.func24 (by kernel_rfl) rfl) #[.slice af nf cf, .int .i64 (n : Int)] (eval2 e1 e2) ?_
            refine (CW.out w' hb).mono ?_
            rintro e3 w3 ⟨v3, rfl, h3, hb3⟩
            exact ⟨_, rfl, _, rfl, hb3, h3⟩
          · intro vs w' F hb hd hF hl hT
            have e := ((hF 38).trans (look_at _ 38 0 _ _ (by kernel_rfl) (by kernel_rfl) hl)).trans (dep_of (Fact := F_fr6 w.heap.size D s n nf cf af E0) hd 0 (by kernel_rfl))
            exact one_nilCheck _ rfl rfl _ e ⟨_, rfl, Below.refl _ _, rfl⟩
          · intro vs w' F hb hd hF hl hT
            have e := ((hF 46).trans (look_at _ 46 8 _ _ (by kernel_rfl) (by kernel_rfl) hl)).trans (dep_of (Fact := F_fr6 w.heap.size D s n nf cf af E0) hd 8 (by kernel_rfl))
            exact one_field _ _ _ rfl rfl _ _ e (2) (fun w => by kernel_rfl) ⟨_, rfl, Below.refl _ _, rfl⟩
        · intro vs8 W8 hl hb hI
          obtain ⟨a5, n5, c5, hv7, ho7⟩ := hI 7 (by omega)
          rw [hv7] at ho7
          have hv9 : vs8.getD 9 undef = .pointer (some ⟨s, 2, none⟩) := hI 9 (by omega)
          obtain ⟨z0, z1, z2, z3, z4, z5, z6, z7, z8, z9, z10, hvs⟩ := list11 hl
          subst hvs
          replace hv7 : z7 = .slice a5 n5 c5 := hv7
          replace hv9 : z9 = .pointer (some ⟨s, 2, none⟩) := hv9
          subst hv7 hv9
          have h10 := H9.out.below hb
          have H10 := Lib.hid (h10.setFree ho7)
          have HB10 := Lib.hid ((HB9.out.then hb).set (k := s) (.inl rfl) 2 (.slice a5 n5 c5))
          have c2 := h10.c2
          have f2 := h10.fz 2
          clear hI hl ho7 hb h10 S2 X0 CW
          simp only [fillAll, Act.put, List.setIfInBounds_toArray, List.set_cons_succ, List.set_cons_zero, List.drop_succ_cons, List.drop_zero]
          go_wp2_with fail
          go_ret
          have hs := hsi2.out
          unfold freeF at hs
          rw [← HQ.out, if_pos hlt] at hs
          have hx := H10.out
          rw [show G.set n (q + 1) = freeG G n by unfold freeG; rw [← HQ.out]] at hx
          exact ⟨rfl, _, _, _, _, _, hx.re _, hs, HB10.out, fun k hk => .inl hk⟩
      · go_wp2_with fail
        go_ret
        have hs := hsi2.out
        unfold freeF at hs
        rw [← HQ.out, if_neg (show ¬ (q + 1 < M30) from by show ¬ (q + 1 < 1073741824); omega)] at hs
        have hx := H9.out
        rw [show G.set n (q + 1) = freeG G n by unfold freeG; rw [← HQ.out]] at hx
        exact ⟨rfl, _, _, _, _, _, hx.re _, hs, HB9.out, fun k hk => .inl hk⟩
end Go.Proofs.Ytpilpkbblkhnaaa
end
/- Slots: Of. -/
section
namespace Go.Slt
open Go.Mem Go.Sp
def prevL (L : List Int) : Nat → Int
  | 0 => -1
  | k + 1 => L.getD k 0
theorem errs_step (G L : List Int) (k : Nat) (h : k < L.length) (he : errs G (-1) L = errs G (prevL L k) (L.drop k)) :
    errs G (-1) L = if bad G (L.getD k 0) = true then 1 else if L.getD k 0 ≤ prevL L k then 9 else errs G (prevL L (k + 1)) (L.drop (k + 1)) := by
  rw [he, errs_drop G L _ k h]; rfl
theorem bad_neg (G : List Int) {x : Int} (h : x < 0) : bad G x = true := by unfold bad; rw [decide_eq_true h]; rfl
theorem bad_large (G : List Int) {x : Int} (h : (G.length : Int) ≤ x) : bad G x = true := by unfold bad; rw [decide_eq_true h]; simp
theorem bad_old (G : List Int) {i : Nat} (h : G.getD i 0 = 1073741824) : bad G (i : Int) = true := by unfold bad; rw [Int.toNat_natCast, decide_eq_true (show G.getD i 0 = M30 from h)]; simp
theorem bad_not (G : List Int) {i : Nat} (hi : i < G.length) (h : G.getD i 0 ≠ 1073741824) : bad G (i : Int) = false := by
  unfold bad
  rw [Int.toNat_natCast, decide_eq_false (show ¬ G.getD i 0 = M30 from h), decide_eq_false (show ¬ ((i : Int) < 0) by omega), decide_eq_false (show ¬ ((G.length : Int) ≤ (i : Int)) by omega)]; rfl
theorem badG_of {G : List Int} {k : Nat} (h : k < G.length) (hb : G.getD k 0 < 0 ∨ 1073741824 < G.getD k 0) : badG G = true := by
  unfold badG
  refine List.any_eq_true.2 ⟨G.getD k 0, by rw [List.getD_eq_getElem?_getD, List.getElem?_eq_getElem h]; exact List.getElem_mem h, ?_⟩
  rcases hb with hb | hb
  · rw [decide_eq_true hb]; rfl
  · rw [show decide (M30 < G.getD k 0) = true from decide_eq_true hb]; simp
theorem badG_not {G : List Int} (h : ∀ j, j < G.length → 0 ≤ G.getD j 0 ∧ G.getD j 0 ≤ 1073741824) : badG G = false := by
  unfold badG
  refine List.any_eq_false.2 fun g hg => ?_
  obtain ⟨j, hj, rfl⟩ := List.getElem_of_mem hg
  have := h j hj
  rw [List.getD_eq_getElem?_getD, List.getElem?_eq_getElem hj] at this
  simp only [Option.getD_some] at this
  rw [decide_eq_false (show ¬ G[j] < 0 by omega), decide_eq_false (show ¬ M30 < G[j] by show ¬ (1073741824 < G[j]); omega)]; simp
theorem av_free {G : List Int} {B : List Bool} {i : Nat} (h : i < G.length) (hb : B.getD i false = false) (hg : G.getD i 0 < 1073741824) : av G B i = true := by unfold av; rw [hb, decide_eq_true h, decide_eq_true hg]; rfl
theorem av_used2 {G : List Int} {B : List Bool} {i : Nat} (hb : B.getD i false = true) : av G B i = false := by unfold av; rw [hb]; simp
theorem av_old2 {G : List Int} {B : List Bool} {i : Nat} (hg : ¬ G.getD i 0 < 1073741824) : av G B i = false := by unfold av; rw [decide_eq_false hg]; simp
end Go.Slt
namespace Go.Proofs.Ytpilpkbblkhnaaa
open Go.ChangeShapes Go.WideShapes Go.ChangeAt Go.RowKit Go.Mem Go.Sp Go.Slt
set_option linter.unusedVariables false
variable {w w' : World} {D s r : Nat} {vg vu vf vb vh : Value} {G : List Int} {B : List Bool} {U F : List Nat}
def OfPost (G L : List Int) (w : World) (e : Ending) (w' : World) : Prop :=
  Below w.heap.size w w' ∧ ((ofE G L ≠ 0 ∧ e = .returned (.tuple #[.pointer none, .int .i64 (ofE G L)])) ∨
    (ofE G L = 0 ∧ ∃ s vg vu vf U F, e = .returned (.tuple #[.pointer (some ⟨s, 0, none⟩), .int .i64 0]) ∧ Sl w' w.heap.size s vg vu vf G (ofB G L) U F ∧ SI G (ofB G L) U F))
theorem OfPost.err {G L : List Int} {w w' : World} {E : Int} (hE : ofE G L = E) (h0 : E ≠ 0) (hb : Below w.heap.size w w') : OfPost G L w (.returned (.tuple #[.pointer none, .int .i64 E])) w' := by
  subst hE; exact ⟨hb, .inl ⟨h0, rfl⟩⟩
theorem ofE_large {G L : List Int} (h : 256 < G.length) : ofE G L = 2 := by unfold ofE; rw [if_pos h]
theorem ofE_bad {G L : List Int} (h : ¬ 256 < G.length) (hb : badG G = true) : ofE G L = 1 := by unfold ofE; rw [if_neg h, if_pos hb]
theorem ofE_errs {G L : List Int} (h : ¬ 256 < G.length) (hb : badG G = false) : ofE G L = errs G (-1) L := by unfold ofE; rw [if_neg h, hb]; rfl
set_option maxRecDepth 100000 in
set_option maxHeartbeats 8000000 in
theorem sl_Of (G L : List Int) (ag au : Option Addr) (ng nu cg cu : Nat) (hng : G.length = ng) (hnu : L.length = nu) (h1 : ng ≤ 17592186044416) (h2 : nu ≤ 17592186044416) (w : World) (hzg : IntsAt .i64 w ag G) (hzu : IntsAt .i64 w au L) :
    Calls Try.prog 6 #[.slice ag ng cg, .slice au nu cu] w (OfPost G L w) := by
  have HNG := Lib.hid hng
  have HNU := Lib.hid hnu
  have HZG := Lib.hid hzg
  have HZU := Lib.hid hzu
  by_cases h256 : 256 < ng
  · have hE := ofE_large (L := L) (by rw [hng]; exact h256)
    have HE := Lib.hid hE
    clear hng hnu hzg hzu hE
    go_enter Try.func6, Try.ntmps6
    go_wp2_with fail
    go_ret2
    exact OfPost.err HE.out (by decide) (Below.refl _ _)
  · have h256 : ng ≤ 256 := by omega
    have H256 := Lib.hid (show ¬ 256 < G.length by omega)
    have hnil := World.ownsRow_nil w w.heap.size 3 1
    clear hng hnu hzg hzu
    go_enter Try.func6, Try.ntmps6
    go_wp2_with (at_builtin; go_must (refine wpList_append_ints rfl _ _ 22 rfl w.heap.size 3 .i64 8 Try.underlying22 (by kernel_rfl) (.slice none 0 0) 0 [] rfl hnil ag ng cg G rfl HNG.out HZG.out (by unfold maxLen; omega) (by omega) (by simp) ?_))
    intro v1 w1 hown hgr hat
    have hb1 : Below w.heap.size w w1 := (Below.refl _ _).grown hgr (Nat.le_refl _) (fun k hk => by cases hk)
    have hs1 := hb1.size

    obtain ⟨a1, c1, rfl⟩ := own_slice hown
    have HO := Lib.hid hown
    have HB1 := Lib.hid hb1
    clear hown hgr hat hb1 hnil
    go_wp2_with fail
    have hsl : Sl (w1.alloc (.cells #[.slice a1 ng c1, .slice none 0 0, .slice none 0 0] 74)) w.heap.size w1.heap.size (.slice a1 ng c1) (.slice none 0 0) (.slice none 0 0) G (ofB G []) [] [] := by
      have ho := HO.out
      rw [← HNG.out] at ho ⊢
      exact ⟨heap_alloc_new _ _, ho.alloc _, World.ownsRow_nil _ _ _ _, World.ownsRow_nil _ _ _ _, hs1, by simp; omega⟩
    have hbw : Below w.heap.size w (w1.alloc (.cells #[.slice a1 ng c1, .slice none 0 0, .slice none 0 0] 74)) := HB1.out.trans ((Below.refl _ _).alloc hs1 _)
    obtain ⟨W1, hW1⟩ : ∃ W1, W1 = w1.alloc (.cells #[.slice a1 ng c1, .slice none 0 0, .slice none 0 0] 74) := ⟨_, rfl⟩
    rw [← hW1] at hsl hbw ⊢
    obtain ⟨s, hs⟩ : ∃ s, s = w1.heap.size := ⟨_, rfl⟩
    rw [← hs] at hsl ⊢
    have HSL := Lib.hid hsl
    have HBW := Lib.hid hbw
    clear hsl hbw hW1 hs hs1 HO HB1
    go_loop [8, 21] (fun _ vi => ∃ k : Nat, k ≤ ng ∧ vi = .int .i64 k ∧ Hid (∀ j, j < k → 0 ≤ G.getD j 0 ∧ G.getD j 0 ≤ 1073741824)) (fun _ vi => ng - (intOf vi).toNat)
    case atStart => exact ⟨0, Nat.zero_le _, rfl, Lib.hid (fun j hj => absurd hj (Nat.not_lt_zero _))⟩
    case round =>
      obtain ⟨k, hk, rfl, hall⟩ := hrel
      by_cases hlt : k < ng
      · obtain ⟨x, rfl, hx, hc⟩ := (HZG.out.below HBW.out) (by rw [HNG.out]; omega)
        have hck := hc k (by rw [HNG.out]; exact hlt)
        obtain ⟨q, hq⟩ : ∃ q, q = G.getD k 0 := ⟨_, rfl⟩
        rw [← hq] at hck
        have HQ := Lib.hid hq
        clear hc hq
        by_cases hn : q < 0
        · have hE := ofE_bad (L := L) H256.out (badG_of (by rw [HNG.out]; exact hlt) (.inl (by rw [← HQ.out]; exact hn)))
          have HE := Lib.hid hE
          clear hE
          go_wp2_with fail
          go_ret2
          exact OfPost.err HE.out (by decide) HBW.out
        · by_cases hm : 1073741824 < q
          · have hE := ofE_bad (L := L) H256.out (badG_of (by rw [HNG.out]; exact hlt) (.inr (by rw [← HQ.out]; exact hm)))
            have HE := Lib.hid hE
            clear hE
            go_wp2_with fail
            go_ret2
            exact OfPost.err HE.out (by decide) HBW.out
          · go_wp2_with fail
            go_round
            case rel => exact ⟨k + 1, hlt, by go_num, Lib.hid (fun j hj => by
              rcases Nat.lt_or_eq_of_le (Nat.le_of_lt_succ hj) with h | h
              · exact hall.out j h
              · rw [h, ← HQ.out]; omega)⟩
            case measure => simp [intOf]; omega
      · have hk2 : k = ng := by omega
        have hE : ofE G L = errs G (-1) L := ofE_errs H256.out (badG_not (fun j hj => hall.out j (by rw [HNG.out] at hj; omega)))
        have HE := Lib.hid hE
        clear hall hk2 hE
        go_wp2_with fail
        go_loopg [9, 10, 34] nu (fun gk _ _ vi wx => ∃ (k : Nat) (au2 : Option Addr) (m cr : Nat), k ≤ nu ∧ gk = nu - k ∧ vi = .int .i64 k ∧ Hid ((ofN (L.take k)).length = m) ∧ Hid (Sl wx w.heap.size s (.slice a1 ng c1) (.slice au2 m cr) (.slice none 0 0) G (ofB G (L.take k)) (ofN (L.take k)) []) ∧ Hid (Below w.heap.size w wx) ∧ Hid (errs G (-1) L = errs G (prevL L k) (L.drop k)))
        case atStart => exact ⟨0, none, 0, 0, Nat.zero_le _, rfl, rfl, Lib.hid rfl, HSL, HBW, Lib.hid rfl⟩
        case round =>
          obtain ⟨k, au2, m, cr, hk, g2, rfl, HM, HSL2, HBW2, HER⟩ := hrel
          have G2 := Lib.hid g2
          clear g2
          by_cases hlt : k < nu
          · have hlk : k < L.length := by rw [HNU.out]; exact hlt
            obtain ⟨xa, rfl, hxa, hc⟩ := (HZU.out.below HBW2.out) (by omega)
            have hck := hc k hlk
            have hes := errs_step G L k hlk HER.out
            obtain ⟨x, hx⟩ : ∃ x, x = L.getD k 0 := ⟨_, rfl⟩
            rw [← hx] at hck hes
            have HX := Lib.hid hx
            clear hx
            by_cases hn : x < 0
            · rw [if_pos (bad_neg G hn)] at hes
              have HF := Lib.hid (HE.out.trans hes)
              clear hes hc hlk
              go_wp2_with fail
              go_ret2
              exact OfPost.err HF.out (by decide) HBW2.out
            · by_cases hl : (ng : Int) ≤ x
              · rw [if_pos (bad_large G (by rw [HNG.out]; exact hl))] at hes
                have HF := Lib.hid (HE.out.trans hes)
                clear hes hc hlk
                go_wp2_with fail
                go_ret2
                exact OfPost.err HF.out (by decide) HBW2.out
              · obtain ⟨i, rfl⟩ : ∃ i : Nat, x = i := ⟨x.toNat, by omega⟩
                have hi : i < ng := by omega
                obtain ⟨xg, rfl, hxg, hcg⟩ := (HZG.out.below HBW2.out) (by rw [HNG.out]; omega)
                have hgi := hcg i (by rw [HNG.out]; exact hi)
                obtain ⟨q, hq⟩ : ∃ q, q = G.getD i 0 := ⟨_, rfl⟩
                rw [← hq] at hgi
                have i1 : (0 : Int) ≤ (i : Int) := by omega
                have i2 : (i : Int) < (ng : Int) := by omega
                by_cases hm : q = 1073741824
                · rw [if_pos (bad_old G (by rw [← hq]; exact hm))] at hes
                  have HF := Lib.hid (HE.out.trans hes)
                  have t1 : (q == 1073741824) = true := by rw [beq_iff_eq]; exact hm
                  clear hes hc hlk hcg hq hm
                  go_wp2_with fail
                  go_ret2
                  exact OfPost.err HF.out (by decide) HBW2.out
                · rw [bad_not G (by rw [HNG.out]; exact hi) (by rw [← hq]; exact hm)] at hes
                  simp only [Bool.false_eq_true, if_false] at hes
                  have t1 : (q == 1073741824) = false := by rw [beq_eq_false_iff_ne]; exact hm
                  by_cases h9 : (i : Int) ≤ prevL L k
                  · rw [if_pos h9] at hes
                    have HF := Lib.hid (HE.out.trans hes)
                    rcases k with _ | p
                    · exact absurd h9 (by show ¬ ((i : Int) ≤ -1); omega)
                    · have hp := hc p (by omega)
                      obtain ⟨y, hy⟩ : ∃ y, y = L.getD p 0 := ⟨_, rfl⟩
                      have h9 : (i : Int) ≤ L.getD p 0 := h9
                      rw [← hy] at hp h9
                      obtain ⟨k, hkp⟩ : ∃ k, k = p + 1 := ⟨_, rfl⟩
                      rw [← hkp] at hck hlt hlk hk HM HSL2 HER HX G2 ⊢
                      have j1 : IntKind.i64.wrap ((k : Int) - 1) = (k : Int) - 1 := by rw [IntKind.wrap_i64]; omega
                      have j2 : (0 : Int) ≤ (k : Int) - 1 := by omega
                      have j3 : (k : Int) - 1 < (nu : Int) := by omega
                      have j4 : ((k : Int) - 1).toNat = p := by omega
                      have j5 : 1 ≤ k := by omega
                      have j6 : (0 : Int) < (k : Int) := by omega
                      clear hes hc hlk hcg hq hm hy hkp
                      go_wp2_with fail
                      go_ret2
                      exact OfPost.err HF.out (by decide) HBW2.out
                  · rw [if_neg h9] at hes
                    have hnx : Hid (errs G (-1) L = errs G (prevL L (k + 1)) (L.drop (k + 1))) := Lib.hid hes
                    have hst : withN (ofN (L.take k)) (i : Int) = ofN (L.take (k + 1)) := by rw [HX.out]; exact ofN_snoc L k hlk
                    have HST := Lib.hid hst
                    have hcn := of_canon (L.take k)
                    have CW := Lib.hid (sets_With (ofN (L.take k)) au2 m cr HM.out (by have := hcn.1; rw [HM.out] at this; omega) hcn.2.1 (i : Int) wr (by
                      have := HSL2.out
                      exact this.su))
                    have c1 := HSL2.out.c1
                    have HHc := Lib.hid hc
                    have H9 := Lib.hid h9
                    clear hes hcn hst hcg hq hm hc h9
                    rcases Nat.eq_zero_or_pos k with hk0 | hk0
                    · have HK0 := Lib.hid hk0
                      have t2 : decide ((0 : Int) < (k : Int)) = false := decide_eq_false (by omega)
                      have t3 : (k : Int) ≤ 0 := by omega
                      clear hk0
                      go_wp2_with fail
                      refine CW.out.mono ?_
                      rintro e w2 ⟨r2, m2, c2, h3, rfl, h4, h5, h6⟩
                      have hsl3 := HSL2.out.below h5
                      have HSL3 := Lib.hid ((hsl3.setUsed (v := .slice r2 m2 c2) (A := ofN (L.take (k + 1))) (by
                        rw [← HST.out, h3]
                        exact own_lower h6 HBW2.out.size)).re (ofB G (L.take (k + 1))))
                      have HB3 := Lib.hid ((HBW2.out.trans (h5.mono HBW2.out.size)).setCell (p := ⟨s, 1, none⟩) HSL2.out.ds (.slice r2 m2 c2))
                      have HM3 := Lib.hid (show (ofN (L.take (k + 1))).length = m2 from by rw [← HST.out]; exact h3)
                      have d1 := hsl3.c1
                      have f1 := hsl3.fz 1
                      clear hsl3 h3 h4 h5 h6 c1 CW
                      go_wp2_with fail
                      go_roundg (nu - (k + 1))
                      case measure => rw [G2.out]; omega
                      case rel => exact ⟨k + 1, r2, m2, c2, hlt, rfl, by go_num, HM3, HSL3, HB3, hnx⟩
                    · have hp := HHc.out (k - 1) (by omega)
                      obtain ⟨p, hpk⟩ : ∃ p, p = k - 1 := ⟨_, rfl⟩
                      obtain ⟨y, hy⟩ : ∃ y, y = L.getD (k - 1) 0 := ⟨_, rfl⟩
                      have hyx : y < (i : Int) := by
                        have := H9.out
                        rw [hy]
                        rcases k with _ | k
                        · omega
                        · have h : ¬ ((i : Int) ≤ L.getD k 0) := this
                          simp only [Nat.add_sub_cancel]; omega
                      rw [← hy, ← hpk] at hp
                      have j1 : IntKind.i64.wrap ((k : Int) - 1) = (k : Int) - 1 := by rw [IntKind.wrap_i64]; omega
                      have j2 : (0 : Int) ≤ (k : Int) - 1 := by omega
                      have j3 : (k : Int) - 1 < (nu : Int) := by omega
                      have j4 : ((k : Int) - 1).toNat = p := by omega
                      have j6 : (0 : Int) < (k : Int) := by omega
                      clear hy hpk
                      go_wp2_with fail
                      refine CW.out.mono ?_
                      rintro e w2 ⟨r2, m2, c2, h3, rfl, h4, h5, h6⟩
                      have hsl3 := HSL2.out.below h5
                      have HSL3 := Lib.hid ((hsl3.setUsed (v := .slice r2 m2 c2) (A := ofN (L.take (k + 1))) (by
                        rw [← HST.out, h3]
                        exact own_lower h6 HBW2.out.size)).re (ofB G (L.take (k + 1))))
                      have HB3 := Lib.hid ((HBW2.out.trans (h5.mono HBW2.out.size)).setCell (p := ⟨s, 1, none⟩) HSL2.out.ds (.slice r2 m2 c2))
                      have HM3 := Lib.hid (show (ofN (L.take (k + 1))).length = m2 from by rw [← HST.out]; exact h3)
                      have d1 := hsl3.c1
                      have f1 := hsl3.fz 1
                      clear hsl3 h3 h4 h5 h6 c1 CW
                      go_wp2_with fail
                      go_roundg (nu - (k + 1))
                      case measure => rw [G2.out]; omega
                      case rel => exact ⟨k + 1, r2, m2, c2, hlt, rfl, by go_num, HM3, HSL3, HB3, hnx⟩
          · have hk2 : k = nu := by omega
            have ht : L.take k = L := List.take_of_length_le (by rw [HNU.out]; omega)
            have hd : L.drop k = [] := List.drop_eq_nil_of_le (by rw [HNU.out]; omega)
            have hE0 : ofE G L = 0 := by rw [HE.out, HER.out, hd]; rfl
            have HE0 := Lib.hid hE0
            rw [ht] at HM HSL2
            have HSI := Lib.hid (of_si hE0)
            clear ht hd hE0 hk2
            go_wp2_with fail
            go_loopg [11, 77] ng (fun gk _ vi wx => ∃ (k : Nat) (af : Option Addr) (mf cf : Nat), k ≤ ng ∧ gk = ng - k ∧ vi = .int .i64 k ∧ Hid ((fF G (ofB G L) k).length = mf) ∧ Hid (Sl wx w.heap.size s (.slice a1 ng c1) (.slice au2 m cr) (.slice af mf cf) G (ofB G L) (ofN L) (fF G (ofB G L) k)) ∧ Hid (Below w.heap.size w wx))
            case atStart => exact ⟨0, none, 0, 0, Nat.zero_le _, rfl, rfl, Lib.hid rfl, HSL2, HBW2⟩
            case round =>
              clear HER HSL2 HBW2 HSL HBW
              obtain ⟨i, af, mf, cf, hi, g3, rfl, HMF, HSL3, HBW3⟩ := hrel
              have G3 := Lib.hid g3
              clear g3
              by_cases hli : i < ng
              · obtain ⟨xg, rfl, hxg, hcg⟩ := (HZG.out.below HBW3.out) (by rw [HNG.out]; omega)
                have hgi := hcg i (by rw [HNG.out]; exact hli)
                obtain ⟨q, hq⟩ : ∃ q, q = G.getD i 0 := ⟨_, rfl⟩
                rw [← hq] at hgi
                have HQ := Lib.hid hq
                have i1 : (0 : Int) ≤ (i : Int) := by omega
                have i2 : (i : Int) < (ng : Int) := by omega
                have hlen := (of_canon L).1
                have CH := sets_Has (ofN L) au2 m cr HM.out (by rw [← HM.out]; omega) (of_canon L).2.1 (i : Int) (by omega) wr HSL3.out.su
                rw [Int.toNat_natCast, HSI.out.used, decide_eq_true i1, Bool.true_and] at CH
                have c1 := HSL3.out.c1
                clear hcg hq hlen
                obtain ⟨bb, hbb⟩ : ∃ bb, bb = (ofB G L).getD i false := ⟨_, rfl⟩
                rw [← hbb] at CH
                have HBB := Lib.hid hbb
                have CHH := Lib.hid CH
                clear hbb CH
                cases bb
                · by_cases hlq : q < 1073741824
                  · have ha := av_free (B := ofB G L) (by rw [HNG.out]; exact hli) HBB.out.symm (by rw [← HQ.out]; exact hlq)
                    have hst : fF G (ofB G L) (i + 1) = withN (fF G (ofB G L) i) (i : Int) := by rw [fF_succ, if_pos ha]
                    have HST := Lib.hid hst
                    have hcn := (fF_bit G (ofB G L) i (by omega)).1
                    have CW := Lib.hid (sets_With (fF G (ofB G L) i) af mf cf HMF.out (by have := hcn.1; rw [HMF.out] at this; omega) hcn.2.1 (i : Int) wr (by
                      have := HSL3.out
                      exact this.sf))
                    have c2 := HSL3.out.c2
                    clear ha hst hcn
                    go_wp2_with fail
                    refine CHH.out.mono ?_
                    rintro e w2 ⟨rfl, rfl⟩
                    go_wp2_with fail
                    refine CW.out.mono ?_
                    rintro e w2 ⟨r2, m2, c2', h3, rfl, h4, h5, h6⟩
                    have hsl3 := HSL3.out.below h5
                    have HSL4 := Lib.hid (hsl3.setFree (v := .slice r2 m2 c2') (A := fF G (ofB G L) (i + 1)) (by
                      rw [HST.out, h3]
                      exact own_lower h6 HBW3.out.size))
                    have HB4 := Lib.hid ((HBW3.out.trans (h5.mono HBW3.out.size)).setCell (p := ⟨s, 2, none⟩) HSL3.out.ds (.slice r2 m2 c2'))
                    have HM4 := Lib.hid (show (fF G (ofB G L) (i + 1)).length = m2 from by rw [HST.out]; exact h3)
                    have d1 := hsl3.c2
                    have f1 := hsl3.fz 2
                    clear hsl3 h3 h4 h5 h6 c1 c2 CW CHH
                    go_wp2_with fail
                    go_roundg (ng - (i + 1))
                    case measure => rw [G3.out]; omega
                    case rel => exact ⟨i + 1, r2, m2, c2', hli, rfl, by go_num, HM4, HSL4, HB4⟩
                  · have ha := av_old2 (B := ofB G L) (by rw [← HQ.out]; exact hlq)
                    have hst : fF G (ofB G L) (i + 1) = fF G (ofB G L) i := by rw [fF_succ, ha]; rfl
                    have HST := Lib.hid hst
                    clear ha hst
                    go_wp2_with fail
                    refine CHH.out.mono ?_
                    rintro e w2 ⟨rfl, rfl⟩
                    go_wp2_with fail
                    go_roundg (ng - (i + 1))
                    case measure => rw [G3.out]; omega
                    case rel => exact ⟨i + 1, af, mf, cf, hli, rfl, by go_num, by rw [HST.out]; exact HMF, by rw [HST.out]; exact HSL3, HBW3⟩
                · have ha := av_used2 (G := G) HBB.out.symm
                  have hst : fF G (ofB G L) (i + 1) = fF G (ofB G L) i := by rw [fF_succ, ha]; rfl
                  have HST := Lib.hid hst
                  clear ha hst
                  go_wp2_with fail
                  refine CHH.out.mono ?_
                  rintro e w2 ⟨rfl, rfl⟩
                  go_wp2_with fail
                  go_roundg (ng - (i + 1))
                  case measure => rw [G3.out]; omega
                  case rel => exact ⟨i + 1, af, mf, cf, hli, rfl, by go_num, by rw [HST.out]; exact HMF, by rw [HST.out]; exact HSL3, HBW3⟩
              · have hi2 : i = G.length := by rw [HNG.out]; omega
                have HI2 := Lib.hid hi2
                clear hi2
                go_wp2_with fail
                go_ret2
                have hf := HSL3.out
                rw [HI2.out] at hf
                exact ⟨HBW3.out, .inr ⟨HE0.out, _, _, _, _, _, _, rfl, hf, HSI.out⟩⟩
end Go.Proofs.Ytpilpkbblkhnaaa
end
