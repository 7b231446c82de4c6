/- Lemmas for the law TopSlotWorld: RegLk, H6, SwLaw. No conditions. -/
import Derived.Test.YtpilpkbblkhnaaaM06
import Derived.Test.YtpilpkbblkhnaaaM28
import Derived.Test.YtpilpkbblkhnaaaM27
import Derived.Test.YtpilpkbblkhnaaaM23
import Derived.Test.YtpilpkbblkhnaaaM01
import Derived.Test.YtpilpkbblkhnaaaM13
import Derived.Test.YtpilpkbblkhnaaaM14
import Derived.Lib.MinMax
import Derived.Deep.DeepCutAuto
/- Drawn regions by facts: a look-up in a map whose run is known; a comparison of structs whose run is known. No function of the program is named here. -/
section
namespace Go.Proofs.Ytpilpkbblkhnaaa
open Go.ChangeShapes Go.WideShapes Go.ChangeAt Go.RowKit Go.Mem
set_option linter.unusedVariables false
section
variable {P : Program} {ops : Array Oper} {o : Oper} {F : Act} {w : World} {Q : Exit → Act → World → Prop}
theorem rg_binrun (b : BinOp) (t tr : TypeId) (x y : Operand) (hgd : o.guard = none) (ho : o.op = .binOp b t x y tr) (vx vy v : Value) (hx : F.eval x = vx) (hy : F.eval y = vy) (hg : (eqGuard b t x y vx vy).run P w = .ok () w) (hrun : (binOp b t vx vy).run P w = .ok v w) (h : Q .normal (F.put o.dst v) w) : wpList P ops Q [o] F w := by
  refine wpList_plain hgd fun K hK => ?_
  unfold Oper.wp execOp
  simp [ho, hx, hy, hg, hrun, Sem.run_bind, Result.andThen, Oper.upon]
  exact hK _ _ h
end
end Go.Proofs.Ytpilpkbblkhnaaa
end
/- tourtop.h6begun: by program (gen_h6.py). -/
section
namespace Go.Proofs.Ytpilpkbblkhnaaa
open Go.ChangeShapes Go.WideShapes Go.ChangeAt Go.RowKit Go.Nm Go.Mem
set_option linter.unusedVariables false
theorem list20h {α : Type} {vs : List α} (h : vs.length = 20) : ∃ x0 x1 x2 x3 x4 x5 x6 x7 x8 x9 x10 x11 x12 x13 x14 x15 x16 x17 x18 x19, vs = [x0, x1, x2, x3, x4, x5, x6, x7, x8, x9, x10, x11, x12, x13, x14, x15, x16, x17, x18, x19] := by
  obtain ⟨x0, t0, rfl, h0⟩ := cons_of h
  obtain ⟨x1, t1, rfl, h1⟩ := cons_of h0
  obtain ⟨x2, t2, rfl, h2⟩ := cons_of h1
  obtain ⟨x3, t3, rfl, h3⟩ := cons_of h2
  obtain ⟨x4, t4, rfl, h4⟩ := cons_of h3
  obtain ⟨x5, t5, rfl, h5⟩ := cons_of h4
  obtain ⟨x6, t6, rfl, h6⟩ := cons_of h5
  obtain ⟨x7, t7, rfl, h7⟩ := cons_of h6
  obtain ⟨x8, t8, rfl, h8⟩ := cons_of h7
  obtain ⟨x9, t9, rfl, h9⟩ := cons_of h8
  obtain ⟨x10, t10, rfl, h10⟩ := cons_of h9
  obtain ⟨x11, t11, rfl, h11⟩ := cons_of h10
  obtain ⟨x12, t12, rfl, h12⟩ := cons_of h11
  obtain ⟨x13, t13, rfl, h13⟩ := cons_of h12
  obtain ⟨x14, t14, rfl, h14⟩ := cons_of h13
  obtain ⟨x15, t15, rfl, h15⟩ := cons_of h14
  obtain ⟨x16, t16, rfl, h16⟩ := cons_of h15
  obtain ⟨x17, t17, rfl, h17⟩ := cons_of h16
  obtain ⟨x18, t18, rfl, h18⟩ := cons_of h17
  obtain ⟨x19, t19, rfl, h19⟩ := cons_of h18
  exact ⟨x0, x1, x2, x3, x4, x5, x6, x7, x8, x9, x10, x11, x12, x13, x14, x15, x16, x17, x18, x19, by rw [List.eq_nil_of_length_eq_zero h19]⟩
def F_h6 (BX BV BY ck2 cg2 ci2 ck cg ci DV DY NW NB : Nat) (ak2 ag2 ai2 ak ag ai : Option Addr) (jq : Nat) (v : Value) (w : World) : Prop :=
  match jq with
  | 0 => v = .int .i64 0
  | 1 => v = .bool true
  | 2 => v = .bool true
  | 3 => v = .agg #[.int .i64 0, .int .i64 0]
  | 4 => v = .agg #[.int .i64 0, .int .i64 0]
  | 5 => v = .bool true
  | 6 => v = .bool true
  | 7 => v = .bool true
  | 8 => v = .agg #[.slice ak2 1 ck2, .slice ag2 1 cg2, .slice ai2 1 ci2]
  | 9 => v = .int .u64 (DV : Int)
  | 10 => v = .agg #[.slice ak 1 ck, .slice ag 0 cg, .slice ai 0 ci]
  | 11 => v = .int .u64 (DY : Int)
  | 12 => v = .bool true
  | 13 => v = .bool true
  | 14 => v = .bool true
  | 15 => v = .int .u64 (NW : Int)
  | 16 => v = .int .u64 (NB : Int)
  | 17 => v = .bool true
  | 18 => v = .bool true
  | 19 => v = .bool true
  | _ => True
theorem F_h6_mono (BX BV BY ck2 cg2 ci2 ck cg ci DV DY NW NB : Nat) (ak2 ag2 ai2 ak ag ai : Option Addr) : Facts (F_h6 BX BV BY ck2 cg2 ci2 ck cg ci DV DY NW NB  ak2 ag2 ai2 ak ag ai ) := ⟨by
  intro jq v w w' h hb
  unfold F_h6 at h ⊢
  split at h
  all_goals first
    | exact h
    | trivial⟩

def k6 : KindV := ⟨⟨#[97]⟩, [⟨⟨#[120]⟩, 4, 0⟩]⟩
theorem k6_ok : kindsE [k6] = 0 := by kernel_rfl
def y6 : WorldV := ⟨[k6], [], []⟩
def l6 : List CompV := [⟨0, [3]⟩]
theorem new6 : newV [k6] = y6 := by unfold newV; rw [if_pos k6_ok]; rfl
theorem spawn6 : spawnE y6 l6 = 0 := by kernel_rfl
def z6 : WorldV := ⟨[k6], [0], [⟨0, 0, [⟨0, [3]⟩]⟩]⟩
theorem z6_of {Z : WorldV} (h : SpawnZ y6 l6 Z) : Z = z6 := by
  obtain ⟨i, hi, _, _, rfl⟩ := h
  have h0 : i = 0 := Nat.le_zero.1 hi
  subst h0
  have e : (⟨y6.kinds, spawnG y6, y6.items.take 0 ++ [spawnI y6 l6] ++ y6.items.drop 0⟩ : WorldV) = z6 := by kernel_rfl
  exact e
theorem fine_y6 : FineW y6 := fine_of (of_decide_eq_true (by kernel_rfl))
theorem fine_z6 : FineW z6 := fine_of (of_decide_eq_true (by kernel_rfl))
theorem flds6 : ∀ k ∈ [k6], k.fields.length ≤ 1048576 := by
  intro k hk
  rw [List.mem_singleton] at hk
  subst hk
  decide
theorem dig6 : (dig (intsW z6) : Int) ≠ (dig (intsW y6) : Int) := bne_iff_ne.1 (show ((dig (intsW z6) : Int) != (dig (intsW y6) : Int)) = true by kernel_rfl)
theorem nil6 : (dig [] : Int) ≠ (bdig [] : Int) := bne_iff_ne.1 (show ((dig [] : Int) != (bdig [] : Int)) = true by kernel_rfl)
theorem kinds6 {w : World} {f k : Nat} (hf : w.heap[f]? = some (.cells #[.string ⟨#[120]⟩, .int .i64 4, .int .i64 0] 55 (0, 0))) (hk : w.heap[k]? = some (.cells #[.string ⟨#[97]⟩, .slice (some ⟨f, 0, none⟩) 1 1] 58 (0, 0))) : SlAt 2 KindAt w (some ⟨k, 0, none⟩) [k6] := fun _ => by
  refine ⟨_, rfl, lt_of_heap hk, fun i hi => ?_⟩
  have hi2 : i < 1 := hi
  obtain rfl : i = 0 := by omega
  refine ⟨cell_of_row _ _ 0 _ _ _ hk, by show (1 : Nat) ≤ _; omega, _, _, cell_of_row _ _ 1 _ _ _ hk, Nat.le_refl _, by omega, fun _ => ⟨_, rfl, lt_of_heap hf, fun j hj => ?_⟩⟩
  have hj2 : j < 1 := hj
  obtain rfl : j = 0 := by omega
  exact ⟨cell_of_row _ _ 0 _ _ _ hf, cell_of_row _ _ 1 _ _ _ hf, cell_of_row _ _ 2 _ _ _ hf, by show (1 : Nat) ≤ _; omega⟩
theorem comps6 {w : World} {v k : Nat} (hv : w.heap[v]? = some (.cells #[.int .i64 3] 3 (0, 0))) (hk : w.heap[k]? = some (.cells #[.int .i64 0, .slice (some ⟨v, 0, none⟩) 1 1] 60 (0, 0))) : SlAt 2 CompAt w (some ⟨k, 0, none⟩) l6 := fun _ => by
  refine ⟨_, rfl, lt_of_heap hk, fun i hi => ?_⟩
  have hi2 : i < 1 := hi
  obtain rfl : i = 0 := by omega
  exact ⟨cell_of_row _ _ 0 _ _ _ hk, _, _, cell_of_row _ _ 1 _ _ _ hk, RowB.ints (k := .i64) (zs := [3]) (show RowB _ _ 3 .i64 [3] from hv)⟩
theorem words6 (w : World) : Calls Try.prog 19 #[.slice none 0 0] w fun e w2 => e = .returned (.int .u64 (dig [] : Nat)) ∧ Below w.heap.size w w2 :=
  (sum_Words none 0 [] (by decide) (fun z hz => by cases hz) w (fun h => absurd h (by simp))).mono fun e w2 h => ⟨h.1, by rw [← h.2]; exact Below.refl _ _⟩
theorem ent_guard6 (o : BinOp) (x y : Operand) (u v : Array Value) (w : World) : (eqGuard o 30 x y (.agg u) (.agg v)).run Try.prog w = .ok () w := by
  have h : Try.prog.eqGuardType Try.prog.depth 30 = false := by kernel_rfl
  cases o <;> simp [eqGuard, h]
theorem ent_eql6 (w : World) : (binOp .eql 30 (.agg #[.int .i64 0, .int .i64 0]) (.agg #[.int .i64 0, .int .i64 0])).run Try.prog w = .ok (.bool true) w := by kernel_rfl
set_option maxHeartbeats 4000000 in
set_option maxRecDepth 20000 in
theorem h6_begun (W : World) : Calls Try.prog 4 #[] W fun e w' => e = .returned (.bool true) ∧ Below W.heap.size W w' := by
  have hf := row_first W (.cells #[.string ⟨#[120]⟩, .int .i64 4, .int .i64 0] 55) (.cells #[.string ⟨#[97]⟩, .slice (some ⟨W.heap.size, 0, none⟩) 1 1] 58)
  have hk := row_second W (.cells #[.string ⟨#[120]⟩, .int .i64 4, .int .i64 0] 55) (.cells #[.string ⟨#[97]⟩, .slice (some ⟨W.heap.size, 0, none⟩) 1 1] 58)
  have hb0 := ((Below.refl W.heap.size W).alloc (Nat.le_refl _) (.cells #[.string ⟨#[120]⟩, .int .i64 4, .int .i64 0] 55)).alloc (by simp) (.cells #[.string ⟨#[97]⟩, .slice (some ⟨W.heap.size, 0, none⟩) 1 1] 58)
  have CN := world_New [k6] (some ⟨W.heap.size + 1, 0, none⟩) 1 1 rfl (by decide) (by decide) (by decide) flds6 _ (kinds6 hf hk)
  rw [k6_ok, new6] at CN
  have HCN := Lib.hid CN
  have HB0 := Lib.hid hb0
  clear CN hb0 hf hk
  go_enter Try.func4, Try.ntmps4
  go_wp2_with fail
  refine HCN.out.mono ?_
  rintro e w1 ⟨⟨nv, rfl, hin⟩, hb1⟩
  have HB1 := Lib.hid (bt HB0.out hb1)
  have hin0 := hin
  obtain ⟨ak, ck, ag, cg, ai, ci, rfl, _⟩ := hin
  have e1 : y6.kinds.length = 1 := rfl
  have e2 : y6.gens.length = 0 := rfl
  have e3 : y6.items.length = 0 := rfl
  rw [e1, e2, e3] at hin0 ⊢
  have h1 := allocs3_1 w1 (.cells #[.slice ak 1 ck, .slice ag 0 cg, .slice ai 0 ci] 27) (.cells #[.int .i64 3] 3) (.cells #[.int .i64 0, .slice (some ⟨w1.heap.size + 1, 0, none⟩) 1 1] 60)
  have h2 := allocs3_2 w1 (.cells #[.slice ak 1 ck, .slice ag 0 cg, .slice ai 0 ci] 27) (.cells #[.int .i64 3] 3) (.cells #[.int .i64 0, .slice (some ⟨w1.heap.size + 1, 0, none⟩) 1 1] 60)
  have h3 := allocs3_3 w1 (.cells #[.slice ak 1 ck, .slice ag 0 cg, .slice ai 0 ci] 27) (.cells #[.int .i64 3] 3) (.cells #[.int .i64 0, .slice (some ⟨w1.heap.size + 1, 0, none⟩) 1 1] 60)
  have hbE := allocs3_b w1 (.cells #[.slice ak 1 ck, .slice ag 0 cg, .slice ai 0 ci] 27) (.cells #[.int .i64 3] 3) (.cells #[.int .i64 0, .slice (some ⟨w1.heap.size + 1, 0, none⟩) 1 1] 60)
  obtain ⟨wv, hwv⟩ : ∃ w, w = ((w1.alloc (.cells #[.slice ak 1 ck, .slice ag 0 cg, .slice ai 0 ci] 27)).alloc (.cells #[.int .i64 3] 3)).alloc (.cells #[.int .i64 0, .slice (some ⟨w1.heap.size + 1, 0, none⟩) 1 1] 60) := ⟨_, rfl⟩
  rw [← hwv] at h1 h2 h3 hbE
  obtain ⟨sm, fl⟩ := world_bound (y := y6) (N := 1048576) (of_decide_eq_true (by kernel_rfl)) (Nat.le_refl _)
  have CS := world_SpawnO y6 l6 _ (some ⟨w1.heap.size + 1 + 1, 0, none⟩) 1 1 wv (hin0.below hbE) sm fl rfl (by decide) (by decide) (by intro z hz; unfold l6 at hz; rw [List.mem_singleton] at hz; subst hz; decide) (comps6 h2 h3)
  rw [spawn6] at CS
  have HCS := Lib.hid CS
  have HW1 := Lib.hid h1
  have HIN := Lib.hid (hin0.below hbE)
  have HBV := Lib.hid (bt HB1.out hbE)
  have HWV := Lib.hid hwv
  have z0 := cell_of_row _ _ 0 _ _ _ (heap_alloc_new w1 (.cells #[.slice ak 1 ck, .slice ag 0 cg, .slice ai 0 ci] 27))
  have z1 := cell_of_row _ _ 1 _ _ _ (heap_alloc_new w1 (.cells #[.slice ak 1 ck, .slice ag 0 cg, .slice ai 0 ci] 27))
  have z2 := cell_of_row _ _ 2 _ _ _ (heap_alloc_new w1 (.cells #[.slice ak 1 ck, .slice ag 0 cg, .slice ai 0 ci] 27))
  clear hin0 h1 h2 h3 hbE CS HCN HB1 HB0 hb1 e1 e2 e3 sm fl hwv
  go_wp2_with fail
  rw [← HWV.out]
  clear z0 z1 z2 HWV
  refine HCS.out.mono ?_
  rintro e w3 ⟨⟨sv, xn, xg, Z, rfl, hz, _, hz0⟩, hb3⟩
  replace hz := hz.now
  obtain ⟨g1, g2, hZ⟩ := hz0 rfl
  have hZ6 := z6_of hZ
  subst hZ6
  have gn : xn = 0 := by rw [g1]; kernel_rfl
  have gg : xg = 0 := by rw [g2]; kernel_rfl
  subst gn gg
  have hz1 := hz
  obtain ⟨ak2, ck2, ag2, cg2, ai2, ci2, rfl, _⟩ := hz
  have e1 : z6.kinds.length = 1 := rfl
  have e2 : z6.gens.length = 1 := rfl
  have e3 : z6.items.length = 1 := rfl
  rw [e1, e2, e3] at hz1 ⊢
  have hv := row_first w3 (.cells #[.slice ak2 1 ck2, .slice ag2 1 cg2, .slice ai2 1 ci2] 27) (.cells #[.int .i64 0, .int .i64 0] 30)
  have hx := row_second w3 (.cells #[.slice ak2 1 ck2, .slice ag2 1 cg2, .slice ai2 1 ci2] 27) (.cells #[.int .i64 0, .int .i64 0] 30)
  have hbA := ((Below.refl w3.heap.size w3).alloc (Nat.le_refl _) (.cells #[.slice ak2 1 ck2, .slice ag2 1 cg2, .slice ai2 1 ci2] 27)).alloc (by simp) (.cells #[.int .i64 0, .int .i64 0] 30)
  obtain ⟨wr, hwr⟩ : ∃ w, w = (w3.alloc (.cells #[.slice ak2 1 ck2, .slice ag2 1 cg2, .slice ai2 1 ci2] 27)).alloc (.cells #[.int .i64 0, .int .i64 0] 30) := ⟨_, rfl⟩
  rw [← hwr] at hv hx hbA
  have HV := Lib.hid hv
  have HX := Lib.hid hx
  have HY := Lib.hid (heap_below (heap_below HW1.out hb3) hbA)
  have HB := Lib.hid (bt (bt HBV.out hb3) hbA)
  have HDV := Lib.hid (fun w' (hb : Below wr.heap.size wr w') => world_Digest z6 _ w' ((hz1.below hbA).below hb) fine_z6 (of_decide_eq_true (by kernel_rfl)))
  have HDY := Lib.hid (fun w' (hb : Below wr.heap.size wr w') => world_Digest y6 _ w' (((HIN.out.below hb3).below hbA).below hb) fine_y6 (of_decide_eq_true (by kernel_rfl)))
  have HWR := Lib.hid hwr
  obtain ⟨BY, hBY⟩ : ∃ b, b = w1.heap.size := ⟨_, rfl⟩
  obtain ⟨BV, hBV⟩ : ∃ b, b = w3.heap.size := ⟨_, rfl⟩
  obtain ⟨BX, hBX⟩ : ∃ b, b = w3.heap.size + 1 := ⟨_, rfl⟩
  have HBYN := Lib.hid hBY
  have HBVN := Lib.hid hBV
  have HBXN := Lib.hid hBX
  rw [← hBY] at HY
  rw [← hBV] at HV
  rw [← hBX] at HX
  clear hBY hBV hBX
  obtain ⟨DV, hDV⟩ : ∃ d, d = dig (intsW z6) := ⟨_, rfl⟩
  obtain ⟨DY, hDY⟩ : ∃ d, d = dig (intsW y6) := ⟨_, rfl⟩
  obtain ⟨NW, hNW⟩ : ∃ d, d = dig [] := ⟨_, rfl⟩
  obtain ⟨NB, hNB⟩ : ∃ d, d = bdig [] := ⟨_, rfl⟩
  have C1 := dig6
  have C2 := nil6
  rw [← hDV, ← hDY] at C1
  rw [← hNW, ← hNB] at C2
  have HC1 := Lib.hid C1
  have HC2 := Lib.hid C2
  rw [← hDV] at HDV
  rw [← hDY] at HDY
  have HNW := Lib.hid words6
  have HNB := Lib.hid (fun w' => sum_Bytes none 0 [] (by decide) (by decide) (fun z hz => by cases hz) w' (fun h => absurd h (by simp)))
  rw [← hNW] at HNW
  rw [← hNB] at HNB
  clear hb3 hz0 g1 g2 hZ hz1 e1 e2 e3 hv hx hbA hwr hDV hDY hNW hNB C1 C2 HCS HBV HW1 HIN
  go_wp2_with fail
  rw [← HWR.out, ← HBYN.out, ← HBXN.out, ← HBVN.out]
  refine wp_region_facts_t rfl 20 (by kernel_rfl) (F_h6 BX BV BY ck2 cg2 ci2 ck cg ci DV DY NW NB ak2 ag2 ai2 ak ag ai) (F_h6_mono BX BV BY ck2 cg2 ci2 ck cg ci DV DY NW NB ak2 ag2 ai2 ak ag ai) ?_ ?_
  · refine ⟨?_, ?_, ?_, ?_, ?_, ?_, ?_, ?_, ?_, ?_, ?_, ?_, ?_, ?_, ?_, ?_, ?_, ?_, ?_, ?_, trivial⟩
    · intro vs w' F hb hd hF hl hT
      have e := (hF 5).trans (look_out _ 5 _ _ (by kernel_rfl))
      exact one_move _ rfl (by first | exact Or.inl rfl | exact Or.inr rfl) ⟨_, rfl, Below.refl _ _, e⟩
    · intro vs w' F hb hd hF hl hT
      have e1 := ((hF 25).trans (look_at _ 25 0 _ _ (by kernel_rfl) (by kernel_rfl) hl)).trans (dep_of (Fact := F_h6 BX BV BY ck2 cg2 ci2 ck cg ci DV DY NW NB ak2 ag2 ai2 ak ag ai) hd 0 (by kernel_rfl))
      exact rg_eql _ _ _ _ rfl rfl .i64 (0) (0) true e1 rfl (decide_eq_true (by omega)) ⟨_, rfl, Below.refl _ _, rfl⟩
    · intro vs w' F hb hd hF hl hT
      have e := ((hF 26).trans (look_at _ 26 1 _ _ (by kernel_rfl) (by kernel_rfl) hl)).trans (dep_of (Fact := F_h6 BX BV BY ck2 cg2 ci2 ck cg ci DV DY NW NB ak2 ag2 ai2 ak ag ai) hd 1 (by kernel_rfl))
      exact one_move _ rfl (by first | exact Or.inl rfl | exact Or.inr rfl) ⟨_, rfl, Below.refl _ _, e⟩
    · intro vs w' F hb hd hF hl hT
      have eg := ((hF 27).trans (look_at _ 27 2 _ _ (by kernel_rfl) (by kernel_rfl) hl)).trans (dep_of (Fact := F_h6 BX BV BY ck2 cg2 ci2 ck cg ci DV DY NW NB ak2 ag2 ai2 ak ag ai) hd 2 (by kernel_rfl))
      refine wpList_on rfl (t := 27) (by kernel_rfl) eg ?_
      have e := (hF 4).trans (look_out _ 4 _ _ (by kernel_rfl))
      exact rg_load 30 _ rfl rfl (BX) (0) [.int .i64 0, .int .i64 0] e (CellsK.row (heap_below HX.out hb)) _ Try.underlying30 rfl (by kernel_rfl) ⟨_, rfl, Below.refl _ _, rfl⟩
    · intro vs w' F hb hd hF hl hT
      have eg := ((hF 27).trans (look_at _ 27 2 _ _ (by kernel_rfl) (by kernel_rfl) hl)).trans (dep_of (Fact := F_h6 BX BV BY ck2 cg2 ci2 ck cg ci DV DY NW NB ak2 ag2 ai2 ak ag ai) hd 2 (by kernel_rfl))
      refine wpList_on rfl (t := 27) (by kernel_rfl) eg ?_
      exact one_build _ _ rfl rfl #[] (by simp) (.agg #[.int .i64 0, .int .i64 0]) (fun w => by kernel_rfl) ⟨_, rfl, Below.refl _ _, rfl⟩
    · intro vs w' F hb hd hF hl hT
      have eg := ((hF 27).trans (look_at _ 27 2 _ _ (by kernel_rfl) (by kernel_rfl) hl)).trans (dep_of (Fact := F_h6 BX BV BY ck2 cg2 ci2 ck cg ci DV DY NW NB ak2 ag2 ai2 ak ag ai) hd 2 (by kernel_rfl))
      refine wpList_on rfl (t := 27) (by kernel_rfl) eg ?_
      have e1 := (((hF 28).trans (look_at _ 28 3 _ _ (by kernel_rfl) (by kernel_rfl) hl)).trans (dep_of (Fact := F_h6 BX BV BY ck2 cg2 ci2 ck cg ci DV DY NW NB ak2 ag2 ai2 ak ag ai) hd 3 (by kernel_rfl)))
      have e2 := (((hF 29).trans (look_at _ 29 4 _ _ (by kernel_rfl) (by kernel_rfl) hl)).trans (dep_of (Fact := F_h6 BX BV BY ck2 cg2 ci2 ck cg ci DV DY NW NB ak2 ag2 ai2 ak ag ai) hd 4 (by kernel_rfl)))
      exact rg_binrun .eql 30 _ _ _ rfl rfl (.agg #[.int .i64 0, .int .i64 0]) (.agg #[.int .i64 0, .int .i64 0]) (.bool true) e1 e2 (ent_guard6 _ _ _ _ _ _) (ent_eql6 _) ⟨_, rfl, Below.refl _ _, rfl⟩
    · intro vs w' F hb hd hF hl hT
      have ec := ((hF 27).trans (look_at _ 27 2 _ _ (by kernel_rfl) (by kernel_rfl) hl)).trans (dep_of (Fact := F_h6 BX BV BY ck2 cg2 ci2 ck cg ci DV DY NW NB ak2 ag2 ai2 ak ag ai) hd 2 (by kernel_rfl))
      have e := ((hF 30).trans (look_at _ 30 5 _ _ (by kernel_rfl) (by kernel_rfl) hl)).trans (dep_of (Fact := F_h6 BX BV BY ck2 cg2 ci2 ck cg ci DV DY NW NB ak2 ag2 ai2 ak ag ai) hd 5 (by kernel_rfl))
      exact one_pick_t _ _ _ rfl rfl _ ec e ⟨_, rfl, Below.refl _ _, rfl⟩
    · intro vs w' F hb hd hF hl hT
      have e := ((hF 31).trans (look_at _ 31 6 _ _ (by kernel_rfl) (by kernel_rfl) hl)).trans (dep_of (Fact := F_h6 BX BV BY ck2 cg2 ci2 ck cg ci DV DY NW NB ak2 ag2 ai2 ak ag ai) hd 6 (by kernel_rfl))
      exact one_move _ rfl (by first | exact Or.inl rfl | exact Or.inr rfl) ⟨_, rfl, Below.refl _ _, e⟩
    · intro vs w' F hb hd hF hl hT
      have eg := ((hF 32).trans (look_at _ 32 7 _ _ (by kernel_rfl) (by kernel_rfl) hl)).trans (dep_of (Fact := F_h6 BX BV BY ck2 cg2 ci2 ck cg ci DV DY NW NB ak2 ag2 ai2 ak ag ai) hd 7 (by kernel_rfl))
      refine wpList_on rfl (t := 32) (by kernel_rfl) eg ?_
      have e := (hF 3).trans (look_out _ 3 _ _ (by kernel_rfl))
      exact rg_load 27 _ rfl rfl (BV) (0) [.slice ak2 1 ck2, .slice ag2 1 cg2, .slice ai2 1 ci2] e (CellsK.row (heap_below HV.out hb)) _ Try.underlying27 rfl (by kernel_rfl) ⟨_, rfl, Below.refl _ _, rfl⟩
    · intro vs w' F hb hd hF hl hT
      have eg := ((hF 32).trans (look_at _ 32 7 _ _ (by kernel_rfl) (by kernel_rfl) hl)).trans (dep_of (Fact := F_h6 BX BV BY ck2 cg2 ci2 ck cg ci DV DY NW NB ak2 ag2 ai2 ak ag ai) hd 7 (by kernel_rfl))
      refine wpList_on rfl (t := 32) (by kernel_rfl) eg ?_
      have ea0 := ((hF 33).trans (look_at _ 33 8 _ _ (by kernel_rfl) (by kernel_rfl) hl)).trans (dep_of (Fact := F_h6 BX BV BY ck2 cg2 ci2 ck cg ci DV DY NW NB ak2 ag2 ai2 ak ag ai) hd 8 (by kernel_rfl))
      refine one_call _ _ rfl rfl (enters_of Try.func18 (by kernel_rfl) rfl) #[.agg #[.slice ak2 1 ck2, .slice ag2 1 cg2, .slice ai2 1 ci2]] (eval1 ea0) ?_
      refine (HDV.out w' hb).mono ?_
      rintro e2 w2 ⟨rfl, hb2⟩
      exact ⟨_, rfl, _, rfl, hb2, rfl⟩
    · intro vs w' F hb hd hF hl hT
      have eg := ((hF 32).trans (look_at _ 32 7 _ _ (by kernel_rfl) (by kernel_rfl) hl)).trans (dep_of (Fact := F_h6 BX BV BY ck2 cg2 ci2 ck cg ci DV DY NW NB ak2 ag2 ai2 ak ag ai) hd 7 (by kernel_rfl))
      refine wpList_on rfl (t := 32) (by kernel_rfl) eg ?_
      have e := (hF 1).trans (look_out _ 1 _ _ (by kernel_rfl))
      exact rg_load 27 _ rfl rfl (BY) (0) [.slice ak 1 ck, .slice ag 0 cg, .slice ai 0 ci] e (CellsK.row (heap_below HY.out hb)) _ Try.underlying27 rfl (by kernel_rfl) ⟨_, rfl, Below.refl _ _, rfl⟩
    · intro vs w' F hb hd hF hl hT
      have eg := ((hF 32).trans (look_at _ 32 7 _ _ (by kernel_rfl) (by kernel_rfl) hl)).trans (dep_of (Fact := F_h6 BX BV BY ck2 cg2 ci2 ck cg ci DV DY NW NB ak2 ag2 ai2 ak ag ai) hd 7 (by kernel_rfl))
      refine wpList_on rfl (t := 32) (by kernel_rfl) eg ?_
      have ea0 := ((hF 35).trans (look_at _ 35 10 _ _ (by kernel_rfl) (by kernel_rfl) hl)).trans (dep_of (Fact := F_h6 BX BV BY ck2 cg2 ci2 ck cg ci DV DY NW NB ak2 ag2 ai2 ak ag ai) hd 10 (by kernel_rfl))
      refine one_call _ _ rfl rfl (enters_of Try.func18 (by kernel_rfl) rfl) #[.agg #[.slice ak 1 ck, .slice ag 0 cg, .slice ai 0 ci]] (eval1 ea0) ?_
      refine (HDY.out w' hb).mono ?_
      rintro e2 w2 ⟨rfl, hb2⟩
      exact ⟨_, rfl, _, rfl, hb2, rfl⟩
    · intro vs w' F hb hd hF hl hT
      have eg := ((hF 32).trans (look_at _ 32 7 _ _ (by kernel_rfl) (by kernel_rfl) hl)).trans (dep_of (Fact := F_h6 BX BV BY ck2 cg2 ci2 ck cg ci DV DY NW NB ak2 ag2 ai2 ak ag ai) hd 7 (by kernel_rfl))
      refine wpList_on rfl (t := 32) (by kernel_rfl) eg ?_
      have e1 := ((hF 34).trans (look_at _ 34 9 _ _ (by kernel_rfl) (by kernel_rfl) hl)).trans (dep_of (Fact := F_h6 BX BV BY ck2 cg2 ci2 ck cg ci DV DY NW NB ak2 ag2 ai2 ak ag ai) hd 9 (by kernel_rfl))
      have e2 := ((hF 36).trans (look_at _ 36 11 _ _ (by kernel_rfl) (by kernel_rfl) hl)).trans (dep_of (Fact := F_h6 BX BV BY ck2 cg2 ci2 ck cg ci DV DY NW NB ak2 ag2 ai2 ak ag ai) hd 11 (by kernel_rfl))
      exact rg_neq _ _ _ _ rfl rfl .u64 ((DV : Int)) ((DY : Int)) true e1 e2 (decide_eq_true (HC1.out)) ⟨_, rfl, Below.refl _ _, rfl⟩
    · intro vs w' F hb hd hF hl hT
      have ec := ((hF 32).trans (look_at _ 32 7 _ _ (by kernel_rfl) (by kernel_rfl) hl)).trans (dep_of (Fact := F_h6 BX BV BY ck2 cg2 ci2 ck cg ci DV DY NW NB ak2 ag2 ai2 ak ag ai) hd 7 (by kernel_rfl))
      have e := ((hF 37).trans (look_at _ 37 12 _ _ (by kernel_rfl) (by kernel_rfl) hl)).trans (dep_of (Fact := F_h6 BX BV BY ck2 cg2 ci2 ck cg ci DV DY NW NB ak2 ag2 ai2 ak ag ai) hd 12 (by kernel_rfl))
      exact one_pick_t _ _ _ rfl rfl _ ec e ⟨_, rfl, Below.refl _ _, rfl⟩
    · intro vs w' F hb hd hF hl hT
      have e := ((hF 38).trans (look_at _ 38 13 _ _ (by kernel_rfl) (by kernel_rfl) hl)).trans (dep_of (Fact := F_h6 BX BV BY ck2 cg2 ci2 ck cg ci DV DY NW NB ak2 ag2 ai2 ak ag ai) hd 13 (by kernel_rfl))
      exact one_move _ rfl (by first | exact Or.inl rfl | exact Or.inr rfl) ⟨_, rfl, Below.refl _ _, e⟩
    · intro vs w' F hb hd hF hl hT
      have eg := ((hF 39).trans (look_at _ 39 14 _ _ (by kernel_rfl) (by kernel_rfl) hl)).trans (dep_of (Fact := F_h6 BX BV BY ck2 cg2 ci2 ck cg ci DV DY NW NB ak2 ag2 ai2 ak ag ai) hd 14 (by kernel_rfl))
      refine wpList_on rfl (t := 39) (by kernel_rfl) eg ?_
      refine one_call _ _ rfl rfl (enters_of Try.func19 (by kernel_rfl) rfl) #[Value.slice none 0 0] (eval1 rfl) ?_
      refine (HNW.out w').mono ?_
      rintro e2 w2 ⟨rfl, hb2⟩
      exact ⟨_, rfl, _, rfl, hb2, rfl⟩
    · intro vs w' F hb hd hF hl hT
      have eg := ((hF 39).trans (look_at _ 39 14 _ _ (by kernel_rfl) (by kernel_rfl) hl)).trans (dep_of (Fact := F_h6 BX BV BY ck2 cg2 ci2 ck cg ci DV DY NW NB ak2 ag2 ai2 ak ag ai) hd 14 (by kernel_rfl))
      refine wpList_on rfl (t := 39) (by kernel_rfl) eg ?_
      refine one_call _ _ rfl rfl (enters_of Try.func20 (by kernel_rfl) rfl) #[Value.slice none 0 0] (eval1 rfl) ?_
      refine (HNB.out w').mono ?_
      rintro e2 w2 ⟨rfl, hb2⟩
      exact ⟨_, rfl, _, rfl, hb2, rfl⟩
    · intro vs w' F hb hd hF hl hT
      have eg := ((hF 39).trans (look_at _ 39 14 _ _ (by kernel_rfl) (by kernel_rfl) hl)).trans (dep_of (Fact := F_h6 BX BV BY ck2 cg2 ci2 ck cg ci DV DY NW NB ak2 ag2 ai2 ak ag ai) hd 14 (by kernel_rfl))
      refine wpList_on rfl (t := 39) (by kernel_rfl) eg ?_
      have e1 := ((hF 40).trans (look_at _ 40 15 _ _ (by kernel_rfl) (by kernel_rfl) hl)).trans (dep_of (Fact := F_h6 BX BV BY ck2 cg2 ci2 ck cg ci DV DY NW NB ak2 ag2 ai2 ak ag ai) hd 15 (by kernel_rfl))
      have e2 := ((hF 41).trans (look_at _ 41 16 _ _ (by kernel_rfl) (by kernel_rfl) hl)).trans (dep_of (Fact := F_h6 BX BV BY ck2 cg2 ci2 ck cg ci DV DY NW NB ak2 ag2 ai2 ak ag ai) hd 16 (by kernel_rfl))
      exact rg_neq _ _ _ _ rfl rfl .u64 ((NW : Int)) ((NB : Int)) true e1 e2 (decide_eq_true (HC2.out)) ⟨_, rfl, Below.refl _ _, rfl⟩
    · intro vs w' F hb hd hF hl hT
      have ec := ((hF 39).trans (look_at _ 39 14 _ _ (by kernel_rfl) (by kernel_rfl) hl)).trans (dep_of (Fact := F_h6 BX BV BY ck2 cg2 ci2 ck cg ci DV DY NW NB ak2 ag2 ai2 ak ag ai) hd 14 (by kernel_rfl))
      have e := ((hF 42).trans (look_at _ 42 17 _ _ (by kernel_rfl) (by kernel_rfl) hl)).trans (dep_of (Fact := F_h6 BX BV BY ck2 cg2 ci2 ck cg ci DV DY NW NB ak2 ag2 ai2 ak ag ai) hd 17 (by kernel_rfl))
      exact one_pick_t _ _ _ rfl rfl _ ec e ⟨_, rfl, Below.refl _ _, rfl⟩
    · intro vs w' F hb hd hF hl hT
      have e := ((hF 43).trans (look_at _ 43 18 _ _ (by kernel_rfl) (by kernel_rfl) hl)).trans (dep_of (Fact := F_h6 BX BV BY ck2 cg2 ci2 ck cg ci DV DY NW NB ak2 ag2 ai2 ak ag ai) hd 18 (by kernel_rfl))
      exact one_move _ rfl (by first | exact Or.inl rfl | exact Or.inr rfl) ⟨_, rfl, Below.refl _ _, e⟩
  · intro vs8 W8 hl hb hI
    have i19 : vs8.getD 19 undef = .bool true := hI 19 (by omega)
    obtain ⟨x0, x1, x2, x3, x4, x5, x6, x7, x8, x9, x10, x11, x12, x13, x14, x15, x16, x17, x18, x19, hvs⟩ := list20h hl
    subst hvs
    replace i19 : x19 = .bool true := i19
    subst i19
    have HB9 := Lib.hid hb
    clear hI hl hb
    simp only [fillAll, Act.put, List.setIfInBounds_toArray, List.set_cons_succ, List.set_cons_zero]
    show wpList _ _ _ [] _ _
    go_wp2
    go_ret
    exact ⟨rfl, bt HB.out HB9.out⟩
end Go.Proofs.Ytpilpkbblkhnaaa
end
/- The law TopSlotWorld. By program (gen_swlaw.py). -/
section
namespace Go.Proofs.Ytpilpkbblkhnaaa
open Go.ChangeShapes Go.WideShapes Go.ChangeAt Go.RowKit Go.Nm Go.Mem Go.Sp Go.Slt
set_option linter.unusedVariables false
theorem list7w {α : Type} {vs : List α} (h : vs.length = 7) : ∃ x0 x1 x2 x3 x4 x5 x6, vs = [x0, x1, x2, x3, x4, x5, x6] := by
  obtain ⟨x0, t0, rfl, h0⟩ := cons_of h
  obtain ⟨x1, t1, rfl, h1⟩ := cons_of h0
  obtain ⟨x2, t2, rfl, h2⟩ := cons_of h1
  obtain ⟨x3, t3, rfl, h3⟩ := cons_of h2
  obtain ⟨x4, t4, rfl, h4⟩ := cons_of h3
  obtain ⟨x5, t5, rfl, h5⟩ := cons_of h4
  obtain ⟨x6, t6, rfl, h6⟩ := cons_of h5
  exact ⟨x0, x1, x2, x3, x4, x5, x6, by rw [List.eq_nil_of_length_eq_zero h6]⟩
def F_sw29 (b3 s nz cl2 mg zgc zac : Nat) (al2 zg za : Option Addr) (GG : List Int) (jq : Nat) (v : Value) (w : World) : Prop :=
  match jq with
  | 0 => v = .pointer (some ⟨s, 0, none⟩)
  | 1 => ∃ a c, v = .slice a mg c ∧ IntsAt .i64 w a GG
  | 2 => v = .pointer (some ⟨b3, 1, none⟩)
  | 3 => v = .slice zg mg zgc
  | 4 => v = .bool true
  | 5 => v = .bool false
  | 6 => v = .bool false
  | 7 => v = .slice al2 nz cl2
  | 8 => v = .int .i64 (nz : Int)
  | 9 => v = .pointer (some ⟨b3, 2, none⟩)
  | 10 => v = .slice za nz zac
  | 11 => v = .int .i64 (nz : Int)
  | 12 => v = .bool false
  | 13 => v = .bool false
  | _ => True
theorem F_sw29_mono (b3 s nz cl2 mg zgc zac : Nat) (al2 zg za : Option Addr) (GG : List Int) : Facts (F_sw29 b3 s nz cl2 mg zgc zac al2 zg za GG) := ⟨by
  intro jq v w w' h hb
  unfold F_sw29 at h ⊢
  split at h
  all_goals first
    | exact h
    | (obtain ⟨a, c, h1, h2⟩ := h; exact ⟨a, c, h1, h2.below hb⟩)
    | trivial⟩
def F_sw34 (BB eb eo nz cl2 j : Nat) (kn kg : Int) (jq : Nat) (v : Value) (w : World) : Prop :=
  match jq with
  | 0 => v = .slice (some ⟨eb, eo, none⟩) nz cl2
  | 1 => v = .int .i64 (j : Int)
  | 2 => v = .pointer (some ⟨eb, eo + j * 2, none⟩)
  | 3 => v = .agg #[.int .i64 kn, .int .i64 kg]
  | 4 => v = .pointer (some ⟨BB, 0, none⟩)
  | 5 => v = .agg #[.int .i64 kn, .int .i64 kg]
  | 6 => v = .bool false
  | _ => True
theorem F_sw34_mono (BB eb eo nz cl2 j : Nat) (kn kg : Int) : Facts (F_sw34 BB eb eo nz cl2 j  kn kg ) := ⟨by
  intro jq v w w' h hb
  unfold F_sw34 at h ⊢
  split at h
  all_goals first
    | exact h
    | trivial⟩

theorem used_snoc (y : WorldV) (i : Nat) (h : i < y.items.length) : (usedL y).take i ++ [y.items[i].n] = (usedL y).take (i + 1) := by
  unfold usedL
  rw [List.take_add_one, List.getElem?_map, List.getElem?_eq_getElem h]; rfl
set_option maxHeartbeats 64000000 in
set_option maxRecDepth 20000 in
theorem walk_TopSlotWorld (l : List Int) (a : Option Addr) (n c : Nat) (hn : l.length = n) (hc : n ≤ c) (hm : c ≤ 9223372036854775807) (W : World) (hi : IntsAt .i64 W a l) (hbk : ∀ x, a = some x → x.block < W.heap.size) : Calls Try.prog 3 #[.slice a n c] W fun e w' => e = .returned (.bool true) ∧ Below W.heap.size W w' := by
  have HI := Lib.hid hi
  have HBK := Lib.hid hbk
  have HN := Lib.hid (And.intro hn (And.intro hc hm))
  have C0 := Lib.hid (h6_begun W)
  obtain ⟨m, hmm⟩ : ∃ m, m = min n 40 := ⟨_, rfl⟩
  have HMM := Lib.hid hmm
  have HM40 := Lib.hid (show m ≤ 40 ∧ m ≤ n by omega)
  have hmin : min (n : Int) 40 = (m : Int) := by omega
  have z0 : (0 : Int) ≤ (m : Int) := by omega
  have z1 : m ≤ n := by omega
  have z2 : m ≤ c := by omega
  clear hi hbk hn hm hmm
  go_enter Try.func3, Try.ntmps3
  go_wp2_with fail
  refine C0.out.mono ?_
  rintro e w1 ⟨rfl, hb1⟩
  have HB1 := Lib.hid hb1
  have C1 := Lib.hid (tm_World l a n c HN.out.1 HN.out.2.1 HN.out.2.2 w1 (HI.out.below hb1) (fun x hx => Nat.lt_of_lt_of_le (HBK.out x hx) hb1.size))
  clear hb1 C0
  go_wp2_with fail
  refine C1.out.mono ?_
  rintro e w2 ⟨y0, v, rfl, hv, hy, hb2⟩
  have hv0 := hv
  obtain ⟨ak, ck, ag, cg, ai, ci, rfl, hzk, hzg, hzi, hck, hckm⟩ := hv
  obtain ⟨nk, hnk⟩ : ∃ x, x = y0.kinds.length := ⟨_, rfl⟩
  obtain ⟨ng, hng⟩ : ∃ x, x = y0.gens.length := ⟨_, rfl⟩
  obtain ⟨ni, hni⟩ : ∃ x, x = y0.items.length := ⟨_, rfl⟩
  rw [← hnk, ← hng, ← hni] at hv0 ⊢
  have hba := (Below.refl w2.heap.size w2).alloc (Nat.le_refl _) (.cells #[.slice ak nk ck, .slice ag ng cg, .slice ai ni ci] 27)
  have hr3 := heap_alloc_new w2 (.cells #[.slice ak nk ck, .slice ag ng cg, .slice ai ni ci] 27)
  obtain ⟨w3, hw3⟩ : ∃ w, w = w2.alloc (.cells #[.slice ak nk ck, .slice ag ng cg, .slice ai ni ci] 27) := ⟨_, rfl⟩
  obtain ⟨b3, hb3⟩ : ∃ x, x = w2.heap.size := ⟨_, rfl⟩
  have hs3 : w3.heap.size = b3 + 1 := by rw [hw3, hb3, World.size_alloc]
  rw [← hw3] at hba hr3
  rw [← hb3] at hr3
  have q1 := cell_of_row _ _ 1 _ _ _ hr3
  have q2 := cell_of_row _ _ 2 _ _ _ hr3
  have HW3 := Lib.hid (And.intro hw3 hb3)
  have HR3 := Lib.hid hr3
  have HS3 := Lib.hid hs3
  have HSW := Lib.hid hy.sw
  have HV2 := Lib.hid hv0
  have HBA := Lib.hid hba
  have HB3 := Lib.hid (bt (bt HB1.out hb2) hba)
  have HNI := Lib.hid hni
  have HNG := Lib.hid hng
  have HZI := Lib.hid (hzi.below ItemAt.abides hba)
  have HZG := Lib.hid (hzg.below hba)
  have HB3W := Lib.hid (show W.heap.size ≤ b3 by rw [hb3]; have := HB1.out.size; have := hb2.size; omega)
  have HNB := Lib.hid (show ni ≤ 100 ∧ ng ≤ 100 by have h1 := hy.sw.il; have h2 := hy.sw.gl; rw [hni, hng]; omega)
  clear hzk hzg hzi hck hckm hnk hng hni hba hr3 hw3 hb3 hs3 hv0 hy hb2 C1 HB1
  go_wp2_with (rw [← HW3.out.1, ← HW3.out.2])
  try rw [← HW3.out.1, ← HW3.out.2]
  go_loopg [29, 4, 6] ni (fun gk v29 v4 v6 wx => ∃ i : Nat, i ≤ ni ∧ gk = ni - i ∧ v29 = .int .i64 i ∧ wx.ownsRow w3.heap.size 3 1 v4 i (vints .i64 ((usedL y0).take i)) ∧ Below w3.heap.size w3 wx)
  case atStart => exact ⟨0, Nat.zero_le _, rfl, rfl, World.ownsRow_nil _ _ _ _, Below.refl _ _⟩
  case round =>
    obtain ⟨i, hin, g2, rfl, hown, hbx⟩ := hrel
    have G2 := Lib.hid g2
    have HBX := Lib.hid hbx
    have HOW := Lib.hid hown
    have hsl := own_slC hown
    clear g2 hown hbx
    by_cases hlt : i < ni
    · obtain ⟨x, rfl, _, _⟩ := HZI.out (by rw [← HNI.out]; omega)
      obtain ⟨xb, xo, rfl, av, cv, hcl, _⟩ := item_cells (HZI.out.below ItemAt.abides HBX.out) i (by rw [← HNI.out]; exact hlt)
      obtain ⟨it, hitd⟩ : ∃ it, it = y0.items[i]'(by rw [← HNI.out]; exact hlt) := ⟨_, rfl⟩
      rw [← hitd] at hcl
      obtain ⟨kn, hkn⟩ : ∃ kn, kn = it.n := ⟨_, rfl⟩
      obtain ⟨kg, hkg⟩ : ∃ kg, kg = it.gen := ⟨_, rfl⟩
      obtain ⟨nv, hnv⟩ : ∃ nv, nv = it.comps.length := ⟨_, rfl⟩
      rw [← hkn, ← hkg, ← hnv] at hcl
      have e0 := hcl.at 0 (by simp)
      have e1 := hcl.at 1 (by simp)
      have e2 := hcl.at 2 (by simp)
      simp only [List.getElem_cons_zero, List.getElem_cons_succ, Nat.add_zero] at e0 e1 e2
      have hro := new_row wr #[.int .i64 kn, .int .i64 kg, .slice av nv cv] 33
      have q0 := hro.at 0 (by simp)
      simp only [List.getElem_cons_zero, Nat.zero_add] at q0
      have HKN := Lib.hid (show (usedL y0).take i ++ [kn] = (usedL y0).take (i + 1) by rw [← used_snoc y0 i (by rw [← HNI.out]; exact hlt), ← hitd, hkn])
      have HWS := Lib.hid HBX.out.size
      clear hcl hitd hkn hkg hnv hro
      obtain ⟨aa, cc, rfl⟩ := hsl
      have hal := new_ints1 (wr.alloc (.cells #[.int .i64 kn, .int .i64 kg, .slice av nv cv] 33 (0, 0))) kn
      rw [World.size_alloc] at hal
      have hbz := ((Below.refl wr.heap.size wr).alloc (Nat.le_refl _) (.cells #[.int .i64 kn, .int .i64 kg, .slice av nv cv] 33 (0, 0))).alloc (by simp) (.cells #[.int .i64 kn] 3 (0, 0))
      have how := own_below HOW.out hbz
      obtain ⟨wz, hwz⟩ : ∃ wz, wz = (wr.alloc (.cells #[.int .i64 kn, .int .i64 kg, .slice av nv cv] 33 (0, 0))).alloc (.cells #[.int .i64 kn] 3 (0, 0)) := ⟨_, rfl⟩
      rw [← hwz] at hal hbz how
      have HAL := Lib.hid hal
      have HBZ := Lib.hid hbz
      have HOZ := Lib.hid how
      have HWZ := Lib.hid hwz
      clear hal hbz how hwz HOW
      go_wp2_with (first | rw [← HWZ.out] | (at_builtin; go_must (refine wpList_append_ints rfl _ _ 22 rfl w3.heap.size 3 .i64 8 Try.underlying22 (by kernel_rfl) (.slice aa i cc) i ((usedL y0).take i) rfl HOZ.out (some ⟨wr.heap.size + 1, 0, none⟩) 1 1 [kn] rfl rfl HAL.out (by unfold maxLen; have := HNB.out; omega) (by have := HNB.out; omega) (by have := HBZ.out.size; have := HWS.out; omega) ?_); intro v6 w6 hown6 hg6 hor6; have HO6 := Lib.hid hown6; have HG6 := Lib.hid hg6; clear hown6 hg6 hor6))
      go_roundg (ni - (i + 1))
      case measure => rw [G2.out]; omega
      case rel =>
        obtain ⟨hnb, _⟩ := HNB.out
        have hw1 : wrap64 ((i : Int) + 1) = (i : Int) + 1 := by unfold wrap64; omega
        refine ⟨i + 1, hlt, rfl, congrArg (Value.int .i64) (by first | exact hw1 | (push_cast; exact hw1)), ?_, ?_⟩
        · have h := HO6.out
          rw [HKN.out] at h
          exact h
        · have h1 := HBX.out.trans (HBZ.out.mono HWS.out)
          exact h1.grown HG6.out h1.size (fun r hr => (own_lt HOZ.out r hr).1)
    · obtain rfl : ni = i := by omega
      have hti : (usedL y0).take ni = usedL y0 := by rw [List.take_of_length_le]; unfold usedL; rw [List.length_map, HNI.out]; exact Nat.le_refl _
      rw [hti] at HOW
      have hbr : Below w3.heap.size w3 wr := HBX.out
      obtain ⟨aa, cc, rfl⟩ := hsl
      have hsw := HSW.out
      have CO := Lib.hid (sl_Of y0.gens (usedL y0) ag aa ng ni cg cc HNG.out.symm (by unfold usedL; rw [List.length_map, HNI.out]) (by have := HNB.out; omega) (by have := HNB.out; omega) wr (HZG.out.below hbr) (IntsAt.of_own HOW.out (by unfold usedL; rw [List.length_map, HNI.out])))
      have HE0 := Lib.hid (of_ok hsw (by omega))
      have HBR := Lib.hid hbr
      have q1' := cell_of_row _ _ 1 _ _ _ (heap_below HR3.out hbr)
      clear hti hbr hsw HOW q1 q2
      go_wp2_with fail
      refine CO.out.mono ?_
      rintro e w4 ⟨hb4, hE⟩
      rcases hE with ⟨h0, _⟩ | ⟨_, s, vg, vu, vf, U, F, rfl, hsl4, hsi4⟩
      · exact absurd HE0.out h0
      obtain ⟨D, hD⟩ : ∃ D, D = wr.heap.size := ⟨_, rfl⟩
      rw [← hD] at hsl4
      have hDb : b3 < D := by have := HBR.out.size; have := HS3.out; omega
      have hds := hsl4.ds
      have hB34 := HBR.out.trans (hb4.mono HBR.out.size)
      have hst : SwS W b3 D s y0 (.slice ak nk ck) (.slice ag ng cg) (.slice ai ni ci) vg vu vf y0.gens (Bw y0) U F w4 := by
        refine ⟨heap_below HR3.out hB34, ?_, hsl4, hsi4, hDb, bt HB3.out hB34, HB3W.out⟩
        refine elder_stays HV2.out (HBA.out.trans (hB34.mono HBA.out.size)) (fun g hg => ?_)
        have hb3 := HW3.out.2
        rcases List.mem_cons.1 hg with rfl | hg
        · omega
        · rcases List.mem_cons.1 hg with rfl | hg
          · omega
          · obtain ⟨v, hv, e⟩ := mem_rowsOf.1 hg
            rw [List.mem_singleton.1 hv] at e
            have := (own_lt hsl4.gens g e).1
            omega
      have t1 : ((0 : Int) != 0) = false := rfl
      have HST := Lib.hid hst
      have HSW2 := Lib.hid HSW.out
      clear q1' hb4 hsl4 hsi4 hD hDb hds hB34 hst CO HE0 HBR HR3 HS3 HV2 HBA HB3 HNI HNG HZI HZG HNB HSW HBX G2 hin HW3
      go_wp2_with fail
      go_loopg [59, 10, 11, 12, 13, 14, 15, 16, 17, 18, 19, 20, 21] m (fun gk v59 _ _ _ _ _ _ _ _ _ _ _ _ wx => ∃ (i : Nat) (y : WorldV) (c0 c1 c2 vg vu vf : Value) (U F : List Nat), i ≤ m ∧ gk = m - i ∧ v59 = .int .i64 i ∧ SW y i ∧ SwS W b3 D s y c0 c1 c2 vg vu vf y.gens (Bw y) U F wx)
      case atStart => exact ⟨0, y0, _, _, _, vg, vu, vf, U, F, Nat.zero_le _, rfl, rfl, HSW2.out, HST.out⟩
      case round =>
        obtain ⟨i, y, c0, c1, c2, vg, vu, vf, U, F, hin, g2, rfl, hsw, hst⟩ := hrel
        have G2 := Lib.hid g2
        have HSW := Lib.hid hsw
        have HST := Lib.hid hst
        clear g2 hsw hst
        by_cases hlt : i < m
        · have hln : l.length = n := HN.out.1
          have hil : i < l.length := by omega
          have hi40 : i ≤ 39 := by have := HM40.out; omega
          obtain ⟨zi, hzi⟩ : ∃ z, z = l.getD i 0 := ⟨_, rfl⟩
          obtain ⟨ax, hax, _⟩ := HI.out (by omega)
          subst hax
          obtain ⟨xb, xo, rfl, hcell⟩ := ints_cell (HI.out.below HST.out.bel) i hil
          rw [← hzi, Nat.mul_one] at hcell
          obtain ⟨ak, ck, ag, cg, ai, ci, rfl, rfl, rfl⟩ := world_form HST.out.wor.now
          obtain ⟨nk, hnk⟩ : ∃ x, x = y.kinds.length := ⟨_, rfl⟩
          obtain ⟨ng, hng⟩ : ∃ x, x = y.gens.length := ⟨_, rfl⟩
          obtain ⟨ni, hni⟩ : ∃ x, x = y.items.length := ⟨_, rfl⟩
          have hst := HST.out
          rw [← hnk, ← hng, ← hni] at hst
          have CL := Lib.hid (sl_List hst.sl hst.si)
          have H39 := Lib.hid hi40
          have HNI := Lib.hid hni
          clear hln hil hi40 hzi hnk hng hni
          go_wp2_with fail
          refine CL.out.mono ?_
          rintro e wl ⟨al, nE, cE, hnE, rfl, hle, hbl⟩
          rw [show entK y.gens (Bw y) (Bw y).length = entsW y from ents_eq HSW.out] at hnE hle
          rw [entsW_len, ← HNI.out] at hnE
          subst hnE
          have HSL := Lib.hid (hst.below hbl)
          have HLE := Lib.hid hle
          clear hcell hst hle hbl CL HST
          go_wp2_with fail
          rotate_left 2
          · have hcond := ‹(zi.tmod 2 == 0) = false ∧ ((ni : Int) == 0) = false›
            have hpos : 0 < ni := by have h := hcond.2; simp at h; omega
            have hni2 : ni ≤ 51 := by have h1 := HSW.out.il; have h2 := HSW.out.gl; have := H39.out; have := HNI.out; omega
            refine (tm_BelowE (wrap64 (zi.tdiv 2)) (ni : Int) (by omega) (by omega) wl).mono ?_
            rintro e wl' ⟨rfl, rfl⟩
            obtain ⟨k, hk⟩ : ∃ k : Nat, wrap64 (zi.tdiv 2) % (ni : Int) = (k : Int) := ⟨(wrap64 (zi.tdiv 2) % (ni : Int)).toNat, by have := Int.emod_nonneg (wrap64 (zi.tdiv 2)) (show (ni : Int) ≠ 0 by omega); omega⟩
            have hkn : k < ni := by have := Int.emod_lt_of_pos (wrap64 (zi.tdiv 2)) (show (0 : Int) < (ni : Int) by omega); omega
            rw [hk]
            have hky : k < y.items.length := by rw [← HNI.out]; exact hkn
            obtain ⟨eb, eo, rfl, hc0, hc1⟩ := ents_cell2 HLE.out k (by rw [entsW_len]; exact hky)
            rw [entsW_get y k hky] at hc0 hc1
            obtain ⟨p, hp⟩ : ∃ p, p = y.items[k].n := ⟨_, rfl⟩
            obtain ⟨q, hq⟩ : ∃ q, q = y.items[k].gen := ⟨_, rfl⟩
            simp only at hc0 hc1
            rw [← hp] at hc0
            rw [← hq] at hc1
            have hba := (Below.refl wl'.heap.size wl').alloc (Nat.le_refl _) (.cells #[.int .i64 p, .int .i64 q] 30 (0, 0))
            have hr17 := heap_alloc_new wl' (.cells #[.int .i64 p, .int .i64 q] 30 (0, 0))
            obtain ⟨wk, hwk⟩ : ∃ w, w = wl'.alloc (.cells #[.int .i64 p, .int .i64 q] 30 (0, 0)) := ⟨_, rfl⟩
            obtain ⟨b17, hb17⟩ : ∃ b, b = wl'.heap.size := ⟨_, rfl⟩
            have hrows := HSL.out.rows
            rw [← hwk] at hba hr17
            rw [← hb17] at hr17 hrows
            have hst := HSL.out.below hba
            have hsm := HSW.out.small (by have := H39.out; omega)
            have hkf : ∀ k ∈ y.kinds, k.fields.length ≤ 1048576 := fun k hk => ((HSW.out.fine (by have := H39.out; omega)).k k hk).2.1
            have ck := world_Kill y (.agg #[.slice ak nk ck, .slice ag ng cg, .slice ai ni ci]) p q wk hst.wor.now hsm hkf
            have hfe : foundE y p q = 0 := by rw [hp, hq]; exact foundE_item HSW.out (by have := H39.out; omega) k hky
            have hen : entN y p q = k := by rw [hp, hq]; exact entN_item HSW.out k hky
            rw [hfe] at ck
            obtain ⟨k1, k2, k3, k4, k5⟩ := kill_sw HSW.out H39.out k hky
            rw [← hp] at k2 k3 k4 k5
            rw [← hq] at k4
            have hpl : p ≤ 9223372036854775807 := by have h1 := (HSW.out.it _ (List.getElem_mem hky)).2.1; have h2 := HSW.out.gl; have := H39.out; rw [← hp] at h1; omega
            have CK := Lib.hid ck
            have HEN := Lib.hid hen
            have HST := Lib.hid hst
            have HWK := Lib.hid (And.intro hwk hb17)
            have HR17 := Lib.hid hr17
            have HROWS := Lib.hid hrows
            have HK1 := Lib.hid k1
            have HK2 := Lib.hid k2
            have HK3 := Lib.hid k3
            have HK4 := Lib.hid k4
            have HK5 := Lib.hid k5
            have HPL := Lib.hid hpl
            have j0 : (0 : Int) ≤ (k : Int) := by omega
            have j1 : (k : Int) < (ni : Int) := by omega
            have x0 := cell_of_row _ _ 0 _ _ _ hst.box
            have x1 := cell_of_row _ _ 1 _ _ _ hst.box
            have x2 := cell_of_row _ _ 2 _ _ _ hst.box
            have y0 := cell_of_row _ _ 0 _ _ _ hr17
            have y1 := cell_of_row _ _ 1 _ _ _ hr17
            clear hcond hk hp hq hba hr17 hwk hb17 hrows hst hsm hkf ck hfe hen k1 k2 k3 k4 k5 hpl HLE HSL
            go_wp2_with (rw [← HWK.out.1, ← HWK.out.2])
            try rw [← HWK.out.1, ← HWK.out.2]
            refine CK.out.mono ?_
            rintro e ws ⟨⟨v, Z, rfl, hup, _, hgood⟩, hbs⟩
            obtain ⟨_, hl, hZ⟩ := hgood rfl
            simp only [HEN.out] at hZ
            have hk1 := HK1.out
            have hk2 := HK2.out
            have hk3 := HK3.out
            have hk5 := HK5.out
            rw [← hZ] at hk1 hk2 hk3 hk5
            obtain ⟨zk, zkc, zg, zgc, za, zac, rfl, _⟩ := hup.now
            obtain ⟨Zk, hZk⟩ : ∃ x, x = Z.kinds.length := ⟨_, rfl⟩
            obtain ⟨mg, hmg⟩ : ∃ x, x = Z.gens.length := ⟨_, rfl⟩
            obtain ⟨nz, hnz⟩ : ∃ x, x = Z.items.length := ⟨_, rfl⟩
            rw [← hZk, ← hmg, ← hnz] at hup ⊢
            have hba := (Below.refl ws.heap.size ws).alloc (Nat.le_refl _) (.cells #[.slice zk Zk zkc, .slice zg mg zgc, .slice za nz zac] 27 (0, 0))
            have hr18 := heap_alloc_new ws (.cells #[.slice zk Zk zkc, .slice zg mg zgc, .slice za nz zac] 27 (0, 0))
            obtain ⟨wv, hwv⟩ : ∃ w, w = ws.alloc (.cells #[.slice zk Zk zkc, .slice zg mg zgc, .slice za nz zac] 27 (0, 0)) := ⟨_, rfl⟩
            obtain ⟨b18, hb18⟩ : ∃ b, b = ws.heap.size := ⟨_, rfl⟩
            rw [← hwv] at hba hr18
            rw [← hb18] at hr18
            have hbkv := hbs.trans (hba.mono hbs.size)
            have hstv := HST.out.below hbkv
            have hr17 := heap_below HR17.out hbkv
            have hnew := (HST.out.new hup).below hba
            have hl17 : b17 < b18 := by rw [hb18]; exact Nat.lt_of_lt_of_le (lt_of_heap HR17.out) hbs.size
            have hs17 : s < b17 := HROWS.out s (List.mem_cons_of_mem _ (List.mem_cons_self ..))
            have CFR := Lib.hid (sl_Free hstv.sl hstv.si p q HPL.out)
            have HSTV := Lib.hid hstv
            have HNEW := Lib.hid hnew
            have HR17v := Lib.hid hr17
            have HR18 := Lib.hid hr18
            have HWV := Lib.hid (And.intro hwv hb18)
            have HZ1 := Lib.hid hk1
            have HZ2 := Lib.hid hk2
            have HZ3 := Lib.hid hk3
            have HZ5 := Lib.hid hk5
            have HNZ := Lib.hid hnz
            have HMG := Lib.hid hmg
            have HL17 := Lib.hid hl17
            have HS17 := Lib.hid hs17
            have HNZB := Lib.hid (show nz ≤ 1000 by rw [hnz]; have := hk1.il; have := hk1.gl; have := H39.out; omega)
            have y0 := cell_of_row _ _ 0 _ _ _ hr17
            have y1 := cell_of_row _ _ 1 _ _ _ hr17
            clear hgood hZ hk1 hk2 hk3 hk5 hZk hmg hnz hup hba hr18 hwv hb18 hbkv hstv hr17 hnew hl17 hs17 hl hbs x0 x1 x2 HK1 HK2 HK3 HK5 CK HST HR17 HWK HEN
            go_wp2_with (rw [← HWV.out.1, ← HWV.out.2])
            try rw [← HWV.out.1, ← HWV.out.2]
            refine CFR.out.mono ?_
            intro e wf hpost
            simp only [HK4.out, if_true] at hpost
            obtain ⟨rfl, tg, tu, tf, TU, TF, hs1, hs2, hs3, hs4⟩ := hpost
            have hnp : ∀ g, b17 ≤ g → ¬ SlP s vg g := fun g hg hsp => by
              rcases hsp with rfl | e
              · have := HS17.out; omega
              · have := HROWS.out g (List.mem_cons_of_mem _ (List.mem_cons_of_mem _ (mem_rowsOf.2 ⟨vg, List.mem_cons_self .., e⟩))); omega
            have hst := HSTV.out.slots hs1 hs2 hs3 hs4
            rw [← HZ2.out, ← HZ3.out] at hst
            have hnew := sl_stays HNEW.out hs3 hs4
            have hr17 := heap_grp HR17v.out hs3 (hnp _ (Nat.le_refl _))
            have hr18 := heap_grp HR18.out hs3 (hnp _ (Nat.le_of_lt HL17.out))
            have hsmz := HZ1.out.small (by have := H39.out; omega)
            have CFN := Lib.hid (world_Find Z _ p q wf hnew.now hsmz)
            have HST := Lib.hid hst
            have HNW := Lib.hid hnew
            have HR17 := Lib.hid hr17
            have HR18f := Lib.hid hr18
            have y0 := cell_of_row _ _ 0 _ _ _ hr17
            have y1 := cell_of_row _ _ 1 _ _ _ hr17
            have u0 := cell_of_row _ _ 0 _ _ _ hr18
            have u1 := cell_of_row _ _ 1 _ _ _ hr18
            have u2 := cell_of_row _ _ 2 _ _ _ hr18
            clear hs1 hs2 hs3 hs4 hnp hst hnew hr17 hr18 hsmz HSTV HNEW HR17v HR18 HWV CFR
            go_wp2_with fail
            refine CFN.out.mono ?_
            rintro e wn ⟨⟨K, rfl, hK⟩, hbn⟩
            have hK1 := idx_none hK HZ5.out
            subst hK1
            have hst := HST.out.below hbn
            have hr17 := heap_below HR17.out hbn
            have hr18 := heap_below HR18f.out hbn
            have hnew := HNW.out.below hbn
            have CAL := Lib.hid (sl_Alive hst.sl hst.si p q HPL.out)
            have HST2 := Lib.hid hst
            have HNW2 := Lib.hid hnew
            have HR18n := Lib.hid hr18
            have y0 := cell_of_row _ _ 0 _ _ _ hr17
            have y1 := cell_of_row _ _ 1 _ _ _ hr17
            clear hK hbn hst hr17 hr18 hnew u0 u1 u2 CFN HST HNW HR17 HR18f
            go_wp2_with fail
            refine CAL.out.mono ?_
            rintro e wa ⟨rfl, hbw⟩
            rw [HZ3.out, alive_freed]
            have hst := HST2.out.below hbw
            have hr18 := heap_below HR18n.out hbw
            have HST3 := Lib.hid hst
            have HNW3 := Lib.hid (HNW2.out.below hbw)
            have u0 := cell_of_row _ _ 0 _ _ _ hr18
            have u1 := cell_of_row _ _ 1 _ _ _ hr18
            have u2 := cell_of_row _ _ 2 _ _ _ hr18
            clear hbw hst hr18 y0 y1 CAL HST2 HNW2 HR18n
            go_wp2_with (refine wpList_store_rowP rfl 27 (.tmp 3) (.tmp 129) rfl b3 #[.slice zk Zk zkc, .slice zg mg zgc, .slice za nz zac] rfl rfl _ _ HST3.out.box (by kernel_rfl) rfl (ones3 _ _ _ rfl rfl rfl) ?_; intro W11 hput; have HSTT := Lib.hid (HST3.out.store HNW3.out hput); clear hput)
            have HSWT := HZ1
            clear HZ1 HZ2 HZ3 HZ5 HST3 HNW3 HROWS HPL HK4 HL17 HS17 u0 u1 u2
            refine (sl_List HSTT.out.sl HSTT.out.si).mono ?_
            rintro e wu ⟨al2, nl2, cl2, hnl2, rfl, hle2, hbu⟩
            rw [show entK Z.gens (Bw Z) (Bw Z).length = entsW Z from ents_eq HSWT.out] at hnl2 hle2
            rw [entsW_len, ← HNZ.out] at hnl2
            subst hnl2
            have hsu := HSTT.out.below hbu
            obtain ⟨_, hgu, hiu⟩ := world_parts hsu.wor.now
            have HSU := Lib.hid hsu
            have HLE2 := Lib.hid hle2
            have HGU := Lib.hid hgu
            have HIU := Lib.hid hiu
            have CB1 := Lib.hid (cell_of_row _ _ 1 _ _ _ hsu.box)
            have CB2 := Lib.hid (cell_of_row _ _ 2 _ _ _ hsu.box)
            have HG256 := Lib.hid (show Z.gens.length ≤ 256 by have := HSWT.out.gl; have := H39.out; omega)
            clear hsu hle2 hgu hiu hbu HSTT
            go_wp2_with fail
            refine wp_region_facts_t rfl 14 (by kernel_rfl) (F_sw29 b3 s nz cl2 mg zgc zac al2 zg za Z.gens) (F_sw29_mono b3 s nz cl2 mg zgc zac al2 zg za Z.gens) ?_ ?_
            · refine ⟨?_, ?_, ?_, ?_, ?_, ?_, ?_, ?_, ?_, ?_, ?_, ?_, ?_, ?_, trivial⟩
              · intro vs w' F hb hd hF hl hT
                have e := (hF 7).trans (look_out _ 7 _ _ (by kernel_rfl))
                exact one_move _ rfl (by first | exact Or.inl rfl | exact Or.inr rfl) ⟨_, rfl, Below.refl _ _, e⟩
              · intro vs w' F hb hd hF hl hT
                have e1 := (((hF 132).trans (look_at _ 132 0 _ _ (by kernel_rfl) (by kernel_rfl) hl)).trans (dep_of (Fact := F_sw29 b3 s nz cl2 mg zgc zac al2 zg za Z.gens) hd 0 (by kernel_rfl)))
                refine one_call _ _ rfl rfl (enters_of Try.func16 (by kernel_rfl) rfl) #[.pointer (some ⟨s, 0, none⟩)] (eval1 e1) ?_
                refine (sl_Gens (HSU.out.sl.below hb) HG256.out).mono ?_
                rintro e3 w3 ⟨a3, c3, rfl, h3, hb3⟩
                exact ⟨_, rfl, _, rfl, hb3, a3, c3, by rw [HMG.out], h3⟩
              · intro vs w' F hb hd hF hl hT
                have e := (hF 3).trans (look_out _ 3 _ _ (by kernel_rfl))
                exact one_field _ _ _ rfl rfl _ _ e (1) (fun w => by kernel_rfl) ⟨_, rfl, Below.refl _ _, rfl⟩
              · intro vs w' F hb hd hF hl hT
                have e := ((hF 134).trans (look_at _ 134 2 _ _ (by kernel_rfl) (by kernel_rfl) hl)).trans (dep_of (Fact := F_sw29 b3 s nz cl2 mg zgc zac al2 zg za Z.gens) hd 2 (by kernel_rfl))
                exact one_load _ _ rfl rfl _ _ e (cell_abides CB1.out hb) (by kernel_rfl) ⟨_, rfl, Below.refl _ _, rfl⟩
              · intro vs w' F hb hd hF hl hT
                obtain ⟨a1, c1, e1, h1⟩ := (dep_of (Fact := F_sw29 b3 s nz cl2 mg zgc zac al2 zg za Z.gens) hd 1 (by kernel_rfl))
                have e2 := (((hF 135).trans (look_at _ 135 3 _ _ (by kernel_rfl) (by kernel_rfl) hl)).trans (dep_of (Fact := F_sw29 b3 s nz cl2 mg zgc zac al2 zg za Z.gens) hd 3 (by kernel_rfl)))
                have g1 := ((hF 133).trans (look_at _ 133 1 _ _ (by kernel_rfl) (by kernel_rfl) hl)).trans e1
                rw [HMG.out] at g1 e2
                refine one_call _ _ rfl rfl (enters_of Try.func15 (by kernel_rfl) rfl) #[.slice a1 Z.gens.length c1, .slice zg Z.gens.length zgc] (eval2 g1 e2) ?_
                refine (eq_ints a1 zg c1 zgc Z.gens Z.gens (by have := HG256.out; omega) (by have := HG256.out; omega) w' h1 (HGU.out.below hb)).mono ?_
                rintro e3 w3 ⟨rfl, hb3⟩
                exact ⟨_, rfl, _, rfl, hb3, by rw [show decide (Z.gens = Z.gens) = true from decide_eq_true rfl]; rfl⟩
              · intro vs w' F hb hd hF hl hT
                have e := ((hF 136).trans (look_at _ 136 4 _ _ (by kernel_rfl) (by kernel_rfl) hl)).trans (dep_of (Fact := F_sw29 b3 s nz cl2 mg zgc zac al2 zg za Z.gens) hd 4 (by kernel_rfl))
                exact one_not _ _ rfl rfl _ false e rfl ⟨_, rfl, Below.refl _ _, rfl⟩
              · intro vs w' F hb hd hF hl hT
                have e := ((hF 137).trans (look_at _ 137 5 _ _ (by kernel_rfl) (by kernel_rfl) hl)).trans (dep_of (Fact := F_sw29 b3 s nz cl2 mg zgc zac al2 zg za Z.gens) hd 5 (by kernel_rfl))
                exact one_move _ rfl (by first | exact Or.inl rfl | exact Or.inr rfl) ⟨_, rfl, Below.refl _ _, e⟩
              · intro vs w' F hb hd hF hl hT
                have eg := ((hF 138).trans (look_at _ 138 6 _ _ (by kernel_rfl) (by kernel_rfl) hl)).trans (dep_of (Fact := F_sw29 b3 s nz cl2 mg zgc zac al2 zg za Z.gens) hd 6 (by kernel_rfl))
                refine wpList_on rfl (t := 138) (by kernel_rfl) eg ?_
                have e := (hF 11).trans (look_out _ 11 _ _ (by kernel_rfl))
                exact one_move _ rfl (by first | exact Or.inl rfl | exact Or.inr rfl) ⟨_, rfl, Below.refl _ _, e⟩
              · intro vs w' F hb hd hF hl hT
                have eg := ((hF 138).trans (look_at _ 138 6 _ _ (by kernel_rfl) (by kernel_rfl) hl)).trans (dep_of (Fact := F_sw29 b3 s nz cl2 mg zgc zac al2 zg za Z.gens) hd 6 (by kernel_rfl))
                refine wpList_on rfl (t := 138) (by kernel_rfl) eg ?_
                have e := ((hF 139).trans (look_at _ 139 7 _ _ (by kernel_rfl) (by kernel_rfl) hl)).trans (dep_of (Fact := F_sw29 b3 s nz cl2 mg zgc zac al2 zg za Z.gens) hd 7 (by kernel_rfl))
                exact rg_len _ 38 30 rfl rfl Try.underlying38 al2 (nz) (cl2) e ⟨_, rfl, Below.refl _ _, rfl⟩
              · intro vs w' F hb hd hF hl hT
                have eg := ((hF 138).trans (look_at _ 138 6 _ _ (by kernel_rfl) (by kernel_rfl) hl)).trans (dep_of (Fact := F_sw29 b3 s nz cl2 mg zgc zac al2 zg za Z.gens) hd 6 (by kernel_rfl))
                refine wpList_on rfl (t := 138) (by kernel_rfl) eg ?_
                have e := (hF 3).trans (look_out _ 3 _ _ (by kernel_rfl))
                exact one_field _ _ _ rfl rfl _ _ e (2) (fun w => by kernel_rfl) ⟨_, rfl, Below.refl _ _, rfl⟩
              · intro vs w' F hb hd hF hl hT
                have eg := ((hF 138).trans (look_at _ 138 6 _ _ (by kernel_rfl) (by kernel_rfl) hl)).trans (dep_of (Fact := F_sw29 b3 s nz cl2 mg zgc zac al2 zg za Z.gens) hd 6 (by kernel_rfl))
                refine wpList_on rfl (t := 138) (by kernel_rfl) eg ?_
                have e := ((hF 141).trans (look_at _ 141 9 _ _ (by kernel_rfl) (by kernel_rfl) hl)).trans (dep_of (Fact := F_sw29 b3 s nz cl2 mg zgc zac al2 zg za Z.gens) hd 9 (by kernel_rfl))
                exact one_load _ _ rfl rfl _ _ e (cell_abides CB2.out hb) (by kernel_rfl) ⟨_, rfl, Below.refl _ _, rfl⟩
              · intro vs w' F hb hd hF hl hT
                have eg := ((hF 138).trans (look_at _ 138 6 _ _ (by kernel_rfl) (by kernel_rfl) hl)).trans (dep_of (Fact := F_sw29 b3 s nz cl2 mg zgc zac al2 zg za Z.gens) hd 6 (by kernel_rfl))
                refine wpList_on rfl (t := 138) (by kernel_rfl) eg ?_
                have e := ((hF 142).trans (look_at _ 142 10 _ _ (by kernel_rfl) (by kernel_rfl) hl)).trans (dep_of (Fact := F_sw29 b3 s nz cl2 mg zgc zac al2 zg za Z.gens) hd 10 (by kernel_rfl))
                exact rg_len _ 25 33 rfl rfl Try.underlying25 za (nz) (zac) e ⟨_, rfl, Below.refl _ _, rfl⟩
              · intro vs w' F hb hd hF hl hT
                have eg := ((hF 138).trans (look_at _ 138 6 _ _ (by kernel_rfl) (by kernel_rfl) hl)).trans (dep_of (Fact := F_sw29 b3 s nz cl2 mg zgc zac al2 zg za Z.gens) hd 6 (by kernel_rfl))
                refine wpList_on rfl (t := 138) (by kernel_rfl) eg ?_
                have e1 := ((hF 140).trans (look_at _ 140 8 _ _ (by kernel_rfl) (by kernel_rfl) hl)).trans (dep_of (Fact := F_sw29 b3 s nz cl2 mg zgc zac al2 zg za Z.gens) hd 8 (by kernel_rfl))
                have e2 := ((hF 143).trans (look_at _ 143 11 _ _ (by kernel_rfl) (by kernel_rfl) hl)).trans (dep_of (Fact := F_sw29 b3 s nz cl2 mg zgc zac al2 zg za Z.gens) hd 11 (by kernel_rfl))
                exact rg_neq _ _ _ _ rfl rfl .i64 ((nz : Int)) ((nz : Int)) false e1 e2 (decide_eq_false (by omega)) ⟨_, rfl, Below.refl _ _, rfl⟩
              · intro vs w' F hb hd hF hl hT
                have ec := ((hF 138).trans (look_at _ 138 6 _ _ (by kernel_rfl) (by kernel_rfl) hl)).trans (dep_of (Fact := F_sw29 b3 s nz cl2 mg zgc zac al2 zg za Z.gens) hd 6 (by kernel_rfl))
                have e := ((hF 144).trans (look_at _ 144 12 _ _ (by kernel_rfl) (by kernel_rfl) hl)).trans (dep_of (Fact := F_sw29 b3 s nz cl2 mg zgc zac al2 zg za Z.gens) hd 12 (by kernel_rfl))
                exact one_pick_f _ _ _ rfl rfl _ ec e ⟨_, rfl, Below.refl _ _, rfl⟩
            · intro vs8 W8 hl hb hI
              have i14 : vs8.getD 13 undef = .bool false := hI 13 (by omega)
              obtain ⟨x0, x1, x2, x3, x4, x5, x6, x7, x8, x9, x10, x11, x12, x13, hvs⟩ := list14 hl
              subst hvs
              replace i14 : x13 = .bool false := i14
              subst i14
              have HSV := Lib.hid (HSU.out.below hb)
              have HIV := Lib.hid (HIU.out.below ItemAt.abides hb)
              have HLV := Lib.hid (HLE2.out.below hb)
              have cb2 := cell_abides CB2.out hb
              clear hI hl hb HSU HLE2 HGU HIU CB1 CB2
              simp only [fillAll, Act.put, List.setIfInBounds_toArray, List.set_cons_succ, List.set_cons_zero]
              show wpList _ _ _ [] _ _
              go_wp2_with fail
              go_loopg [149, 20, 21] nz (fun gk v149 _ _ wx => ∃ j : Nat, j ≤ nz ∧ gk = nz - j ∧ v149 = .int .i64 j ∧ Below W8.heap.size W8 wx)
              case atStart => exact ⟨0, Nat.zero_le _, rfl, rfl, Below.refl _ _⟩
              case round =>
                obtain ⟨j, hjn, g3, rfl, hbx⟩ := hrel
                have G3 := Lib.hid g3
                have HBX := Lib.hid hbx
                clear g3 hbx cb2
                by_cases hjl : j < nz
                · have hjz : j < Z.items.length := by rw [← HNZ.out]; exact hjl
                  obtain ⟨x, rfl, _, _⟩ := HIV.out (by omega)
                  obtain ⟨ib, io, rfl, av, cv, hcl, _⟩ := item_cells (HIV.out.below ItemAt.abides HBX.out) j hjz
                  obtain ⟨eb, eo, rfl, hc0, hc1⟩ := ents_cell2 (HLV.out.below HBX.out) j (by rw [entsW_len]; exact hjz)
                  rw [entsW_get Z j hjz] at hc0 hc1
                  obtain ⟨it, hitd⟩ : ∃ it, it = Z.items[j] := ⟨_, rfl⟩
                  rw [← hitd] at hcl hc0 hc1
                  obtain ⟨kn, hkn⟩ : ∃ kn, kn = it.n := ⟨_, rfl⟩
                  obtain ⟨kg, hkg⟩ : ∃ kg, kg = it.gen := ⟨_, rfl⟩
                  obtain ⟨nv, hnv⟩ : ∃ nv, nv = it.comps.length := ⟨_, rfl⟩
                  rw [← hkn, ← hkg, ← hnv] at hcl
                  simp only at hc0 hc1
                  rw [← hkn] at hc0
                  rw [← hkg] at hc1
                  have e0 := hcl.at 0 (by simp)
                  have e1 := hcl.at 1 (by simp)
                  have e2 := hcl.at 2 (by simp)
                  simp only [List.getElem_cons_zero, List.getElem_cons_succ, Nat.add_zero] at e0 e1 e2
                  have hba := (Below.refl wr.heap.size wr).alloc (Nat.le_refl _) (.cells #[.int .i64 kn, .int .i64 kg, .slice av nv cv] 33 (0, 0))
                  have hE0 : CellsK (wr.alloc (.cells #[.int .i64 kn, .int .i64 kg, .slice av nv cv] 33 (0, 0))) eb (eo + j * 2) [.int .i64 kn, .int .i64 kg] := fun q u hu => by
                    match q with
                    | 0 => cases hu; exact cell_abides hc0 hba
                    | 1 => cases hu; exact cell_abides hc1 hba
                    | q + 2 => simp at hu
                  have hro := new_row wr #[.int .i64 kn, .int .i64 kg, .slice av nv cv] 33
                  have hE1 : CellsK (wr.alloc (.cells #[.int .i64 kn, .int .i64 kg, .slice av nv cv] 33 (0, 0))) wr.heap.size 0 [.int .i64 kn, .int .i64 kg] := fun q u hu => by
                    match q with
                    | 0 => cases hu; exact hro.at 0 (by simp)
                    | 1 => cases hu; exact hro.at 1 (by simp)
                    | q + 2 => simp at hu
                  have QE0 := Lib.hid hE0
                  have QE1 := Lib.hid hE1
                  have HBA := Lib.hid hba
                  clear hcl hitd hkn hkg hnv hro hE0 hE1 hba hc0 hc1
                  go_wp2_with fail
                  refine wp_region_facts_t rfl 7 (by kernel_rfl) (F_sw34 wr.heap.size eb eo nz cl2 j kn kg) (F_sw34_mono wr.heap.size eb eo nz cl2 j kn kg) ?_ ?_
                  · refine ⟨?_, ?_, ?_, ?_, ?_, ?_, ?_, trivial⟩
                    · intro vs w' F hb hd hF hl hT
                      have e := (hF 11).trans (look_out _ 11 _ _ (by kernel_rfl))
                      exact one_move _ rfl (by first | exact Or.inl rfl | exact Or.inr rfl) ⟨_, rfl, Below.refl _ _, e⟩
                    · intro vs w' F hb hd hF hl hT
                      have e := (hF 20).trans (look_out _ 20 _ _ (by kernel_rfl))
                      exact one_move _ rfl (by first | exact Or.inl rfl | exact Or.inr rfl) ⟨_, rfl, Below.refl _ _, e⟩
                    · intro vs w' F hb hd hF hl hT
                      have ex := ((hF 154).trans (look_at _ 154 0 _ _ (by kernel_rfl) (by kernel_rfl) hl)).trans (dep_of (Fact := F_sw34 wr.heap.size eb eo nz cl2 j kn kg) hd 0 (by kernel_rfl))
                      have ey := ((hF 155).trans (look_at _ 155 1 _ _ (by kernel_rfl) (by kernel_rfl) hl)).trans (dep_of (Fact := F_sw34 wr.heap.size eb eo nz cl2 j kn kg) hd 1 (by kernel_rfl))
                      exact one_index 38 _ _ rfl rfl (.slice (some ⟨eb, eo, none⟩) nz cl2) (.int .i64 (j : Int)) (.pointer (some ⟨eb, eo + j * 2, none⟩)) ex ey (fun w => rg_idx Try.underlying38 (show (Try.prog.info? 30).map (·.size) = some 2 by kernel_rfl) (eb) (eo) (nz) (cl2) (j) (by omega) w) ⟨_, rfl, Below.refl _ _, rfl⟩
                    · intro vs w' F hb hd hF hl hT
                      have e := ((hF 156).trans (look_at _ 156 2 _ _ (by kernel_rfl) (by kernel_rfl) hl)).trans (dep_of (Fact := F_sw34 wr.heap.size eb eo nz cl2 j kn kg) hd 2 (by kernel_rfl))
                      exact rg_load 30 _ rfl rfl (eb) (eo + j * 2) [.int .i64 kn, .int .i64 kg] e (QE0.out.below hb) _ Try.underlying30 rfl (by kernel_rfl) ⟨_, rfl, Below.refl _ _, rfl⟩
                    · intro vs w' F hb hd hF hl hT
                      have e := (hF 21).trans (look_out _ 21 _ _ (by kernel_rfl))
                      exact one_field _ _ _ rfl rfl _ _ e (0) (fun w => by kernel_rfl) ⟨_, rfl, Below.refl _ _, rfl⟩
                    · intro vs w' F hb hd hF hl hT
                      have e := ((hF 158).trans (look_at _ 158 4 _ _ (by kernel_rfl) (by kernel_rfl) hl)).trans (dep_of (Fact := F_sw34 wr.heap.size eb eo nz cl2 j kn kg) hd 4 (by kernel_rfl))
                      exact rg_load 30 _ rfl rfl (wr.heap.size) (0) [.int .i64 kn, .int .i64 kg] e (QE1.out.below hb) _ Try.underlying30 rfl (by kernel_rfl) ⟨_, rfl, Below.refl _ _, rfl⟩
                    · intro vs w' F hb hd hF hl hT
                      have e1 := (((hF 157).trans (look_at _ 157 3 _ _ (by kernel_rfl) (by kernel_rfl) hl)).trans (dep_of (Fact := F_sw34 wr.heap.size eb eo nz cl2 j kn kg) hd 3 (by kernel_rfl)))
                      have e2 := (((hF 159).trans (look_at _ 159 5 _ _ (by kernel_rfl) (by kernel_rfl) hl)).trans (dep_of (Fact := F_sw34 wr.heap.size eb eo nz cl2 j kn kg) hd 5 (by kernel_rfl)))
                      exact rg_binrun .neq 30 _ _ _ rfl rfl (.agg #[.int .i64 kn, .int .i64 kg]) (.agg #[.int .i64 kn, .int .i64 kg]) (.bool false) e1 e2 (ent_guard _ _ _ _ _ _) (by have h := ent_neq kn kg kn kg w'; simp only [decide_true, Bool.and_self, Bool.not_true] at h; exact h) ⟨_, rfl, Below.refl _ _, rfl⟩
                  · intro vs8 W8 hl hb hI
                    have i6 : vs8.getD 6 undef = .bool false := hI 6 (by omega)
                    obtain ⟨x0, x1, x2, x3, x4, x5, x6, hvs⟩ := list7w hl
                    subst hvs
                    replace i6 : x6 = .bool false := i6
                    subst i6
                    have HBN := Lib.hid (bt HBX.out (HBA.out.trans (hb.mono HBA.out.size)))
                    clear hI hl hb QE0 QE1 HBA e0 e1 e2
                    simp only [fillAll, Act.put, List.setIfInBounds_toArray, List.set_cons_succ, List.set_cons_zero]
                    show wpList _ _ _ [] _ _
                    go_wp2_with fail
                    go_roundg (nz - (j + 1))
                    case measure => rw [G3.out]; omega
                    case rel =>
                      have hw1 : wrap64 ((j : Int) + 1) = (j : Int) + 1 := by unfold wrap64; have := HNZB.out; omega
                      exact ⟨j + 1, hjl, rfl, congrArg (Value.int .i64) (by first | exact hw1 | (push_cast; exact hw1) | rfl | (push_cast; rfl)), HBN.out⟩
                · obtain rfl : nz = j := by omega
                  have HFIN := Lib.hid (HSV.out.below HBX.out)
                  clear HSV HIV HLV HBX G3
                  go_wp2_with fail
                  go_roundg (m - (i + 1))
                  case measure => rw [G2.out]; omega
                  case rel =>
                    have hw1 : wrap64 ((i : Int) + 1) = (i : Int) + 1 := by unfold wrap64; have := H39.out; omega
                    exact ⟨i + 1, Z, _, _, _, tg, tu, tf, TU, TF, hlt, rfl, congrArg (Value.int .i64) (by first | exact hw1 | (push_cast; exact hw1) | rfl | (push_cast; rfl)), HSWT.out, HFIN.out⟩
          all_goals
            have hne : freeN y ≠ 256 := by have h1 := (free_least HSW.out (by have := H39.out; omega)).le; have h2 := HSW.out.gl; have := H39.out; omega
            obtain ⟨FN, hFN⟩ : ∃ N, N = freeN y := ⟨_, rfl⟩
            have CT := Lib.hid (sl_Take HSL.out.sl HSL.out.si (freeN y) (free_least HSW.out (by have := H39.out; omega)))
            have HNF := Lib.hid hne
            have HFN := Lib.hid hFN
            clear hne hFN
            refine CT.out.mono ?_
            intro e wt hpost
            unfold TakePost at hpost
            simp only [if_neg HNF.out] at hpost
            obtain ⟨rfl, tg, tu, tf, TU, TF, hs1, hs2, hs3, hs4⟩ := hpost
            rw [← HFN.out] at hs1 hs2 ⊢
            obtain ⟨gF, hgF⟩ : ∃ g, g = y.gens.getD FN 0 := ⟨_, rfl⟩
            rw [← hgF]
            have hst := HSL.out.slots hs1 hs2 hs3 hs4
            have hba := (Below.refl wt.heap.size wt).alloc (Nat.le_refl _) (.cells #[.int .i64 (FN : Int), .int .i64 gF] 30 (0, 0))
            have hr12 := heap_alloc_new wt (.cells #[.int .i64 (FN : Int), .int .i64 gF] 30 (0, 0))
            obtain ⟨wt2, hwt2⟩ : ∃ w, w = wt.alloc (.cells #[.int .i64 (FN : Int), .int .i64 gF] 30 (0, 0)) := ⟨_, rfl⟩
            obtain ⟨b12, hb12⟩ : ∃ b, b = wt.heap.size := ⟨_, rfl⟩
            rw [← hwt2] at hba hr12
            rw [← hb12] at hr12
            have hst2 := hst.below hba
            have hsm := HSW.out.small (by have := H39.out; omega)
            have hkf : ∀ k ∈ y.kinds, k.fields.length ≤ 1048576 := fun k hk => ((HSW.out.fine (by have := H39.out; omega)).k k hk).2.1
            have cs := world_SpawnO y [] (.agg #[.slice ak nk ck, .slice ag ng cg, .slice ai ni ci]) none 0 0 wt2 hst2.wor.now hsm hkf rfl (by omega) (Nat.le_refl _) (fun z hz => absurd hz (by simp)) (fun h => absurd h (by simp))
            rw [spawnE_nil HSW.out H39.out] at cs
            have CS := Lib.hid cs
            have HST2 := Lib.hid hst2
            have HWT2 := Lib.hid (And.intro hwt2 hb12)
            have HR12 := Lib.hid hr12
            have HGF := Lib.hid hgF
            have x0 := cell_of_row _ _ 0 _ _ _ hst2.box
            have x1 := cell_of_row _ _ 1 _ _ _ hst2.box
            have x2 := cell_of_row _ _ 2 _ _ _ hst2.box
            clear hgF hs1 hs2 hs3 hs4 hst hba hr12 hwt2 hb12 hst2 hsm hkf cs HSL HLE CT
            go_wp2_with (rw [← HWT2.out.1, ← HWT2.out.2])
            try rw [← HWT2.out.1, ← HWT2.out.2]
            refine CS.out.mono ?_
            rintro e ws ⟨⟨v, xn, xg, Z, rfl, hup, _, hgood⟩, hbs⟩
            obtain ⟨hxn, hxg, hz⟩ := hgood rfl
            obtain ⟨sw1, sw2, sw3, _, sw5, sw6, _⟩ := spawn_sw HSW.out H39.out hz
            rw [sw5, ← HFN.out] at hxn
            rw [sw6, ← HFN.out, ← HGF.out] at hxg
            subst hxn hxg
            obtain ⟨zk, zkc, zg, zgc, za, zac, rfl, _⟩ := hup.now
            obtain ⟨Zk, hZk⟩ : ∃ x, x = Z.kinds.length := ⟨_, rfl⟩
            obtain ⟨mg, hmg⟩ : ∃ x, x = Z.gens.length := ⟨_, rfl⟩
            obtain ⟨nz, hnz⟩ : ∃ x, x = Z.items.length := ⟨_, rfl⟩
            rw [← hZk, ← hmg, ← hnz] at hup ⊢
            have hsts := HST2.out.below hbs
            have hnew := HST2.out.new hup
            have hr12 := heap_below HR12.out hbs
            have hl12 : b12 < ws.heap.size := lt_of_heap hr12
            have hl3 : b3 < ws.heap.size := lt_of_heap hsts.box
            obtain ⟨o1, ho1⟩ : ∃ o : Obj, o = .cells #[.slice none 0 0, .slice none 0 0, .slice none 0 0] 27 (0, 0) := ⟨_, rfl⟩
            obtain ⟨o2, ho2⟩ : ∃ o : Obj, o = .cells #[.int .i64 0, .int .i64 0] 30 (0, 0) := ⟨_, rfl⟩
            have hr := fun i o => allocs_get [o1, o2] ws i o
            have hbA := allocs_below [o1, o2] ws
            have r14 : (allocs ws [o1, o2]).heap[ws.heap.size]? = some o1 := hr 0 o1 rfl
            have r15 : (allocs ws [o1, o2]).heap[ws.heap.size + 1]? = some o2 := hr 1 o2 rfl
            simp only [allocs] at r14 r15 hbA
            rw [ho1, ho2] at r14 r15 hbA
            have HBA := Lib.hid hbA
            have R14 := Lib.hid r14
            have R15 := Lib.hid r15
            have R12 := Lib.hid (heap_below hr12 hbA)
            have HSTS := Lib.hid hsts
            have HNEW := Lib.hid hnew
            have HSWT := Lib.hid sw1
            have HG2 := Lib.hid sw2
            have HB2 := Lib.hid sw3
            have HNZ := Lib.hid hnz
            have HMG := Lib.hid hmg
            have HNZB := Lib.hid (show nz ≤ 1000 by rw [hnz]; have := sw1.il; have := sw1.gl; have := H39.out; omega)
            have qn := ent_neq (FN : Int) xg (FN : Int) xg
            have qg := ent_guard .neq
            simp only [decide_true, Bool.and_self, Bool.not_true] at qn
            clear hz sw1 sw2 sw3 sw5 sw6 hZk hmg hnz hup hsts hnew hr12 hr hbA r14 r15 ho1 ho2 o1 o2 hgood hbs x0 x1 x2 HST2 HWT2 HR12 CS HNF
            go_wp2_with (first
              | (refine wpList_store_rowP rfl 27 (.tmp 14) (.tmp 81) rfl ws.heap.size #[.slice zk Zk zkc, .slice zg mg zgc, .slice za nz zac] rfl rfl _ _ R14.out (by kernel_rfl) rfl (ones3 _ _ _ rfl rfl rfl) ?_; intro W9 hput; have HP14 := Lib.hid hput; have R15b := Lib.hid ((hput.else_ _ (by omega)).trans R15.out); clear hput)
              | (refine wpList_store_rowP rfl 30 (.tmp 15) (.tmp 82) rfl (ws.heap.size + 1) #[.int .i64 (FN : Int), .int .i64 xg] rfl rfl _ _ R15b.out (by kernel_rfl) rfl (ones2 _ _ rfl rfl) ?_; intro W10 hput; have HP15 := Lib.hid hput; have HB10 := Lib.hid (HBA.out.trans ((HP14.out.below (Nat.le_refl _)).trans (hput.below (Nat.le_succ _)))); have r12 := (hput.else_ b12 (by omega)).trans ((HP14.out.else_ b12 (by omega)).trans R12.out); have r14 := (hput.else_ ws.heap.size (by omega)).trans HP14.out.here; have ya0 := cell_of_row _ _ 0 _ _ _ r12; have ya1 := cell_of_row _ _ 1 _ _ _ r12; have yb0 := cell_of_row _ _ 0 _ _ _ hput.here; have yb1 := cell_of_row _ _ 1 _ _ _ hput.here; have yc0 := cell_of_row _ _ 0 _ _ _ r14; have yc1 := cell_of_row _ _ 1 _ _ _ r14; have yc2 := cell_of_row _ _ 2 _ _ _ r14; have HS10 := Lib.hid (HSTS.out.below HB10.out); clear hput r12 r14)
              | (refine wpList_store_rowP rfl 27 (.tmp 3) (.tmp 95) rfl b3 #[.slice zk Zk zkc, .slice zg mg zgc, .slice za nz zac] rfl rfl _ _ HS10.out.box (by kernel_rfl) rfl (ones3 _ _ _ rfl rfl rfl) ?_; intro W11 hput; have HS11 := Lib.hid (HS10.out.store (HNEW.out.below HB10.out) hput); clear hput))
            have hst11 := HS11.out
            rw [HFN.out, ← HG2.out, ← HB2.out] at hst11
            have HSTT := Lib.hid hst11
            clear hst11 HS11 HG2 HB2 HFN
            refine (sl_List HSTT.out.sl HSTT.out.si).mono ?_
            rintro e wu ⟨al2, nl2, cl2, hnl2, rfl, hle2, hbu⟩
            rw [show entK Z.gens (Bw Z) (Bw Z).length = entsW Z from ents_eq HSWT.out] at hnl2 hle2
            rw [entsW_len, ← HNZ.out] at hnl2
            subst hnl2
            have hsu := HSTT.out.below hbu
            obtain ⟨_, hgu, hiu⟩ := world_parts hsu.wor.now
            have HSU := Lib.hid hsu
            have HLE2 := Lib.hid hle2
            have HGU := Lib.hid hgu
            have HIU := Lib.hid hiu
            have CB1 := Lib.hid (cell_of_row _ _ 1 _ _ _ hsu.box)
            have CB2 := Lib.hid (cell_of_row _ _ 2 _ _ _ hsu.box)
            have HG256 := Lib.hid (show Z.gens.length ≤ 256 by have := HSWT.out.gl; have := H39.out; omega)
            clear hsu hle2 hgu hiu hbu HSTT
            go_wp2_with fail
            refine wp_region_facts_t rfl 14 (by kernel_rfl) (F_sw29 b3 s nz cl2 mg zgc zac al2 zg za Z.gens) (F_sw29_mono b3 s nz cl2 mg zgc zac al2 zg za Z.gens) ?_ ?_
            · refine ⟨?_, ?_, ?_, ?_, ?_, ?_, ?_, ?_, ?_, ?_, ?_, ?_, ?_, ?_, trivial⟩
              · intro vs w' F hb hd hF hl hT
                have e := (hF 7).trans (look_out _ 7 _ _ (by kernel_rfl))
                exact one_move _ rfl (by first | exact Or.inl rfl | exact Or.inr rfl) ⟨_, rfl, Below.refl _ _, e⟩
              · intro vs w' F hb hd hF hl hT
                have e1 := (((hF 132).trans (look_at _ 132 0 _ _ (by kernel_rfl) (by kernel_rfl) hl)).trans (dep_of (Fact := F_sw29 b3 s nz cl2 mg zgc zac al2 zg za Z.gens) hd 0 (by kernel_rfl)))
                refine one_call _ _ rfl rfl (enters_of Try.func16 (by kernel_rfl) rfl) #[.pointer (some ⟨s, 0, none⟩)] (eval1 e1) ?_
                refine (sl_Gens (HSU.out.sl.below hb) HG256.out).mono ?_
                rintro e3 w3 ⟨a3, c3, rfl, h3, hb3⟩
                exact ⟨_, rfl, _, rfl, hb3, a3, c3, by rw [HMG.out], h3⟩
              · intro vs w' F hb hd hF hl hT
                have e := (hF 3).trans (look_out _ 3 _ _ (by kernel_rfl))
                exact one_field _ _ _ rfl rfl _ _ e (1) (fun w => by kernel_rfl) ⟨_, rfl, Below.refl _ _, rfl⟩
              · intro vs w' F hb hd hF hl hT
                have e := ((hF 134).trans (look_at _ 134 2 _ _ (by kernel_rfl) (by kernel_rfl) hl)).trans (dep_of (Fact := F_sw29 b3 s nz cl2 mg zgc zac al2 zg za Z.gens) hd 2 (by kernel_rfl))
                exact one_load _ _ rfl rfl _ _ e (cell_abides CB1.out hb) (by kernel_rfl) ⟨_, rfl, Below.refl _ _, rfl⟩
              · intro vs w' F hb hd hF hl hT
                obtain ⟨a1, c1, e1, h1⟩ := (dep_of (Fact := F_sw29 b3 s nz cl2 mg zgc zac al2 zg za Z.gens) hd 1 (by kernel_rfl))
                have e2 := (((hF 135).trans (look_at _ 135 3 _ _ (by kernel_rfl) (by kernel_rfl) hl)).trans (dep_of (Fact := F_sw29 b3 s nz cl2 mg zgc zac al2 zg za Z.gens) hd 3 (by kernel_rfl)))
                have g1 := ((hF 133).trans (look_at _ 133 1 _ _ (by kernel_rfl) (by kernel_rfl) hl)).trans e1
                rw [HMG.out] at g1 e2
                refine one_call _ _ rfl rfl (enters_of Try.func15 (by kernel_rfl) rfl) #[.slice a1 Z.gens.length c1, .slice zg Z.gens.length zgc] (eval2 g1 e2) ?_
                refine (eq_ints a1 zg c1 zgc Z.gens Z.gens (by have := HG256.out; omega) (by have := HG256.out; omega) w' h1 (HGU.out.below hb)).mono ?_
                rintro e3 w3 ⟨rfl, hb3⟩
                exact ⟨_, rfl, _, rfl, hb3, by rw [show decide (Z.gens = Z.gens) = true from decide_eq_true rfl]; rfl⟩
              · intro vs w' F hb hd hF hl hT
                have e := ((hF 136).trans (look_at _ 136 4 _ _ (by kernel_rfl) (by kernel_rfl) hl)).trans (dep_of (Fact := F_sw29 b3 s nz cl2 mg zgc zac al2 zg za Z.gens) hd 4 (by kernel_rfl))
                exact one_not _ _ rfl rfl _ false e rfl ⟨_, rfl, Below.refl _ _, rfl⟩
              · intro vs w' F hb hd hF hl hT
                have e := ((hF 137).trans (look_at _ 137 5 _ _ (by kernel_rfl) (by kernel_rfl) hl)).trans (dep_of (Fact := F_sw29 b3 s nz cl2 mg zgc zac al2 zg za Z.gens) hd 5 (by kernel_rfl))
                exact one_move _ rfl (by first | exact Or.inl rfl | exact Or.inr rfl) ⟨_, rfl, Below.refl _ _, e⟩
              · intro vs w' F hb hd hF hl hT
                have eg := ((hF 138).trans (look_at _ 138 6 _ _ (by kernel_rfl) (by kernel_rfl) hl)).trans (dep_of (Fact := F_sw29 b3 s nz cl2 mg zgc zac al2 zg za Z.gens) hd 6 (by kernel_rfl))
                refine wpList_on rfl (t := 138) (by kernel_rfl) eg ?_
                have e := (hF 11).trans (look_out _ 11 _ _ (by kernel_rfl))
                exact one_move _ rfl (by first | exact Or.inl rfl | exact Or.inr rfl) ⟨_, rfl, Below.refl _ _, e⟩
              · intro vs w' F hb hd hF hl hT
                have eg := ((hF 138).trans (look_at _ 138 6 _ _ (by kernel_rfl) (by kernel_rfl) hl)).trans (dep_of (Fact := F_sw29 b3 s nz cl2 mg zgc zac al2 zg za Z.gens) hd 6 (by kernel_rfl))
                refine wpList_on rfl (t := 138) (by kernel_rfl) eg ?_
                have e := ((hF 139).trans (look_at _ 139 7 _ _ (by kernel_rfl) (by kernel_rfl) hl)).trans (dep_of (Fact := F_sw29 b3 s nz cl2 mg zgc zac al2 zg za Z.gens) hd 7 (by kernel_rfl))
                exact rg_len _ 38 30 rfl rfl Try.underlying38 al2 (nz) (cl2) e ⟨_, rfl, Below.refl _ _, rfl⟩
              · intro vs w' F hb hd hF hl hT
                have eg := ((hF 138).trans (look_at _ 138 6 _ _ (by kernel_rfl) (by kernel_rfl) hl)).trans (dep_of (Fact := F_sw29 b3 s nz cl2 mg zgc zac al2 zg za Z.gens) hd 6 (by kernel_rfl))
                refine wpList_on rfl (t := 138) (by kernel_rfl) eg ?_
                have e := (hF 3).trans (look_out _ 3 _ _ (by kernel_rfl))
                exact one_field _ _ _ rfl rfl _ _ e (2) (fun w => by kernel_rfl) ⟨_, rfl, Below.refl _ _, rfl⟩
              · intro vs w' F hb hd hF hl hT
                have eg := ((hF 138).trans (look_at _ 138 6 _ _ (by kernel_rfl) (by kernel_rfl) hl)).trans (dep_of (Fact := F_sw29 b3 s nz cl2 mg zgc zac al2 zg za Z.gens) hd 6 (by kernel_rfl))
                refine wpList_on rfl (t := 138) (by kernel_rfl) eg ?_
                have e := ((hF 141).trans (look_at _ 141 9 _ _ (by kernel_rfl) (by kernel_rfl) hl)).trans (dep_of (Fact := F_sw29 b3 s nz cl2 mg zgc zac al2 zg za Z.gens) hd 9 (by kernel_rfl))
                exact one_load _ _ rfl rfl _ _ e (cell_abides CB2.out hb) (by kernel_rfl) ⟨_, rfl, Below.refl _ _, rfl⟩
              · intro vs w' F hb hd hF hl hT
                have eg := ((hF 138).trans (look_at _ 138 6 _ _ (by kernel_rfl) (by kernel_rfl) hl)).trans (dep_of (Fact := F_sw29 b3 s nz cl2 mg zgc zac al2 zg za Z.gens) hd 6 (by kernel_rfl))
                refine wpList_on rfl (t := 138) (by kernel_rfl) eg ?_
                have e := ((hF 142).trans (look_at _ 142 10 _ _ (by kernel_rfl) (by kernel_rfl) hl)).trans (dep_of (Fact := F_sw29 b3 s nz cl2 mg zgc zac al2 zg za Z.gens) hd 10 (by kernel_rfl))
                exact rg_len _ 25 33 rfl rfl Try.underlying25 za (nz) (zac) e ⟨_, rfl, Below.refl _ _, rfl⟩
              · intro vs w' F hb hd hF hl hT
                have eg := ((hF 138).trans (look_at _ 138 6 _ _ (by kernel_rfl) (by kernel_rfl) hl)).trans (dep_of (Fact := F_sw29 b3 s nz cl2 mg zgc zac al2 zg za Z.gens) hd 6 (by kernel_rfl))
                refine wpList_on rfl (t := 138) (by kernel_rfl) eg ?_
                have e1 := ((hF 140).trans (look_at _ 140 8 _ _ (by kernel_rfl) (by kernel_rfl) hl)).trans (dep_of (Fact := F_sw29 b3 s nz cl2 mg zgc zac al2 zg za Z.gens) hd 8 (by kernel_rfl))
                have e2 := ((hF 143).trans (look_at _ 143 11 _ _ (by kernel_rfl) (by kernel_rfl) hl)).trans (dep_of (Fact := F_sw29 b3 s nz cl2 mg zgc zac al2 zg za Z.gens) hd 11 (by kernel_rfl))
                exact rg_neq _ _ _ _ rfl rfl .i64 ((nz : Int)) ((nz : Int)) false e1 e2 (decide_eq_false (by omega)) ⟨_, rfl, Below.refl _ _, rfl⟩
              · intro vs w' F hb hd hF hl hT
                have ec := ((hF 138).trans (look_at _ 138 6 _ _ (by kernel_rfl) (by kernel_rfl) hl)).trans (dep_of (Fact := F_sw29 b3 s nz cl2 mg zgc zac al2 zg za Z.gens) hd 6 (by kernel_rfl))
                have e := ((hF 144).trans (look_at _ 144 12 _ _ (by kernel_rfl) (by kernel_rfl) hl)).trans (dep_of (Fact := F_sw29 b3 s nz cl2 mg zgc zac al2 zg za Z.gens) hd 12 (by kernel_rfl))
                exact one_pick_f _ _ _ rfl rfl _ ec e ⟨_, rfl, Below.refl _ _, rfl⟩
            · intro vs8 W8 hl hb hI
              have i14 : vs8.getD 13 undef = .bool false := hI 13 (by omega)
              obtain ⟨x0, x1, x2, x3, x4, x5, x6, x7, x8, x9, x10, x11, x12, x13, hvs⟩ := list14 hl
              subst hvs
              replace i14 : x13 = .bool false := i14
              subst i14
              have HSV := Lib.hid (HSU.out.below hb)
              have HIV := Lib.hid (HIU.out.below ItemAt.abides hb)
              have HLV := Lib.hid (HLE2.out.below hb)
              have cb2 := cell_abides CB2.out hb
              clear hI hl hb HSU HLE2 HGU HIU CB1 CB2
              simp only [fillAll, Act.put, List.setIfInBounds_toArray, List.set_cons_succ, List.set_cons_zero]
              show wpList _ _ _ [] _ _
              go_wp2_with fail
              go_loopg [149, 20, 21] nz (fun gk v149 _ _ wx => ∃ j : Nat, j ≤ nz ∧ gk = nz - j ∧ v149 = .int .i64 j ∧ Below W8.heap.size W8 wx)
              case atStart => exact ⟨0, Nat.zero_le _, rfl, rfl, Below.refl _ _⟩
              case round =>
                obtain ⟨j, hjn, g3, rfl, hbx⟩ := hrel
                have G3 := Lib.hid g3
                have HBX := Lib.hid hbx
                clear g3 hbx cb2
                by_cases hjl : j < nz
                · have hjz : j < Z.items.length := by rw [← HNZ.out]; exact hjl
                  obtain ⟨x, rfl, _, _⟩ := HIV.out (by omega)
                  obtain ⟨ib, io, rfl, av, cv, hcl, _⟩ := item_cells (HIV.out.below ItemAt.abides HBX.out) j hjz
                  obtain ⟨eb, eo, rfl, hc0, hc1⟩ := ents_cell2 (HLV.out.below HBX.out) j (by rw [entsW_len]; exact hjz)
                  rw [entsW_get Z j hjz] at hc0 hc1
                  obtain ⟨it, hitd⟩ : ∃ it, it = Z.items[j] := ⟨_, rfl⟩
                  rw [← hitd] at hcl hc0 hc1
                  obtain ⟨kn, hkn⟩ : ∃ kn, kn = it.n := ⟨_, rfl⟩
                  obtain ⟨kg, hkg⟩ : ∃ kg, kg = it.gen := ⟨_, rfl⟩
                  obtain ⟨nv, hnv⟩ : ∃ nv, nv = it.comps.length := ⟨_, rfl⟩
                  rw [← hkn, ← hkg, ← hnv] at hcl
                  simp only at hc0 hc1
                  rw [← hkn] at hc0
                  rw [← hkg] at hc1
                  have e0 := hcl.at 0 (by simp)
                  have e1 := hcl.at 1 (by simp)
                  have e2 := hcl.at 2 (by simp)
                  simp only [List.getElem_cons_zero, List.getElem_cons_succ, Nat.add_zero] at e0 e1 e2
                  have hba := (Below.refl wr.heap.size wr).alloc (Nat.le_refl _) (.cells #[.int .i64 kn, .int .i64 kg, .slice av nv cv] 33 (0, 0))
                  have hE0 : CellsK (wr.alloc (.cells #[.int .i64 kn, .int .i64 kg, .slice av nv cv] 33 (0, 0))) eb (eo + j * 2) [.int .i64 kn, .int .i64 kg] := fun q u hu => by
                    match q with
                    | 0 => cases hu; exact cell_abides hc0 hba
                    | 1 => cases hu; exact cell_abides hc1 hba
                    | q + 2 => simp at hu
                  have hro := new_row wr #[.int .i64 kn, .int .i64 kg, .slice av nv cv] 33
                  have hE1 : CellsK (wr.alloc (.cells #[.int .i64 kn, .int .i64 kg, .slice av nv cv] 33 (0, 0))) wr.heap.size 0 [.int .i64 kn, .int .i64 kg] := fun q u hu => by
                    match q with
                    | 0 => cases hu; exact hro.at 0 (by simp)
                    | 1 => cases hu; exact hro.at 1 (by simp)
                    | q + 2 => simp at hu
                  have QE0 := Lib.hid hE0
                  have QE1 := Lib.hid hE1
                  have HBA := Lib.hid hba
                  clear hcl hitd hkn hkg hnv hro hE0 hE1 hba hc0 hc1
                  go_wp2_with fail
                  refine wp_region_facts_t rfl 7 (by kernel_rfl) (F_sw34 wr.heap.size eb eo nz cl2 j kn kg) (F_sw34_mono wr.heap.size eb eo nz cl2 j kn kg) ?_ ?_
                  · refine ⟨?_, ?_, ?_, ?_, ?_, ?_, ?_, trivial⟩
                    · intro vs w' F hb hd hF hl hT
                      have e := (hF 11).trans (look_out _ 11 _ _ (by kernel_rfl))
                      exact one_move _ rfl (by first | exact Or.inl rfl | exact Or.inr rfl) ⟨_, rfl, Below.refl _ _, e⟩
                    · intro vs w' F hb hd hF hl hT
                      have e := (hF 20).trans (look_out _ 20 _ _ (by kernel_rfl))
                      exact one_move _ rfl (by first | exact Or.inl rfl | exact Or.inr rfl) ⟨_, rfl, Below.refl _ _, e⟩
                    · intro vs w' F hb hd hF hl hT
                      have ex := ((hF 154).trans (look_at _ 154 0 _ _ (by kernel_rfl) (by kernel_rfl) hl)).trans (dep_of (Fact := F_sw34 wr.heap.size eb eo nz cl2 j kn kg) hd 0 (by kernel_rfl))
                      have ey := ((hF 155).trans (look_at _ 155 1 _ _ (by kernel_rfl) (by kernel_rfl) hl)).trans (dep_of (Fact := F_sw34 wr.heap.size eb eo nz cl2 j kn kg) hd 1 (by kernel_rfl))
                      exact one_index 38 _ _ rfl rfl (.slice (some ⟨eb, eo, none⟩) nz cl2) (.int .i64 (j : Int)) (.pointer (some ⟨eb, eo + j * 2, none⟩)) ex ey (fun w => rg_idx Try.underlying38 (show (Try.prog.info? 30).map (·.size) = some 2 by kernel_rfl) (eb) (eo) (nz) (cl2) (j) (by omega) w) ⟨_, rfl, Below.refl _ _, rfl⟩
                    · intro vs w' F hb hd hF hl hT
                      have e := ((hF 156).trans (look_at _ 156 2 _ _ (by kernel_rfl) (by kernel_rfl) hl)).trans (dep_of (Fact := F_sw34 wr.heap.size eb eo nz cl2 j kn kg) hd 2 (by kernel_rfl))
                      exact rg_load 30 _ rfl rfl (eb) (eo + j * 2) [.int .i64 kn, .int .i64 kg] e (QE0.out.below hb) _ Try.underlying30 rfl (by kernel_rfl) ⟨_, rfl, Below.refl _ _, rfl⟩
                    · intro vs w' F hb hd hF hl hT
                      have e := (hF 21).trans (look_out _ 21 _ _ (by kernel_rfl))
                      exact one_field _ _ _ rfl rfl _ _ e (0) (fun w => by kernel_rfl) ⟨_, rfl, Below.refl _ _, rfl⟩
                    · intro vs w' F hb hd hF hl hT
                      have e := ((hF 158).trans (look_at _ 158 4 _ _ (by kernel_rfl) (by kernel_rfl) hl)).trans (dep_of (Fact := F_sw34 wr.heap.size eb eo nz cl2 j kn kg) hd 4 (by kernel_rfl))
                      exact rg_load 30 _ rfl rfl (wr.heap.size) (0) [.int .i64 kn, .int .i64 kg] e (QE1.out.below hb) _ Try.underlying30 rfl (by kernel_rfl) ⟨_, rfl, Below.refl _ _, rfl⟩
                    · intro vs w' F hb hd hF hl hT
                      have e1 := (((hF 157).trans (look_at _ 157 3 _ _ (by kernel_rfl) (by kernel_rfl) hl)).trans (dep_of (Fact := F_sw34 wr.heap.size eb eo nz cl2 j kn kg) hd 3 (by kernel_rfl)))
                      have e2 := (((hF 159).trans (look_at _ 159 5 _ _ (by kernel_rfl) (by kernel_rfl) hl)).trans (dep_of (Fact := F_sw34 wr.heap.size eb eo nz cl2 j kn kg) hd 5 (by kernel_rfl)))
                      exact rg_binrun .neq 30 _ _ _ rfl rfl (.agg #[.int .i64 kn, .int .i64 kg]) (.agg #[.int .i64 kn, .int .i64 kg]) (.bool false) e1 e2 (ent_guard _ _ _ _ _ _) (by have h := ent_neq kn kg kn kg w'; simp only [decide_true, Bool.and_self, Bool.not_true] at h; exact h) ⟨_, rfl, Below.refl _ _, rfl⟩
                  · intro vs8 W8 hl hb hI
                    have i6 : vs8.getD 6 undef = .bool false := hI 6 (by omega)
                    obtain ⟨x0, x1, x2, x3, x4, x5, x6, hvs⟩ := list7w hl
                    subst hvs
                    replace i6 : x6 = .bool false := i6
                    subst i6
                    have HBN := Lib.hid (bt HBX.out (HBA.out.trans (hb.mono HBA.out.size)))
                    clear hI hl hb QE0 QE1 HBA e0 e1 e2
                    simp only [fillAll, Act.put, List.setIfInBounds_toArray, List.set_cons_succ, List.set_cons_zero]
                    show wpList _ _ _ [] _ _
                    go_wp2_with fail
                    go_roundg (nz - (j + 1))
                    case measure => rw [G3.out]; omega
                    case rel =>
                      have hw1 : wrap64 ((j : Int) + 1) = (j : Int) + 1 := by unfold wrap64; have := HNZB.out; omega
                      exact ⟨j + 1, hjl, rfl, congrArg (Value.int .i64) (by first | exact hw1 | (push_cast; exact hw1) | rfl | (push_cast; rfl)), HBN.out⟩
                · obtain rfl : nz = j := by omega
                  have HFIN := Lib.hid (HSV.out.below HBX.out)
                  clear HSV HIV HLV HBX G3
                  go_wp2_with fail
                  go_roundg (m - (i + 1))
                  case measure => rw [G2.out]; omega
                  case rel =>
                    have hw1 : wrap64 ((i : Int) + 1) = (i : Int) + 1 := by unfold wrap64; have := H39.out; omega
                    exact ⟨i + 1, Z, _, _, _, tg, tu, tf, TU, TF, hlt, rfl, congrArg (Value.int .i64) (by first | exact hw1 | (push_cast; exact hw1) | rfl | (push_cast; rfl)), HSWT.out, HFIN.out⟩
        · obtain rfl : m = i := by omega
          go_wp2_with fail
          go_ret
          exact ⟨rfl, HST.out.bel⟩
end Go.Proofs.Ytpilpkbblkhnaaa
end
