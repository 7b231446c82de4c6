/- Lemmas for the law TopBorderText: SumInts, WDig, WBound, RegLk, H6. No conditions. -/
import Derived.Test.YtfckbkhnelgjbaaM02
import Derived.Deep.DeepMust
import Derived.OwnWalk
import Derived.Test.YtfckbkhnelgjbaaM22
import Derived.Test.YtfckbkhnelgjbaaM10
import Derived.Test.YtfckbkhnelgjbaaM05
import Derived.Test.YtfckbkhnelgjbaaM13
import Derived.Test.YtfckbkhnelgjbaaM21
import Derived.Test.YtfckbkhnelgjbaaM20
/- sum.Ints. -/
section
namespace Go.Proofs.Ytfckbkhnelgjbaa
open Go.ChangeShapes Go.WideShapes Go.ChangeAt Go.RowKit Go.Mem
set_option linter.unusedVariables false

theorem dig_of_u (l o : List Int) (hl : o.length = l.length) (h : ∀ j, j < l.length → o.getD j 0 = (W64.u (l.getD j 0) : Int)) : dig o = dig l ∧ U64s o := by
  have e : o = l.map fun z => (W64.u z : Int) := by
    apply getD_eq_of_ext (by simpa using hl)
    intro j hj
    rw [h j (by omega)]
    have : j < l.length := by omega
    simp [this]
  subst e
  refine ⟨dig_map l, fun z hz => ?_⟩
  obtain ⟨y, _, rfl⟩ := List.mem_map.1 hz
  have := W64.u_lt y
  omega

set_option maxHeartbeats 4000000 in
theorem sum_Ints (a : Option Addr) (cap : Nat) (l : List Int) (hl : l.length ≤ 17592186044416) (w : World) (hin : Mem.IntsAt .i64 w a l) :
    Calls Try.prog 63 #[.slice a l.length cap] w fun e w' => e = .returned (.int .u64 (dig l : Nat)) ∧ Below w.heap.size w w' := by
  obtain ⟨n, hn⟩ : ∃ n, n = l.length := ⟨_, rfl⟩
  rw [← hn]
  have HN := Lib.hid hn
  have HI := Lib.hid hin
  have h63 : n ≤ 17592186044416 := by omega
  clear hin hn hl
  obtain ⟨i0, hi, hz0, hz1, hz2⟩ := info_parts (show (Try.prog.info? 46).map (fun i => (i.zero, i.size, i.bytes)) = some (some (.int .u64 0), 1, 8) by kernel_rfl)
  go_enter Try.func63, Try.ntmps63
  go_wp2_with (at_make; go_must (refine wpList_make_full _ rfl _ _ 60 rfl w.heap.size 46 i0 (.int .u64 0) 1 Try.underlying60 hi hz0 hz1 _ _ _ _ n rfl rfl rfl rfl ?b1 ?b2 ?b3 ?_))
  case b1 => rw [hz2]; omega
  case b2 => unfold maxLen; omega
  case b3 => omega
  intro w1 hown hgr
  rw [toList_madeCells_one, vints_replicate] at hown
  have hb1 : Below w.heap.size w w1 := (Below.refl _ _).grown hgr (Nat.le_refl _) (fun k hk => by cases hk)
  clear hgr hi hz0 hz1 hz2
  go_wp2
  go_loopg [4, 5, 11] n (fun gk _ _ vi wr => ∃ (k : Nat) (out : List Int), k ≤ n ∧ gk = n - k ∧ vi = .int .i64 k ∧ out.length = n ∧ (∀ j, j < k → out.getD j 0 = (W64.u (l.getD j 0) : Int)) ∧
      wr.ownsRow w.heap.size 46 1 (.slice (some ⟨w.heap.size, 0, none⟩) n n) n (vints .u64 out) ∧ Below w.heap.size w wr)
  case atStart => exact ⟨0, List.replicate n 0, by omega, rfl, rfl, by simp, fun j h => by omega, hown, hb1⟩
  case round =>
    clear hown hb1
    obtain ⟨k, out, hk, h2, rfl, hlen, hout, hown, hb⟩ := hrel
    have H2 := Lib.hid h2
    have HLEN := Lib.hid hlen
    have HOUT := Lib.hid hout
    clear h2 hout
    by_cases hlt : k < n
    · obtain ⟨x, rfl, hx, hc⟩ := (HI.out.below hb) (by rw [← HN.out]; omega)
      have hcell := hc k (by rw [← HN.out]; omega)
      obtain ⟨z, hz⟩ : ∃ z, z = l.getD k 0 := ⟨_, rfl⟩
      rw [← hz] at hcell
      have HZ := Lib.hid hz
      have eu : IntKind.u64.wrap z = W64.u z := W64.u_eq z
      have e1 := (hown.cellAt k (by omega)).trans (vints_get .u64 out k (by omega))
      have e2 := hown.frozenAt k
      have hst := (hown.stored k (.int .u64 (W64.u z : Nat)))
      rw [vints_set] at hst
      have HST := Lib.hid hst
      clear hc hz hst hown hlen
      go_wp2
      go_roundg (n - (k + 1))
      case measure => rw [H2.out]; omega
      case rel =>
        refine ⟨k + 1, out.set k (W64.u z), by omega, rfl, by go_num, by rw [List.length_set]; exact HLEN.out, fun j hj => ?_, HST.out.1, hb.setCell (by simp) _⟩
        by_cases q : j = k
        · subst q
          have := HLEN.out
          have h3 : j < out.length := by omega
          rw [← HZ.out]; simp [h3]
        · rw [List.getD_eq_getElem?_getD, List.getElem?_set_ne (by omega), ← List.getD_eq_getElem?_getD]
          exact HOUT.out j (by omega)
    · obtain rfl : k = n := by omega
      obtain ⟨q1, q2⟩ := dig_of_u l out (by rw [HLEN.out, HN.out]) (fun j hj => HOUT.out j (by rw [HN.out]; exact hj))
      have cw := sum_Words (some ⟨w.heap.size, 0, none⟩) k out (by rw [HLEN.out]; omega) q2 wr (IntsAt.of_own hown HLEN.out.symm)
      rw [HLEN.out, q1] at cw
      have CW := Lib.hid cw
      clear cw q1 q2 hlen hown
      go_wp2_with (go_at_call 47; refine (CW.out).mono ?_; rintro e w2 ⟨rfl, rfl⟩)
      go_ret
      exact ⟨rfl, hb⟩
end Go.Proofs.Ytfckbkhnelgjbaa
end
/- world.Digest. -/
section
namespace Go.Proofs.Ytfckbkhnelgjbaa
open Go.ChangeShapes Go.WideShapes Go.ChangeAt Go.RowKit Go.Nm Go.Mem
set_option linter.unusedVariables false
set_option maxHeartbeats 4000000 in
theorem world_Digest (y : WorldV) (v : Value) (W : World) (hv : WorldIn W v y) (hfn : FineW y) (hlen : (intsW y).length ≤ 17592186044416) : Calls Try.prog 22 #[v] W fun e w' => e = .returned (.int .u64 (dig (intsW y) : Nat)) ∧ Below W.heap.size W w' := by
  obtain ⟨ak, ck, ag, cg, ai, ci, rfl, q1, q2, q3, q4, q5⟩ := hv
  obtain ⟨nk, hnk⟩ : ∃ n, n = y.kinds.length := ⟨_, rfl⟩
  obtain ⟨ng, hng⟩ : ∃ n, n = y.gens.length := ⟨_, rfl⟩
  obtain ⟨ni, hni⟩ : ∃ n, n = y.items.length := ⟨_, rfl⟩
  have hb0 := (Below.refl W.heap.size W).alloc (Nat.le_refl _) (.cells #[.slice ak nk ck, .slice ag ng cg, .slice ai ni ci] 37)
  have hv' : WorldIn (W.alloc (.cells #[.slice ak nk ck, .slice ag ng cg, .slice ai ni ci] 37)) (.agg #[.slice ak nk ck, .slice ag ng cg, .slice ai ni ci]) y := by
    rw [hnk, hng, hni] at hb0 ⊢
    exact WorldIn.below ⟨ak, ck, ag, cg, ai, ci, rfl, q1, q2, q3, q4, q5⟩ hb0
  have HC := Lib.hid (world_Ints y _ _ hv' hfn)
  have HS := Lib.hid (fun a c w' h => sum_Ints a c (intsW y) hlen w' h)
  have HB0 := Lib.hid hb0
  obtain ⟨L, hL⟩ : ∃ L, L = intsW y := ⟨_, rfl⟩
  rw [← hL] at HC HS ⊢
  clear q1 q2 q3 hv' hb0 hfn hlen hL
  rw [← hnk, ← hng, ← hni]
  clear hnk hng hni q4
  go_enter Try.func22, Try.ntmps22
  go_wp2_with fail
  refine HC.out.mono ?_
  rintro e w1 ⟨⟨a, c, rfl, hi⟩, hb1⟩
  have HB1 := Lib.hid (HB0.out.trans (hb1.mono HB0.out.size))
  have HI := Lib.hid hi
  clear hi hb1
  go_wp2_with fail
  refine (HS.out a c _ HI.out).mono ?_
  rintro e w2 ⟨rfl, hb2⟩
  have HB2 := Lib.hid (HB1.out.trans (hb2.mono HB1.out.size))
  clear hb2
  go_wp2_with fail
  go_ret
  exact ⟨rfl, HB2.out⟩
end Go.Proofs.Ytfckbkhnelgjbaa
end
/- Bounds of a world's parts out of its bulk. -/
section
namespace Go.Proofs.Ytfckbkhnelgjbaa
open Go.RowKit Go.ChangeShapes Go.WideShapes Go.Deep Go.Mem
set_option linter.unusedVariables false
theorem sumB_at {α : Type} (f : α → Nat) : ∀ (l : List α) (x : α), x ∈ l → f x ≤ (l.map f).sum
  | y :: l, x, h => by
    rcases List.mem_cons.1 h with rfl | h
    · simp
    · have := sumB_at f l x h; simp only [List.map_cons, List.sum_cons]; omega
theorem sumB_len {α : Type} (f : α → Nat) (h : ∀ x, 1 ≤ f x) : ∀ l : List α, l.length ≤ (l.map f).sum
  | [] => Nat.le_refl _
  | x :: l => by have := sumB_len f h l; have := h x; simp only [List.map_cons, List.sum_cons, List.length_cons]; omega
theorem comps_bound {l : List CompV} {N : Nat} (h : (l.map costComp).sum ≤ N) : l.length ≤ N ∧ ∀ z ∈ l, z.vals.length ≤ N := by
  refine ⟨Nat.le_trans (sumB_len costComp (fun x => by unfold costComp; omega) l) h, fun z hz => ?_⟩
  have := sumB_at costComp l z hz
  unfold costComp at this h
  omega
theorem world_bound {y : WorldV} {N : Nat} (h : costWorld y ≤ N) (hN : N ≤ 1048576) : SmallW y ∧ ∀ k ∈ y.kinds, k.fields.length ≤ 1048576 := by
  unfold costWorld at h
  have h1 := sumB_len costKind (fun x => by unfold costKind; omega) y.kinds
  have h2 := sumB_len costItem (fun x => by unfold costItem; omega) y.items
  refine ⟨⟨by omega, by omega, by omega, fun z hz => ?_⟩, fun k hk => ?_⟩
  · have h3 := sumB_at costItem y.items z hz
    unfold costItem at h3 h
    obtain ⟨a, b⟩ := comps_bound (l := z.comps) (N := N) (by omega)
    exact ⟨by omega, fun c hc => by have := b c hc; omega⟩
  · have h3 := sumB_at costKind y.kinds k hk
    have h4 := sumB_len costField (fun x => by unfold costField; omega) k.fields
    unfold costKind at h3 h
    omega
end Go.Proofs.Ytfckbkhnelgjbaa
end
/- Drawn regions by facts: a look-up in a map whose run is known; a comparison of structs whose run is known. No function of the program is named here. -/
section
namespace Go.Proofs.Ytfckbkhnelgjbaa
open Go.ChangeShapes Go.WideShapes Go.ChangeAt Go.RowKit Go.Mem
set_option linter.unusedVariables false
section
variable {P : Program} {ops : Array Oper} {o : Oper} {F : Act} {w : World} {Q : Exit → Act → World → Prop}
theorem rg_lookup (t : TypeId) (m x : Operand) (hgd : o.guard = none) (ho : o.op = .lookup t m x false) (vm vk v : Value) (hm : F.eval m = vm) (hx : F.eval x = vk) (hrun : (Instr.lookup t vm vk false).run P w = .ok v w) (h : Q .normal (F.put o.dst v) w) : wpList P ops Q [o] F w := by
  refine wpList_plain hgd fun K hK => ?_
  unfold Oper.wp
  simp [execOp, ho, hm, hx, hrun, Result.andThen]
  exact hK _ _ h
theorem rg_binrun (b : BinOp) (t tr : TypeId) (x y : Operand) (hgd : o.guard = none) (ho : o.op = .binOp b t x y tr) (vx vy v : Value) (hx : F.eval x = vx) (hy : F.eval y = vy) (hg : (eqGuard b t x y vx vy).run P w = .ok () w) (hrun : (binOp b t vx vy).run P w = .ok v w) (h : Q .normal (F.put o.dst v) w) : wpList P ops Q [o] F w := by
  refine wpList_plain hgd fun K hK => ?_
  unfold Oper.wp execOp
  simp [ho, hx, hy, hg, hrun, Sem.run_bind, Result.andThen, Oper.upon]
  exact hK _ _ h
end
end Go.Proofs.Ytfckbkhnelgjbaa
end
/- tourtop.h6begun: by program (gen_h6.py). -/
section
namespace Go.Proofs.Ytfckbkhnelgjbaa
open Go.ChangeShapes Go.WideShapes Go.ChangeAt Go.RowKit Go.Nm Go.Mem
set_option linter.unusedVariables false
theorem list20h {α : Type} {vs : List α} (h : vs.length = 20) : ∃ x0 x1 x2 x3 x4 x5 x6 x7 x8 x9 x10 x11 x12 x13 x14 x15 x16 x17 x18 x19, vs = [x0, x1, x2, x3, x4, x5, x6, x7, x8, x9, x10, x11, x12, x13, x14, x15, x16, x17, x18, x19] := by
  obtain ⟨x0, t0, rfl, h0⟩ := cons_of h
  obtain ⟨x1, t1, rfl, h1⟩ := cons_of h0
  obtain ⟨x2, t2, rfl, h2⟩ := cons_of h1
  obtain ⟨x3, t3, rfl, h3⟩ := cons_of h2
  obtain ⟨x4, t4, rfl, h4⟩ := cons_of h3
  obtain ⟨x5, t5, rfl, h5⟩ := cons_of h4
  obtain ⟨x6, t6, rfl, h6⟩ := cons_of h5
  obtain ⟨x7, t7, rfl, h7⟩ := cons_of h6
  obtain ⟨x8, t8, rfl, h8⟩ := cons_of h7
  obtain ⟨x9, t9, rfl, h9⟩ := cons_of h8
  obtain ⟨x10, t10, rfl, h10⟩ := cons_of h9
  obtain ⟨x11, t11, rfl, h11⟩ := cons_of h10
  obtain ⟨x12, t12, rfl, h12⟩ := cons_of h11
  obtain ⟨x13, t13, rfl, h13⟩ := cons_of h12
  obtain ⟨x14, t14, rfl, h14⟩ := cons_of h13
  obtain ⟨x15, t15, rfl, h15⟩ := cons_of h14
  obtain ⟨x16, t16, rfl, h16⟩ := cons_of h15
  obtain ⟨x17, t17, rfl, h17⟩ := cons_of h16
  obtain ⟨x18, t18, rfl, h18⟩ := cons_of h17
  obtain ⟨x19, t19, rfl, h19⟩ := cons_of h18
  exact ⟨x0, x1, x2, x3, x4, x5, x6, x7, x8, x9, x10, x11, x12, x13, x14, x15, x16, x17, x18, x19, by rw [List.eq_nil_of_length_eq_zero h19]⟩
def F_h6 (BX BV BY ck2 cg2 ci2 ck cg ci DV DY NW NB : Nat) (ak2 ag2 ai2 ak ag ai : Option Addr) (jq : Nat) (v : Value) (w : World) : Prop :=
  match jq with
  | 0 => v = .int .i64 0
  | 1 => v = .bool true
  | 2 => v = .bool true
  | 3 => v = .agg #[.int .i64 0, .int .i64 0]
  | 4 => v = .agg #[.int .i64 0, .int .i64 0]
  | 5 => v = .bool true
  | 6 => v = .bool true
  | 7 => v = .bool true
  | 8 => v = .agg #[.slice ak2 1 ck2, .slice ag2 1 cg2, .slice ai2 1 ci2]
  | 9 => v = .int .u64 (DV : Int)
  | 10 => v = .agg #[.slice ak 1 ck, .slice ag 0 cg, .slice ai 0 ci]
  | 11 => v = .int .u64 (DY : Int)
  | 12 => v = .bool true
  | 13 => v = .bool true
  | 14 => v = .bool true
  | 15 => v = .int .u64 (NW : Int)
  | 16 => v = .int .u64 (NB : Int)
  | 17 => v = .bool true
  | 18 => v = .bool true
  | 19 => v = .bool true
  | _ => True
theorem F_h6_mono (BX BV BY ck2 cg2 ci2 ck cg ci DV DY NW NB : Nat) (ak2 ag2 ai2 ak ag ai : Option Addr) : Facts (F_h6 BX BV BY ck2 cg2 ci2 ck cg ci DV DY NW NB  ak2 ag2 ai2 ak ag ai ) := ⟨by
  intro jq v w w' h hb
  unfold F_h6 at h ⊢
  split at h
  all_goals first
    | exact h
    | trivial⟩

def k6 : KindV := ⟨⟨#[97]⟩, [⟨⟨#[120]⟩, 4, 0⟩]⟩
theorem k6_ok : kindsE [k6] = 0 := by kernel_rfl
def y6 : WorldV := ⟨[k6], [], []⟩
def l6 : List CompV := [⟨0, [3]⟩]
theorem new6 : newV [k6] = y6 := by unfold newV; rw [if_pos k6_ok]; rfl
theorem spawn6 : spawnE y6 l6 = 0 := by kernel_rfl
def z6 : WorldV := ⟨[k6], [0], [⟨0, 0, [⟨0, [3]⟩]⟩]⟩
theorem z6_of {Z : WorldV} (h : SpawnZ y6 l6 Z) : Z = z6 := by
  obtain ⟨i, hi, _, _, rfl⟩ := h
  have h0 : i = 0 := Nat.le_zero.1 hi
  subst h0
  have e : (⟨y6.kinds, spawnG y6, y6.items.take 0 ++ [spawnI y6 l6] ++ y6.items.drop 0⟩ : WorldV) = z6 := by kernel_rfl
  exact e
theorem fine_y6 : FineW y6 := fine_of (of_decide_eq_true (by kernel_rfl))
theorem fine_z6 : FineW z6 := fine_of (of_decide_eq_true (by kernel_rfl))
theorem flds6 : ∀ k ∈ [k6], k.fields.length ≤ 1048576 := by
  intro k hk
  rw [List.mem_singleton] at hk
  subst hk
  decide
theorem dig6 : (dig (intsW z6) : Int) ≠ (dig (intsW y6) : Int) := bne_iff_ne.1 (show ((dig (intsW z6) : Int) != (dig (intsW y6) : Int)) = true by kernel_rfl)
theorem nil6 : (dig [] : Int) ≠ (bdig [] : Int) := bne_iff_ne.1 (show ((dig [] : Int) != (bdig [] : Int)) = true by kernel_rfl)
theorem kinds6 {w : World} {f k : Nat} (hf : w.heap[f]? = some (.cells #[.string ⟨#[120]⟩, .int .i64 4, .int .i64 0] 99 (0, 0))) (hk : w.heap[k]? = some (.cells #[.string ⟨#[97]⟩, .slice (some ⟨f, 0, none⟩) 1 1] 102 (0, 0))) : SlAt 2 KindAt w (some ⟨k, 0, none⟩) [k6] := fun _ => by
  refine ⟨_, rfl, lt_of_heap hk, fun i hi => ?_⟩
  have hi2 : i < 1 := hi
  obtain rfl : i = 0 := by omega
  refine ⟨cell_of_row _ _ 0 _ _ _ hk, by show (1 : Nat) ≤ _; omega, _, _, cell_of_row _ _ 1 _ _ _ hk, Nat.le_refl _, by omega, fun _ => ⟨_, rfl, lt_of_heap hf, fun j hj => ?_⟩⟩
  have hj2 : j < 1 := hj
  obtain rfl : j = 0 := by omega
  exact ⟨cell_of_row _ _ 0 _ _ _ hf, cell_of_row _ _ 1 _ _ _ hf, cell_of_row _ _ 2 _ _ _ hf, by show (1 : Nat) ≤ _; omega⟩
theorem comps6 {w : World} {v k : Nat} (hv : w.heap[v]? = some (.cells #[.int .i64 3] 3 (0, 0))) (hk : w.heap[k]? = some (.cells #[.int .i64 0, .slice (some ⟨v, 0, none⟩) 1 1] 95 (0, 0))) : SlAt 2 CompAt w (some ⟨k, 0, none⟩) l6 := fun _ => by
  refine ⟨_, rfl, lt_of_heap hk, fun i hi => ?_⟩
  have hi2 : i < 1 := hi
  obtain rfl : i = 0 := by omega
  exact ⟨cell_of_row _ _ 0 _ _ _ hk, _, _, cell_of_row _ _ 1 _ _ _ hk, RowB.ints (k := .i64) (zs := [3]) (show RowB _ _ 3 .i64 [3] from hv)⟩
theorem words6 (w : World) : Calls Try.prog 47 #[.slice none 0 0] w fun e w2 => e = .returned (.int .u64 (dig [] : Nat)) ∧ Below w.heap.size w w2 :=
  (sum_Words none 0 [] (by decide) (fun z hz => by cases hz) w (fun h => absurd h (by simp))).mono fun e w2 h => ⟨h.1, by rw [← h.2]; exact Below.refl _ _⟩
theorem ent_guard (o : BinOp) (x y : Operand) (u v : Array Value) (w : World) : (eqGuard o 24 x y (.agg u) (.agg v)).run Try.prog w = .ok () w := by
  have h : Try.prog.eqGuardType Try.prog.depth 24 = false := by kernel_rfl
  cases o <;> simp [eqGuard, h]
theorem ent_eql (w : World) : (binOp .eql 24 (.agg #[.int .i64 0, .int .i64 0]) (.agg #[.int .i64 0, .int .i64 0])).run Try.prog w = .ok (.bool true) w := by kernel_rfl
set_option maxHeartbeats 4000000 in
set_option maxRecDepth 20000 in
theorem h6_begun (W : World) : Calls Try.prog 11 #[] W fun e w' => e = .returned (.bool true) ∧ Below W.heap.size W w' := by
  have hf := row_first W (.cells #[.string ⟨#[120]⟩, .int .i64 4, .int .i64 0] 99) (.cells #[.string ⟨#[97]⟩, .slice (some ⟨W.heap.size, 0, none⟩) 1 1] 102)
  have hk := row_second W (.cells #[.string ⟨#[120]⟩, .int .i64 4, .int .i64 0] 99) (.cells #[.string ⟨#[97]⟩, .slice (some ⟨W.heap.size, 0, none⟩) 1 1] 102)
  have hb0 := ((Below.refl W.heap.size W).alloc (Nat.le_refl _) (.cells #[.string ⟨#[120]⟩, .int .i64 4, .int .i64 0] 99)).alloc (by simp) (.cells #[.string ⟨#[97]⟩, .slice (some ⟨W.heap.size, 0, none⟩) 1 1] 102)
  have CN := world_New [k6] (some ⟨W.heap.size + 1, 0, none⟩) 1 1 rfl (by decide) (by decide) (by decide) flds6 _ (kinds6 hf hk)
  rw [k6_ok, new6] at CN
  have HCN := Lib.hid CN
  have HB0 := Lib.hid hb0
  clear CN hb0 hf hk
  go_enter Try.func11, Try.ntmps11
  go_wp2_with fail
  refine HCN.out.mono ?_
  rintro e w1 ⟨⟨nv, rfl, hin⟩, hb1⟩
  have HB1 := Lib.hid (bt HB0.out hb1)
  have hin0 := hin
  obtain ⟨ak, ck, ag, cg, ai, ci, rfl, _⟩ := hin
  have e1 : y6.kinds.length = 1 := rfl
  have e2 : y6.gens.length = 0 := rfl
  have e3 : y6.items.length = 0 := rfl
  rw [e1, e2, e3] at hin0 ⊢
  have h1 := allocs3_1 w1 (.cells #[.slice ak 1 ck, .slice ag 0 cg, .slice ai 0 ci] 37) (.cells #[.int .i64 3] 3) (.cells #[.int .i64 0, .slice (some ⟨w1.heap.size + 1, 0, none⟩) 1 1] 95)
  have h2 := allocs3_2 w1 (.cells #[.slice ak 1 ck, .slice ag 0 cg, .slice ai 0 ci] 37) (.cells #[.int .i64 3] 3) (.cells #[.int .i64 0, .slice (some ⟨w1.heap.size + 1, 0, none⟩) 1 1] 95)
  have h3 := allocs3_3 w1 (.cells #[.slice ak 1 ck, .slice ag 0 cg, .slice ai 0 ci] 37) (.cells #[.int .i64 3] 3) (.cells #[.int .i64 0, .slice (some ⟨w1.heap.size + 1, 0, none⟩) 1 1] 95)
  have hbE := allocs3_b w1 (.cells #[.slice ak 1 ck, .slice ag 0 cg, .slice ai 0 ci] 37) (.cells #[.int .i64 3] 3) (.cells #[.int .i64 0, .slice (some ⟨w1.heap.size + 1, 0, none⟩) 1 1] 95)
  obtain ⟨wv, hwv⟩ : ∃ w, w = ((w1.alloc (.cells #[.slice ak 1 ck, .slice ag 0 cg, .slice ai 0 ci] 37)).alloc (.cells #[.int .i64 3] 3)).alloc (.cells #[.int .i64 0, .slice (some ⟨w1.heap.size + 1, 0, none⟩) 1 1] 95) := ⟨_, rfl⟩
  rw [← hwv] at h1 h2 h3 hbE
  obtain ⟨sm, fl⟩ := world_bound (y := y6) (N := 1048576) (of_decide_eq_true (by kernel_rfl)) (Nat.le_refl _)
  have CS := world_Spawn y6 l6 _ (some ⟨w1.heap.size + 1 + 1, 0, none⟩) 1 1 wv (hin0.below hbE) sm fl rfl (by decide) (by decide) (by intro z hz; unfold l6 at hz; rw [List.mem_singleton] at hz; subst hz; decide) (comps6 h2 h3)
  rw [spawn6] at CS
  have HCS := Lib.hid CS
  have HW1 := Lib.hid h1
  have HIN := Lib.hid (hin0.below hbE)
  have HBV := Lib.hid (bt HB1.out hbE)
  have HWV := Lib.hid hwv
  have z0 := cell_of_row _ _ 0 _ _ _ (heap_alloc_new w1 (.cells #[.slice ak 1 ck, .slice ag 0 cg, .slice ai 0 ci] 37))
  have z1 := cell_of_row _ _ 1 _ _ _ (heap_alloc_new w1 (.cells #[.slice ak 1 ck, .slice ag 0 cg, .slice ai 0 ci] 37))
  have z2 := cell_of_row _ _ 2 _ _ _ (heap_alloc_new w1 (.cells #[.slice ak 1 ck, .slice ag 0 cg, .slice ai 0 ci] 37))
  clear hin0 h1 h2 h3 hbE CS HCN HB1 HB0 hb1 e1 e2 e3 sm fl hwv
  go_wp2_with fail
  rw [← HWV.out]
  clear z0 z1 z2 HWV
  refine HCS.out.mono ?_
  rintro e w3 ⟨⟨sv, xn, xg, Z, rfl, hz, _, hz0⟩, hb3⟩
  obtain ⟨g1, g2, hZ⟩ := hz0 rfl
  have hZ6 := z6_of hZ
  subst hZ6
  have gn : xn = 0 := by rw [g1]; kernel_rfl
  have gg : xg = 0 := by rw [g2]; kernel_rfl
  subst gn gg
  have hz1 := hz
  obtain ⟨ak2, ck2, ag2, cg2, ai2, ci2, rfl, _⟩ := hz
  have e1 : z6.kinds.length = 1 := rfl
  have e2 : z6.gens.length = 1 := rfl
  have e3 : z6.items.length = 1 := rfl
  rw [e1, e2, e3] at hz1 ⊢
  have hv := row_first w3 (.cells #[.slice ak2 1 ck2, .slice ag2 1 cg2, .slice ai2 1 ci2] 37) (.cells #[.int .i64 0, .int .i64 0] 24)
  have hx := row_second w3 (.cells #[.slice ak2 1 ck2, .slice ag2 1 cg2, .slice ai2 1 ci2] 37) (.cells #[.int .i64 0, .int .i64 0] 24)
  have hbA := ((Below.refl w3.heap.size w3).alloc (Nat.le_refl _) (.cells #[.slice ak2 1 ck2, .slice ag2 1 cg2, .slice ai2 1 ci2] 37)).alloc (by simp) (.cells #[.int .i64 0, .int .i64 0] 24)
  obtain ⟨wr, hwr⟩ : ∃ w, w = (w3.alloc (.cells #[.slice ak2 1 ck2, .slice ag2 1 cg2, .slice ai2 1 ci2] 37)).alloc (.cells #[.int .i64 0, .int .i64 0] 24) := ⟨_, rfl⟩
  rw [← hwr] at hv hx hbA
  have HV := Lib.hid hv
  have HX := Lib.hid hx
  have HY := Lib.hid (heap_below (heap_below HW1.out hb3) hbA)
  have HB := Lib.hid (bt (bt HBV.out hb3) hbA)
  have HDV := Lib.hid (fun w' (hb : Below wr.heap.size wr w') => world_Digest z6 _ w' ((hz1.below hbA).below hb) fine_z6 (of_decide_eq_true (by kernel_rfl)))
  have HDY := Lib.hid (fun w' (hb : Below wr.heap.size wr w') => world_Digest y6 _ w' (((HIN.out.below hb3).below hbA).below hb) fine_y6 (of_decide_eq_true (by kernel_rfl)))
  have HWR := Lib.hid hwr
  obtain ⟨BY, hBY⟩ : ∃ b, b = w1.heap.size := ⟨_, rfl⟩
  obtain ⟨BV, hBV⟩ : ∃ b, b = w3.heap.size := ⟨_, rfl⟩
  obtain ⟨BX, hBX⟩ : ∃ b, b = w3.heap.size + 1 := ⟨_, rfl⟩
  have HBYN := Lib.hid hBY
  have HBVN := Lib.hid hBV
  have HBXN := Lib.hid hBX
  rw [← hBY] at HY
  rw [← hBV] at HV
  rw [← hBX] at HX
  clear hBY hBV hBX
  obtain ⟨DV, hDV⟩ : ∃ d, d = dig (intsW z6) := ⟨_, rfl⟩
  obtain ⟨DY, hDY⟩ : ∃ d, d = dig (intsW y6) := ⟨_, rfl⟩
  obtain ⟨NW, hNW⟩ : ∃ d, d = dig [] := ⟨_, rfl⟩
  obtain ⟨NB, hNB⟩ : ∃ d, d = bdig [] := ⟨_, rfl⟩
  have C1 := dig6
  have C2 := nil6
  rw [← hDV, ← hDY] at C1
  rw [← hNW, ← hNB] at C2
  have HC1 := Lib.hid C1
  have HC2 := Lib.hid C2
  rw [← hDV] at HDV
  rw [← hDY] at HDY
  have HNW := Lib.hid words6
  have HNB := Lib.hid (fun w' => sum_Bytes none 0 [] (by decide) (by decide) (fun z hz => by cases hz) w' (fun h => absurd h (by simp)))
  rw [← hNW] at HNW
  rw [← hNB] at HNB
  clear hb3 hz0 g1 g2 hZ hz1 e1 e2 e3 hv hx hbA hwr hDV hDY hNW hNB C1 C2 HCS HBV HW1 HIN
  go_wp2_with fail
  rw [← HWR.out, ← HBYN.out, ← HBXN.out, ← HBVN.out]
  refine wp_region_facts_t rfl 20 (by kernel_rfl) (F_h6 BX BV BY ck2 cg2 ci2 ck cg ci DV DY NW NB ak2 ag2 ai2 ak ag ai) (F_h6_mono BX BV BY ck2 cg2 ci2 ck cg ci DV DY NW NB ak2 ag2 ai2 ak ag ai) ?_ ?_
  · refine ⟨?_, ?_, ?_, ?_, ?_, ?_, ?_, ?_, ?_, ?_, ?_, ?_, ?_, ?_, ?_, ?_, ?_, ?_, ?_, ?_, trivial⟩
    · intro vs w' F hb hd hF hl hT
      have e := (hF 5).trans (look_out _ 5 _ _ (by kernel_rfl))
      exact one_move _ rfl (by first | exact Or.inl rfl | exact Or.inr rfl) ⟨_, rfl, Below.refl _ _, e⟩
    · intro vs w' F hb hd hF hl hT
      have e1 := ((hF 25).trans (look_at _ 25 0 _ _ (by kernel_rfl) (by kernel_rfl) hl)).trans (dep_of (Fact := F_h6 BX BV BY ck2 cg2 ci2 ck cg ci DV DY NW NB ak2 ag2 ai2 ak ag ai) hd 0 (by kernel_rfl))
      exact rg_eql _ _ _ _ rfl rfl .i64 (0) (0) true e1 rfl (decide_eq_true (by omega)) ⟨_, rfl, Below.refl _ _, rfl⟩
    · intro vs w' F hb hd hF hl hT
      have e := ((hF 26).trans (look_at _ 26 1 _ _ (by kernel_rfl) (by kernel_rfl) hl)).trans (dep_of (Fact := F_h6 BX BV BY ck2 cg2 ci2 ck cg ci DV DY NW NB ak2 ag2 ai2 ak ag ai) hd 1 (by kernel_rfl))
      exact one_move _ rfl (by first | exact Or.inl rfl | exact Or.inr rfl) ⟨_, rfl, Below.refl _ _, e⟩
    · intro vs w' F hb hd hF hl hT
      have eg := ((hF 27).trans (look_at _ 27 2 _ _ (by kernel_rfl) (by kernel_rfl) hl)).trans (dep_of (Fact := F_h6 BX BV BY ck2 cg2 ci2 ck cg ci DV DY NW NB ak2 ag2 ai2 ak ag ai) hd 2 (by kernel_rfl))
      refine wpList_on rfl (t := 27) (by kernel_rfl) eg ?_
      have e := (hF 4).trans (look_out _ 4 _ _ (by kernel_rfl))
      exact rg_load 24 _ rfl rfl (BX) (0) [.int .i64 0, .int .i64 0] e (CellsK.row (heap_below HX.out hb)) _ Try.underlying24 rfl (by kernel_rfl) ⟨_, rfl, Below.refl _ _, rfl⟩
    · intro vs w' F hb hd hF hl hT
      have eg := ((hF 27).trans (look_at _ 27 2 _ _ (by kernel_rfl) (by kernel_rfl) hl)).trans (dep_of (Fact := F_h6 BX BV BY ck2 cg2 ci2 ck cg ci DV DY NW NB ak2 ag2 ai2 ak ag ai) hd 2 (by kernel_rfl))
      refine wpList_on rfl (t := 27) (by kernel_rfl) eg ?_
      exact one_build _ _ rfl rfl #[] (by simp) (.agg #[.int .i64 0, .int .i64 0]) (fun w => by kernel_rfl) ⟨_, rfl, Below.refl _ _, rfl⟩
    · intro vs w' F hb hd hF hl hT
      have eg := ((hF 27).trans (look_at _ 27 2 _ _ (by kernel_rfl) (by kernel_rfl) hl)).trans (dep_of (Fact := F_h6 BX BV BY ck2 cg2 ci2 ck cg ci DV DY NW NB ak2 ag2 ai2 ak ag ai) hd 2 (by kernel_rfl))
      refine wpList_on rfl (t := 27) (by kernel_rfl) eg ?_
      have e1 := (((hF 28).trans (look_at _ 28 3 _ _ (by kernel_rfl) (by kernel_rfl) hl)).trans (dep_of (Fact := F_h6 BX BV BY ck2 cg2 ci2 ck cg ci DV DY NW NB ak2 ag2 ai2 ak ag ai) hd 3 (by kernel_rfl)))
      have e2 := (((hF 29).trans (look_at _ 29 4 _ _ (by kernel_rfl) (by kernel_rfl) hl)).trans (dep_of (Fact := F_h6 BX BV BY ck2 cg2 ci2 ck cg ci DV DY NW NB ak2 ag2 ai2 ak ag ai) hd 4 (by kernel_rfl)))
      exact rg_binrun .eql 24 _ _ _ rfl rfl (.agg #[.int .i64 0, .int .i64 0]) (.agg #[.int .i64 0, .int .i64 0]) (.bool true) e1 e2 (ent_guard _ _ _ _ _ _) (ent_eql _) ⟨_, rfl, Below.refl _ _, rfl⟩
    · intro vs w' F hb hd hF hl hT
      have ec := ((hF 27).trans (look_at _ 27 2 _ _ (by kernel_rfl) (by kernel_rfl) hl)).trans (dep_of (Fact := F_h6 BX BV BY ck2 cg2 ci2 ck cg ci DV DY NW NB ak2 ag2 ai2 ak ag ai) hd 2 (by kernel_rfl))
      have e := ((hF 30).trans (look_at _ 30 5 _ _ (by kernel_rfl) (by kernel_rfl) hl)).trans (dep_of (Fact := F_h6 BX BV BY ck2 cg2 ci2 ck cg ci DV DY NW NB ak2 ag2 ai2 ak ag ai) hd 5 (by kernel_rfl))
      exact one_pick_t _ _ _ rfl rfl _ ec e ⟨_, rfl, Below.refl _ _, rfl⟩
    · intro vs w' F hb hd hF hl hT
      have e := ((hF 31).trans (look_at _ 31 6 _ _ (by kernel_rfl) (by kernel_rfl) hl)).trans (dep_of (Fact := F_h6 BX BV BY ck2 cg2 ci2 ck cg ci DV DY NW NB ak2 ag2 ai2 ak ag ai) hd 6 (by kernel_rfl))
      exact one_move _ rfl (by first | exact Or.inl rfl | exact Or.inr rfl) ⟨_, rfl, Below.refl _ _, e⟩
    · intro vs w' F hb hd hF hl hT
      have eg := ((hF 32).trans (look_at _ 32 7 _ _ (by kernel_rfl) (by kernel_rfl) hl)).trans (dep_of (Fact := F_h6 BX BV BY ck2 cg2 ci2 ck cg ci DV DY NW NB ak2 ag2 ai2 ak ag ai) hd 7 (by kernel_rfl))
      refine wpList_on rfl (t := 32) (by kernel_rfl) eg ?_
      have e := (hF 3).trans (look_out _ 3 _ _ (by kernel_rfl))
      exact rg_load 37 _ rfl rfl (BV) (0) [.slice ak2 1 ck2, .slice ag2 1 cg2, .slice ai2 1 ci2] e (CellsK.row (heap_below HV.out hb)) _ Try.underlying37 rfl (by kernel_rfl) ⟨_, rfl, Below.refl _ _, rfl⟩
    · intro vs w' F hb hd hF hl hT
      have eg := ((hF 32).trans (look_at _ 32 7 _ _ (by kernel_rfl) (by kernel_rfl) hl)).trans (dep_of (Fact := F_h6 BX BV BY ck2 cg2 ci2 ck cg ci DV DY NW NB ak2 ag2 ai2 ak ag ai) hd 7 (by kernel_rfl))
      refine wpList_on rfl (t := 32) (by kernel_rfl) eg ?_
      have ea0 := ((hF 33).trans (look_at _ 33 8 _ _ (by kernel_rfl) (by kernel_rfl) hl)).trans (dep_of (Fact := F_h6 BX BV BY ck2 cg2 ci2 ck cg ci DV DY NW NB ak2 ag2 ai2 ak ag ai) hd 8 (by kernel_rfl))
      refine one_call _ _ rfl rfl (enters_of Try.func22 (by kernel_rfl) rfl) #[.agg #[.slice ak2 1 ck2, .slice ag2 1 cg2, .slice ai2 1 ci2]] (eval1 ea0) ?_
      refine (HDV.out w' hb).mono ?_
      rintro e2 w2 ⟨rfl, hb2⟩
      exact ⟨_, rfl, _, rfl, hb2, rfl⟩
    · intro vs w' F hb hd hF hl hT
      have eg := ((hF 32).trans (look_at _ 32 7 _ _ (by kernel_rfl) (by kernel_rfl) hl)).trans (dep_of (Fact := F_h6 BX BV BY ck2 cg2 ci2 ck cg ci DV DY NW NB ak2 ag2 ai2 ak ag ai) hd 7 (by kernel_rfl))
      refine wpList_on rfl (t := 32) (by kernel_rfl) eg ?_
      have e := (hF 1).trans (look_out _ 1 _ _ (by kernel_rfl))
      exact rg_load 37 _ rfl rfl (BY) (0) [.slice ak 1 ck, .slice ag 0 cg, .slice ai 0 ci] e (CellsK.row (heap_below HY.out hb)) _ Try.underlying37 rfl (by kernel_rfl) ⟨_, rfl, Below.refl _ _, rfl⟩
    · intro vs w' F hb hd hF hl hT
      have eg := ((hF 32).trans (look_at _ 32 7 _ _ (by kernel_rfl) (by kernel_rfl) hl)).trans (dep_of (Fact := F_h6 BX BV BY ck2 cg2 ci2 ck cg ci DV DY NW NB ak2 ag2 ai2 ak ag ai) hd 7 (by kernel_rfl))
      refine wpList_on rfl (t := 32) (by kernel_rfl) eg ?_
      have ea0 := ((hF 35).trans (look_at _ 35 10 _ _ (by kernel_rfl) (by kernel_rfl) hl)).trans (dep_of (Fact := F_h6 BX BV BY ck2 cg2 ci2 ck cg ci DV DY NW NB ak2 ag2 ai2 ak ag ai) hd 10 (by kernel_rfl))
      refine one_call _ _ rfl rfl (enters_of Try.func22 (by kernel_rfl) rfl) #[.agg #[.slice ak 1 ck, .slice ag 0 cg, .slice ai 0 ci]] (eval1 ea0) ?_
      refine (HDY.out w' hb).mono ?_
      rintro e2 w2 ⟨rfl, hb2⟩
      exact ⟨_, rfl, _, rfl, hb2, rfl⟩
    · intro vs w' F hb hd hF hl hT
      have eg := ((hF 32).trans (look_at _ 32 7 _ _ (by kernel_rfl) (by kernel_rfl) hl)).trans (dep_of (Fact := F_h6 BX BV BY ck2 cg2 ci2 ck cg ci DV DY NW NB ak2 ag2 ai2 ak ag ai) hd 7 (by kernel_rfl))
      refine wpList_on rfl (t := 32) (by kernel_rfl) eg ?_
      have e1 := ((hF 34).trans (look_at _ 34 9 _ _ (by kernel_rfl) (by kernel_rfl) hl)).trans (dep_of (Fact := F_h6 BX BV BY ck2 cg2 ci2 ck cg ci DV DY NW NB ak2 ag2 ai2 ak ag ai) hd 9 (by kernel_rfl))
      have e2 := ((hF 36).trans (look_at _ 36 11 _ _ (by kernel_rfl) (by kernel_rfl) hl)).trans (dep_of (Fact := F_h6 BX BV BY ck2 cg2 ci2 ck cg ci DV DY NW NB ak2 ag2 ai2 ak ag ai) hd 11 (by kernel_rfl))
      exact rg_neq _ _ _ _ rfl rfl .u64 ((DV : Int)) ((DY : Int)) true e1 e2 (decide_eq_true (HC1.out)) ⟨_, rfl, Below.refl _ _, rfl⟩
    · intro vs w' F hb hd hF hl hT
      have ec := ((hF 32).trans (look_at _ 32 7 _ _ (by kernel_rfl) (by kernel_rfl) hl)).trans (dep_of (Fact := F_h6 BX BV BY ck2 cg2 ci2 ck cg ci DV DY NW NB ak2 ag2 ai2 ak ag ai) hd 7 (by kernel_rfl))
      have e := ((hF 37).trans (look_at _ 37 12 _ _ (by kernel_rfl) (by kernel_rfl) hl)).trans (dep_of (Fact := F_h6 BX BV BY ck2 cg2 ci2 ck cg ci DV DY NW NB ak2 ag2 ai2 ak ag ai) hd 12 (by kernel_rfl))
      exact one_pick_t _ _ _ rfl rfl _ ec e ⟨_, rfl, Below.refl _ _, rfl⟩
    · intro vs w' F hb hd hF hl hT
      have e := ((hF 38).trans (look_at _ 38 13 _ _ (by kernel_rfl) (by kernel_rfl) hl)).trans (dep_of (Fact := F_h6 BX BV BY ck2 cg2 ci2 ck cg ci DV DY NW NB ak2 ag2 ai2 ak ag ai) hd 13 (by kernel_rfl))
      exact one_move _ rfl (by first | exact Or.inl rfl | exact Or.inr rfl) ⟨_, rfl, Below.refl _ _, e⟩
    · intro vs w' F hb hd hF hl hT
      have eg := ((hF 39).trans (look_at _ 39 14 _ _ (by kernel_rfl) (by kernel_rfl) hl)).trans (dep_of (Fact := F_h6 BX BV BY ck2 cg2 ci2 ck cg ci DV DY NW NB ak2 ag2 ai2 ak ag ai) hd 14 (by kernel_rfl))
      refine wpList_on rfl (t := 39) (by kernel_rfl) eg ?_
      refine one_call _ _ rfl rfl (enters_of Try.func47 (by kernel_rfl) rfl) #[Value.slice none 0 0] (eval1 rfl) ?_
      refine (HNW.out w').mono ?_
      rintro e2 w2 ⟨rfl, hb2⟩
      exact ⟨_, rfl, _, rfl, hb2, rfl⟩
    · intro vs w' F hb hd hF hl hT
      have eg := ((hF 39).trans (look_at _ 39 14 _ _ (by kernel_rfl) (by kernel_rfl) hl)).trans (dep_of (Fact := F_h6 BX BV BY ck2 cg2 ci2 ck cg ci DV DY NW NB ak2 ag2 ai2 ak ag ai) hd 14 (by kernel_rfl))
      refine wpList_on rfl (t := 39) (by kernel_rfl) eg ?_
      refine one_call _ _ rfl rfl (enters_of Try.func48 (by kernel_rfl) rfl) #[Value.slice none 0 0] (eval1 rfl) ?_
      refine (HNB.out w').mono ?_
      rintro e2 w2 ⟨rfl, hb2⟩
      exact ⟨_, rfl, _, rfl, hb2, rfl⟩
    · intro vs w' F hb hd hF hl hT
      have eg := ((hF 39).trans (look_at _ 39 14 _ _ (by kernel_rfl) (by kernel_rfl) hl)).trans (dep_of (Fact := F_h6 BX BV BY ck2 cg2 ci2 ck cg ci DV DY NW NB ak2 ag2 ai2 ak ag ai) hd 14 (by kernel_rfl))
      refine wpList_on rfl (t := 39) (by kernel_rfl) eg ?_
      have e1 := ((hF 40).trans (look_at _ 40 15 _ _ (by kernel_rfl) (by kernel_rfl) hl)).trans (dep_of (Fact := F_h6 BX BV BY ck2 cg2 ci2 ck cg ci DV DY NW NB ak2 ag2 ai2 ak ag ai) hd 15 (by kernel_rfl))
      have e2 := ((hF 41).trans (look_at _ 41 16 _ _ (by kernel_rfl) (by kernel_rfl) hl)).trans (dep_of (Fact := F_h6 BX BV BY ck2 cg2 ci2 ck cg ci DV DY NW NB ak2 ag2 ai2 ak ag ai) hd 16 (by kernel_rfl))
      exact rg_neq _ _ _ _ rfl rfl .u64 ((NW : Int)) ((NB : Int)) true e1 e2 (decide_eq_true (HC2.out)) ⟨_, rfl, Below.refl _ _, rfl⟩
    · intro vs w' F hb hd hF hl hT
      have ec := ((hF 39).trans (look_at _ 39 14 _ _ (by kernel_rfl) (by kernel_rfl) hl)).trans (dep_of (Fact := F_h6 BX BV BY ck2 cg2 ci2 ck cg ci DV DY NW NB ak2 ag2 ai2 ak ag ai) hd 14 (by kernel_rfl))
      have e := ((hF 42).trans (look_at _ 42 17 _ _ (by kernel_rfl) (by kernel_rfl) hl)).trans (dep_of (Fact := F_h6 BX BV BY ck2 cg2 ci2 ck cg ci DV DY NW NB ak2 ag2 ai2 ak ag ai) hd 17 (by kernel_rfl))
      exact one_pick_t _ _ _ rfl rfl _ ec e ⟨_, rfl, Below.refl _ _, rfl⟩
    · intro vs w' F hb hd hF hl hT
      have e := ((hF 43).trans (look_at _ 43 18 _ _ (by kernel_rfl) (by kernel_rfl) hl)).trans (dep_of (Fact := F_h6 BX BV BY ck2 cg2 ci2 ck cg ci DV DY NW NB ak2 ag2 ai2 ak ag ai) hd 18 (by kernel_rfl))
      exact one_move _ rfl (by first | exact Or.inl rfl | exact Or.inr rfl) ⟨_, rfl, Below.refl _ _, e⟩
  · intro vs8 W8 hl hb hI
    have i19 : vs8.getD 19 undef = .bool true := hI 19 (by omega)
    obtain ⟨x0, x1, x2, x3, x4, x5, x6, x7, x8, x9, x10, x11, x12, x13, x14, x15, x16, x17, x18, x19, hvs⟩ := list20h hl
    subst hvs
    replace i19 : x19 = .bool true := i19
    subst i19
    have HB9 := Lib.hid hb
    clear hI hl hb
    simp only [fillAll, Act.put, List.setIfInBounds_toArray, List.set_cons_succ, List.set_cons_zero]
    show wpList _ _ _ [] _ _
    go_wp2
    go_ret
    exact ⟨rfl, bt HB.out HB9.out⟩
end Go.Proofs.Ytfckbkhnelgjbaa
end
