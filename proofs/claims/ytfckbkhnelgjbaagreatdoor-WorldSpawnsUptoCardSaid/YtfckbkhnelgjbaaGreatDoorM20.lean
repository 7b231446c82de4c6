/- Lemmas for the law WorldSpawns: Close. No conditions. -/
import Derived.Test.YtfckbkhnelgjbaaGreatDoorM08
import Derived.Test.YtfckbkhnelgjbaaGreatDoorM04
import Derived.Test.YtfckbkhnelgjbaaGreatDoorM17
import Derived.Test.YtfckbkhnelgjbaaGreatDoorM18
import Derived.Test.YtfckbkhnelgjbaaGreatDoorM19
/- The reference's Flat and its Close. -/
section
namespace Go.Proofs.YtfckbkhnelgjbaaGreatDoor
open Go.ChangeShapes Go.WideShapes Go.ChangeAt Go.RowKit Go.Nm Go.Mem Go.Maps
set_option linter.unusedVariables false
def FlatAt (w : World) (p : Nat) (f : FlatV) : Prop := ∃ ak ck ag cg base b n, w.heap[p]? = some (.cells #[.slice ak f.kinds.length ck, .slice ag f.gens.length cg, .map (some b)] 96 (0, 0)) ∧ SlAt 2 KindAt w ak f.kinds ∧ IntsAt .i64 w ag f.gens ∧ MapO w base b n f.parts ∧ f.kinds.length ≤ ck ∧ ck ≤ 9223372036854775807
theorem closeTo_len (f : FlatV) : ∀ n, (closeTo f n).length ≤ n
  | 0 => Nat.le_refl _
  | n + 1 => by
    have := closeTo_len f n
    unfold closeTo
    rw [List.length_append]
    split <;> simp <;> omega
theorem ints_gbp {k : IntKind} {w w' : World} {a : Option Addr} {zs : List Int} {row : Option Nat} (h : IntsAt k w a zs) (hg : w.grownBy w' row) (ha : ∀ x, a = some x → x.block < w.heap.size → some x.block ≠ row) : IntsAt k w' a zs := fun h0 => by
  obtain ⟨x, e, hx, hc⟩ := h h0
  exact ints_gbo h hg (fun y hy => by
    rw [e] at hy
    injection hy with hy
    subst hy
    exact ha x e hx) h0
/-- growth beside rows that lie beyond the start -/
theorem gb_row {a w w' : World} {X : Nat} {row : Option Nat} (h : a.grownBy w (some X)) (h2 : w.grownBy w' row) (hr : ∀ r, row = some r → a.heap.size ≤ r) : a.grownBy w' (some X) :=
  ⟨h2.os.trans h.os, h2.tape.trans h.tape, h2.output.trans h.output, Nat.le_trans h.size h2.size, fun k hk hne => (h2.block k (Nat.lt_of_lt_of_le hk h.size) (fun e => by have := hr k e.symm; omega)).trans (h.block k hk hne)⟩
theorem list12 {α : Type} {vs : List α} (h : vs.length = 12) : ∃ x0 x1 x2 x3 x4 x5 x6 x7 x8 x9 x10 x11, vs = [x0, x1, x2, x3, x4, x5, x6, x7, x8, x9, x10, x11] := by
  obtain ⟨x0, t0, rfl, h0⟩ := cons_of h
  obtain ⟨x1, t1, rfl, h1⟩ := cons_of h0
  obtain ⟨x2, t2, rfl, h2⟩ := cons_of h1
  obtain ⟨x3, t3, rfl, h3⟩ := cons_of h2
  obtain ⟨x4, t4, rfl, h4⟩ := cons_of h3
  obtain ⟨x5, t5, rfl, h5⟩ := cons_of h4
  obtain ⟨x6, t6, rfl, h6⟩ := cons_of h5
  obtain ⟨x7, t7, rfl, h7⟩ := cons_of h6
  obtain ⟨x8, t8, rfl, h8⟩ := cons_of h7
  obtain ⟨x9, t9, rfl, h9⟩ := cons_of h8
  obtain ⟨x10, t10, rfl, h10⟩ := cons_of h9
  obtain ⟨x11, t11, rfl, h11⟩ := cons_of h10
  exact ⟨x0, x1, x2, x3, x4, x5, x6, x7, x8, x9, x10, x11, by rw [List.eq_nil_of_length_eq_zero h11]⟩
def F_clk (X BK nf cf : Nat) (af : Option Addr) (nmv : ByteArray) (V : Value) (y : KindV) (l : List KindV) (jq : Nat) (v : Value) (w : World) : Prop :=
  match jq with
  | 0 => v = .pointer (some ⟨X, 0, none⟩)
  | 1 => v = V
  | 2 => v = .pointer (some ⟨BK, 0, none⟩)
  | 3 => v = .string nmv
  | 4 => v = .pointer (some ⟨BK, 1, none⟩)
  | 5 => v = .slice af nf cf
  | 6 => ∃ a c, v = .slice a nf c ∧ nf ≤ c ∧ c ≤ 9223372036854775807 ∧ Up BK (fun w => SlAt 3 FieldAt w a y.fields) w
  | 7 => ∃ a c, v = .agg #[.string nmv, .slice a nf c] ∧ nf ≤ c ∧ c ≤ 9223372036854775807 ∧ Up BK (fun w => SlAt 3 FieldAt w a y.fields) w
  | 8 => ∃ g a c, v = .slice (some ⟨g, 0, none⟩) 1 1 ∧ CellsAt w (some ⟨g, 0, none⟩) [.string nmv, .slice a nf c] ∧ BK ≤ g ∧ Up BK (fun w => EKind w [.string nmv, .slice a nf c] y) w
  | 9 => GrowL EKind (X + 1) 86 2 w v (l ++ [y])
  | 10 => v = .pointer (some ⟨X, 0, none⟩)
  | _ => True
theorem F_clk_mono (X BK nf cf : Nat) (af : Option Addr) (nmv : ByteArray) (V : Value) (y : KindV) (l : List KindV) (hV : ∀ r, V.ownBlock = some r → r < BK) : FactsR (RG 9 V.ownBlock) (F_clk X BK nf cf af nmv V y l) := ⟨by
  intro i jq v w w' hij h hb
  unfold F_clk at h ⊢
  split at h
  all_goals first
    | exact h
    | (obtain ⟨a, c, e, h1, h2, h3⟩ := h; exact ⟨a, c, e, h1, h2, h3.grown hb.gb hV⟩)
    | (obtain ⟨g, a, c, e, h1, h2, h3⟩ := h; exact ⟨g, a, c, e, cells_gbo h1 hb.gb (fun e => by have := hV g e.symm; omega), h2, h3.grown hb.gb hV⟩)
    | exact GrowL.below h (hb.1 hij)
    | trivial⟩
def F_cli (X BK B2 nl i bi : Nat) (g : Int) (V : Value) (PF : Part) (l : List ItemV) (jq : Nat) (v : Value) (w : World) : Prop :=
  match jq with
  | 0 => v = .pointer (some ⟨X, 2, none⟩)
  | 1 => v = V
  | 2 => v = .int .i64 (i : Int)
  | 3 => v = .int .i64 g
  | 4 => v = .agg #[.int .i64 (i : Int), .int .i64 g]
  | 5 => v = .map (some bi)
  | 6 => ∃ a c, v = .slice a nl c ∧ Up BK (fun w => SlAt 2 CompAt w a (listed PF)) w
  | 7 => ∃ a c, v = .agg #[.int .i64 (i : Int), .int .i64 g, .slice a nl c] ∧ Up BK (fun w => SlAt 2 CompAt w a (listed PF)) w
  | 8 => ∃ q a c, v = .slice (some ⟨q, 0, none⟩) 1 1 ∧ CellsAt w (some ⟨q, 0, none⟩) [.int .i64 (i : Int), .int .i64 g, .slice a nl c] ∧ BK ≤ q ∧ Up BK (fun w => EItem w [.int .i64 (i : Int), .int .i64 g, .slice a nl c] ⟨(i : Int), g, listed PF⟩) w
  | 9 => GrowL EItem B2 61 3 w v (l ++ [⟨(i : Int), g, listed PF⟩])
  | 10 => v = .pointer (some ⟨X, 2, none⟩)
  | _ => True
theorem F_cli_mono (X BK B2 nl i bi : Nat) (g : Int) (V : Value) (PF : Part) (l : List ItemV) (hV : ∀ r, V.ownBlock = some r → r < BK) : FactsR (RG 9 V.ownBlock) (F_cli X BK B2 nl i bi g V PF l) := ⟨by
  intro ip jq v w w' hij h hb
  unfold F_cli at h ⊢
  split at h
  all_goals first
    | exact h
    | (obtain ⟨a, c, e, h3⟩ := h; exact ⟨a, c, e, h3.grown hb.gb hV⟩)
    | (obtain ⟨g, a, c, e, h1, h2, h3⟩ := h; exact ⟨g, a, c, e, cells_gbo h1 hb.gb (fun e => by have := hV g e.symm; omega), h2, h3.grown hb.gb hV⟩)
    | exact GrowL.below h (hb.1 hij)
    | trivial⟩

set_option maxHeartbeats 1000000 in
set_option maxRecDepth 20000 in
theorem flat_Close (f : FlatV) (p : Nat) (W : World) (hf : FlatAt W p f) (hk1 : f.kinds.length ≤ 1048576) (hkf : ∀ k ∈ f.kinds, k.fields.length ≤ 1048576) (hg1 : f.gens.length ≤ 1048576) (hpf : ∀ i F, f.parts i = some F → ∀ k L, F k = some L → L.length ≤ 1048576) :
    Calls Tryz.prog 52 #[.pointer (some ⟨p, 0, none⟩)] W fun e w' => (∃ v, e = .returned v ∧ WorldIn w' v (closeV f)) ∧ Below W.heap.size W w' := by
  obtain ⟨ak, ck, ag, cg, base, b, nm, hrow, hzk, hzg, hmo, hk2, hk3⟩ := hf
  obtain ⟨nk, hnk⟩ : ∃ nk, nk = f.kinds.length := ⟨_, rfl⟩
  obtain ⟨ng, hng⟩ : ∃ ng, ng = f.gens.length := ⟨_, rfl⟩
  rw [← hnk] at hrow hk1 hk2
  rw [← hng] at hrow hg1
  have hb0 := (Below.refl W.heap.size W).alloc (Nat.le_refl _) (.cells #[.slice none 0 0, .slice none 0 0, .slice none 0 0] 26)
  have hrow0 := heap_below hrow hb0
  have c1 := cell_of_row _ p 1 _ _ _ hrow0
  have HC := Lib.hid (clone_at f.gens ag ng cg hng.symm (by omega) _ (hzg.below hb0))
  have HROW := Lib.hid hrow
  have HZK := Lib.hid hzk
  have HZG := Lib.hid hzg
  have HMO := Lib.hid hmo
  have NK := Lib.hid hnk
  have NG := Lib.hid hng
  have HKF := Lib.hid hkf
  have HPF := Lib.hid hpf
  have HB0 := Lib.hid hb0
  clear hrow hrow0 hzk hzg hmo hnk hng hkf hpf hb0
  go_enter Tryz.func52, Tryz.ntmps52
  go_wp2_with fail
  refine HC.out.mono ?_
  rintro e w1 ⟨ga, gc, rfl, hgi, hgx, hb1⟩
  have HB1 := Lib.hid (HB0.out.trans (hb1.mono HB0.out.size))
  have HW1 := Lib.hid (show W.heap.size < w1.heap.size by have := hb1.size; rw [World.size_alloc] at this; omega)
  have HGI := Lib.hid hgi
  have HGX := Lib.hid hgx
  have HR00 := Lib.hid (heap_below (heap_alloc_new W (.cells #[.slice none 0 0, .slice none 0 0, .slice none 0 0] 26)) hb1)
  have hrow1 := heap_below HROW.out HB1.out
  have hb2 := (Below.refl w1.heap.size w1).alloc (Nat.le_refl _) (.cells #[.slice none 0 0, .slice ga ng gc, .slice none 0 0] 26)
  have c2 := cell_of_row _ p 0 _ _ _ (heap_below hrow1 hb2)
  clear hgi hgx hb1 HC c1
  go_wp2_with fail
  obtain ⟨X, hX⟩ : ∃ X, X = w1.heap.size := ⟨_, rfl⟩
  have hXW : W.heap.size < X := by rw [hX]; exact HW1.out
  have hx0 := heap_alloc_new w1 (.cells #[.slice none 0 0, .slice ga ng gc, .slice none 0 0] 26)
  rw [← hX] at hx0 ⊢
  have HX0 := Lib.hid hx0
  have HR0 := Lib.hid (show w1.heap[W.heap.size]? = some (.cells #[.slice none 0 0, .slice none 0 0, .slice none 0 0] 26 (0, 0)) from HR00.out)
  have HB2 := Lib.hid hb2
  have HX := Lib.hid hX
  clear hx0 hb2 hX c2 hrow1
  go_loopg [20, 5] nk (fun gk v20 _ wx => ∃ (i : Nat) (V : Value), i ≤ nk ∧ gk = nk - i ∧ v20 = .int .i64 i ∧ wx.heap[X]? = some (.cells #[V, .slice ga ng gc, .slice none 0 0] 26 (0, 0)) ∧ GrowL EKind (X + 1) 86 2 wx V (f.kinds.take i) ∧ Below w1.heap.size w1 wx)
  case atStart => exact ⟨0, _, Nat.zero_le _, rfl, rfl, HX0.out, GrowL.nil _ _ _ _ _, HB2.out⟩
  case round =>
    obtain ⟨i, V, hi0, g2, rfl, hrx, hgr, hb⟩ := hrel
    have G2 := Lib.hid g2
    have HRX := Lib.hid hrx
    have HGR := Lib.hid hgr
    have HB := Lib.hid hb
    clear g2 hrx hgr hb
    by_cases hi : i < nk
    · have hzk1 := HZK.out.below KindAt.abides HB1.out
      obtain ⟨x, rfl, _, _⟩ := HZK.out (by rw [← NK.out]; omega)
      obtain ⟨kb, ko, rfl, af, cf, hck0, hnm, hnc, hcm, hfl⟩ := kind_cells hzk1 i (by rw [← NK.out]; exact hi)
      have hck := hck0.below HB.out
      obtain ⟨y, hy⟩ : ∃ y, y = f.kinds[i]'(by rw [← NK.out]; exact hi) := ⟨_, rfl⟩
      have hyf := HKF.out _ (List.getElem_mem (by rw [← NK.out]; exact hi) : f.kinds[i]'(by rw [← NK.out]; exact hi) ∈ f.kinds)
      rw [← hy] at hck hnm hnc hfl hyf
      obtain ⟨nf, hnf⟩ : ∃ nf, nf = y.fields.length := ⟨_, rfl⟩
      obtain ⟨nmv, hnmv⟩ : ∃ nmv, nmv = y.name := ⟨_, rfl⟩
      rw [← hnf, ← hnmv] at hck
      rw [← hnf] at hyf
      have e0 := hck.at 0 (by simp)
      have e1 := hck.at 1 (by simp)
      simp only [List.getElem_cons_zero, List.getElem_cons_succ, Nat.add_zero] at e0 e1
      have hro := new_row wr #[.string nmv, .slice af nf cf] 86
      have q0 := hro.at 0 (by simp)
      have q1 := hro.at 1 (by simp)
      simp only [List.getElem_cons_zero, List.getElem_cons_succ, Nat.zero_add] at q0 q1
      have hbA : Below wr.heap.size wr (wr.alloc (.cells #[.string nmv, .slice af nf cf] 86 (0, 0))) := (Below.refl _ _).alloc (Nat.le_refl _) _
      have hown : ∀ r, V.ownBlock = some r → X + 1 ≤ r ∧ r < wr.heap.size := fun r h => by obtain ⟨css, hcss⟩ := HGR.out; exact own_lt hcss.2.2.1 r h
      have HXN := Lib.hid (show some X ≠ V.ownBlock from fun e => by have := (hown X e.symm).1; omega)
      have HKN := Lib.hid (show some wr.heap.size ≠ V.ownBlock from fun e => by have := (hown _ e.symm).2; omega)
      have HVB := Lib.hid (show ∀ r, V.ownBlock = some r → r < wr.heap.size from fun r h => (hown r h).2)
      have HXS := Lib.hid (show X + 1 ≤ wr.heap.size from lt_of_heap HRX.out)
      have hrxc := heap_below HRX.out hbA
      have HRXC := Lib.hid hrxc
      have XC := Lib.hid (show (wr.alloc (.cells #[.string nmv, .slice af nf cf] 86 (0, 0))).cell? ⟨X, 0, none⟩ = some V by rw [cell_of_row _ _ 0 _ _ _ hrxc]; rfl)
      have Q0 := Lib.hid q0
      have Q1 := Lib.hid q1
      have HKS := Lib.hid (show wr.heap.size ≤ (wr.alloc (.cells #[.string nmv, .slice af nf cf] 86 (0, 0))).heap.size by simp)
      have HBD := Lib.hid (show Below wr.heap.size wr (wr.alloc (.cells #[.string nmv, .slice af nf cf] 86 (0, 0))).drew from hbA.drew)
      have HCA := Lib.hid (fun (w : World) (a2 : Option Addr) (c2 : Nat) => (fun _ => ⟨_, rfl, by simp, fun j u hu => by
        have := new_row w #[.string nmv, .slice a2 nf c2] 86 j u hu
        rw [add_zero_block]
        simpa using this⟩ : CellsAt (w.alloc (.cells #[.string nmv, .slice a2 nf c2] 86 (0, 0))) (some ⟨w.heap.size, 0, none⟩) [.string nmv, .slice a2 nf c2]))
      have HEK := Lib.hid (fun (a2 : Option Addr) (c2 : Nat) (w : World) (p1 : nf ≤ c2) (p2 : c2 ≤ 9223372036854775807) (p3 : Up wr.heap.size (fun w => SlAt 3 FieldAt w a2 y.fields) w) => (fun w2 hs => ⟨a2, c2, by rw [hnmv, hnf], hnm, by rw [← hnf]; exact p1, p2, p3 w2 hs⟩ : Up wr.heap.size (fun w => EKind w [.string nmv, .slice a2 nf c2] y) w))
      have HLE := Lib.hid (show (f.kinds.take i).length + 1 ≤ maxLen ∧ ((f.kinds.take i).length + 1) * 40 ≤ 140737488355328 by
        have : (f.kinds.take i).length = i := by rw [List.length_take, ← NK.out]; omega
        rw [this]; unfold maxLen; omega)
      have HCL := Lib.hid (fun w' (hb : (wr.alloc (.cells #[.string nmv, .slice af nf cf] 86 (0, 0))).grownBy w' V.ownBlock) => clone_flds y.fields af nf cf hnf.symm hyf w' (hfl.below FieldAt.abides (((HB.out.trans (hbA.mono HB.out.size)).grown hb (HB.out.trans (hbA.mono HB.out.size)).size (fun r h => by have := (hown r h).1; rw [← HX.out]; omega)))))
      have HTK := Lib.hid (show f.kinds.take (i + 1) = f.kinds.take i ++ [y] by rw [List.take_add_one, List.getElem?_eq_getElem (by rw [← NK.out]; exact hi), hy]; rfl)
      have HBA := Lib.hid hbA
      clear hck hck0 hro q0 q1 hbA hown hrxc hnf hnmv hyf hfl hnm hnc hzk1 hy
      go_wp2_with fail
      refine wp_region_facts_r rfl 11 (by kernel_rfl) (fun a b => World.grownBy a b V.ownBlock) (gb_drew _ _) (fun _ _ _ h h2 => h.trans h2) (RG 9 V.ownBlock) RG.sub (F_clk X wr.heap.size nf cf af nmv V y (f.kinds.take i)) (F_clk_mono X wr.heap.size nf cf af nmv V y (f.kinds.take i) HVB.out) 9 (fun w => Below wr.heap.size wr w) (HBD.out) (fun i a b hi h ho => ho.trans ((h.1 hi).mono ho.size)) ?_ ?_
      · refine ⟨?_, ?_, ?_, ?_, ?_, ?_, ?_, ?_, ?_, ?_, ?_, trivial⟩
        · intro vs w' F hb hd hF hl hT hq
          have e := (hF 3).trans (look_out _ 3 _ _ (by kernel_rfl))
          exact one_field _ _ _ rfl rfl _ _ e (0) (fun w => by kernel_rfl) ⟨_, rfl, RG.same _ _ _ _, rfl⟩
        · intro vs w' F hb hd hF hl hT hq
          have e := ((hF 24).trans (look_at _ 24 0 _ _ (by kernel_rfl) (by kernel_rfl) hl)).trans (dep_of (Fact := F_clk X wr.heap.size nf cf af nmv V y (f.kinds.take i)) hd 0 (by kernel_rfl))
          exact one_load _ _ rfl rfl _ _ e (World.grownBy.cell hb XC.out HXN.out) (by kernel_rfl) ⟨_, rfl, RG.same _ _ _ _, rfl⟩
        · intro vs w' F hb hd hF hl hT hq
          have e := (hF 5).trans (look_out _ 5 _ _ (by kernel_rfl))
          exact one_field _ _ _ rfl rfl _ _ e (0) (fun w => by kernel_rfl) ⟨_, rfl, RG.same _ _ _ _, rfl⟩
        · intro vs w' F hb hd hF hl hT hq
          have e := ((hF 26).trans (look_at _ 26 2 _ _ (by kernel_rfl) (by kernel_rfl) hl)).trans (dep_of (Fact := F_clk X wr.heap.size nf cf af nmv V y (f.kinds.take i)) hd 2 (by kernel_rfl))
          exact one_load _ _ rfl rfl _ _ e (World.grownBy.cell hb Q0.out HKN.out) (by kernel_rfl) ⟨_, rfl, RG.same _ _ _ _, rfl⟩
        · intro vs w' F hb hd hF hl hT hq
          have e := (hF 5).trans (look_out _ 5 _ _ (by kernel_rfl))
          exact one_field _ _ _ rfl rfl _ _ e (1) (fun w => by kernel_rfl) ⟨_, rfl, RG.same _ _ _ _, rfl⟩
        · intro vs w' F hb hd hF hl hT hq
          have e := ((hF 28).trans (look_at _ 28 4 _ _ (by kernel_rfl) (by kernel_rfl) hl)).trans (dep_of (Fact := F_clk X wr.heap.size nf cf af nmv V y (f.kinds.take i)) hd 4 (by kernel_rfl))
          exact one_load _ _ rfl rfl _ _ e (World.grownBy.cell hb Q1.out HKN.out) (by kernel_rfl) ⟨_, rfl, RG.same _ _ _ _, rfl⟩
        · intro vs w' F hb hd hF hl hT hq
          have e1 := (((hF 29).trans (look_at _ 29 5 _ _ (by kernel_rfl) (by kernel_rfl) hl)).trans (dep_of (Fact := F_clk X wr.heap.size nf cf af nmv V y (f.kinds.take i)) hd 5 (by kernel_rfl)))
          refine one_call _ _ rfl rfl (enters_of Tryz.func50 (by kernel_rfl) rfl) #[.slice af nf cf] (eval1 e1) ?_
          refine (HCL.out w' hb).mono ?_
          rintro e2 w2 ⟨a2, c2, rfl, p1, p2, p3, hb2⟩
          exact ⟨_, rfl, _, rfl, RG.below (by decide) hb2, a2, c2, rfl, p1, p2, p3.lower (Nat.le_trans HKS.out hb.size)⟩
        · intro vs w' F hb hd hF hl hT hq
          obtain ⟨a2, c2, hv2, hr2⟩ := (dep_of (Fact := F_clk X wr.heap.size nf cf af nmv V y (f.kinds.take i)) hd 6 (by kernel_rfl))
          have e1 := (((hF 27).trans (look_at _ 27 3 _ _ (by kernel_rfl) (by kernel_rfl) hl)).trans (dep_of (Fact := F_clk X wr.heap.size nf cf af nmv V y (f.kinds.take i)) hd 3 (by kernel_rfl)))
          have e2 := ((hF 30).trans (look_at _ 30 6 _ _ (by kernel_rfl) (by kernel_rfl) hl)).trans hv2
          exact one_build _ _ rfl rfl #[(0, .string nmv), (1, .slice a2 nf c2)] (parts2 e1 e2) (.agg #[.string nmv, .slice a2 nf c2]) (fun w => by kernel_rfl) ⟨_, rfl, RG.same _ _ _ _, a2, c2, rfl, hr2⟩
        · intro vs w' F hb hd hF hl hT hq
          obtain ⟨a2, c2, hv2, p1, p2, p3⟩ := (dep_of (Fact := F_clk X wr.heap.size nf cf af nmv V y (f.kinds.take i)) hd 7 (by kernel_rfl))
          have ex := ((hF 31).trans (look_at _ 31 7 _ _ (by kernel_rfl) (by kernel_rfl) hl)).trans hv2
          exact rg_slice_kind 22 86 _ rfl rfl nmv a2 nf c2 ex Tryz.underlying22 (by kernel_rfl) ⟨_, rfl, RG.below (by decide) ((Below.refl _ _).alloc (Nat.le_refl _) _), _, a2, c2, rfl, HCA.out _ _ _, Nat.le_trans HKS.out hb.size, HEK.out a2 c2 _ p1 p2 (p3.below ((Below.refl _ _).alloc (Nat.le_refl _) _))⟩
        · intro vs w' F hb hd hF hl hT hq
          obtain ⟨g, a2, c2, hv2, hcl, hg, hup⟩ := (dep_of (Fact := F_clk X wr.heap.size nf cf af nmv V y (f.kinds.take i)) hd 8 (by kernel_rfl))
          have g0 := (((hF 25).trans (look_at _ 25 1 _ _ (by kernel_rfl) (by kernel_rfl) hl)).trans (dep_of (Fact := F_clk X wr.heap.size nf cf af nmv V y (f.kinds.take i)) hd 1 (by kernel_rfl)))
          have g4 := ((hF 32).trans (look_at _ 32 8 _ _ (by kernel_rfl) (by kernel_rfl) hl)).trans hv2
          have hbw := hq rfl
          obtain ⟨css, hcss⟩ := HGR.out
          have hown := own_bel hcss.2.2.1 hbw
          refine wpList_append_cells rfl _ _ 22 rfl (X + 1) 86 (.agg #[.string ByteArray.empty, .slice none 0 0]) 2 40 Tryz.underlying22 (by kernel_rfl) rfl (by decide) V _ css.flatten g0 hown (some ⟨g, 0, none⟩) 1 1 [.string nmv, .slice a2 nf c2] g4 rfl hcl (by simp [Value.oneCell']) HLE.out.1 HLE.out.2 (Nat.le_trans HXS.out hbw.size) ?_
          intro v2 w2 hown2 hg2 hor2
          exact ⟨_, rfl, RG.at_ rfl hg2, GrowL.push2 HGR.out HXS.out hbw _ y rfl (Win.ofUp hup) hcss hown2 hg2 hor2⟩
        · intro vs w' F hb hd hF hl hT hq
          have e := (hF 3).trans (look_out _ 3 _ _ (by kernel_rfl))
          exact one_field _ _ _ rfl rfl _ _ e (0) (fun w => by kernel_rfl) ⟨_, rfl, RG.same _ _ _ _, rfl⟩
      · intro vs8 W8 hl hb hI
        have i9 : GrowL EKind (X + 1) 86 2 W8 (vs8.getD 9 undef) (f.kinds.take i ++ [y]) := hI 9 (by omega)
        have i10 : vs8.getD 10 undef = .pointer (some ⟨X, 0, none⟩) := hI 10 (by omega)
        obtain ⟨x0, x1, x2, x3, x4, x5, x6, x7, x8, x9, x10, x11, hvs⟩ := list12 hl
        subst hvs
        replace i9 : GrowL EKind (X + 1) 86 2 W8 x9 (f.kinds.take i ++ [y]) := i9
        replace i10 : x10 = .pointer (some ⟨X, 0, none⟩) := i10
        subst i10
        have hrx8 : W8.heap[X]? = some (.cells #[V, .slice ga ng gc, .slice none 0 0] 26 (0, 0)) := (hb.block X (lt_of_heap HRXC.out) HXN.out).trans HRXC.out
        have c8 : W8.cell? ⟨X, 0, none⟩ = some V := by rw [cell_of_row _ _ 0 _ _ _ hrx8]; rfl
        have f8 : W8.frozen? ⟨X, 0, none⟩ = false := Mem.frozen_of_row hrx8 _
        obtain ⟨a9, c9, hx9, _, _⟩ := GrowL.slice i9
        obtain ⟨n9, hn9⟩ : ∃ n9, n9 = (f.kinds.take i ++ [y]).length := ⟨_, rfl⟩
        rw [← hn9] at hx9
        clear hn9
        subst hx9
        have HI9 := Lib.hid i9
        have HRX8 := Lib.hid hrx8
        have HB8 := Lib.hid ((HB.out.trans (HBA.out.mono HB.out.size)).grown hb (HB.out.trans (HBA.out.mono HB.out.size)).size (fun r h => by obtain ⟨css, hcss⟩ := HGR.out; have := (own_lt hcss.2.2.1 r h).1; rw [← HX.out]; omega))
        clear i9 hI hl hb hrx8 HCL HEK HCA
        simp only [fillAll, Act.put, List.setIfInBounds_toArray, List.set_cons_succ, List.set_cons_zero, List.drop_succ_cons, List.drop_zero]
        go_wp2_with fail
        go_roundg (nk - (i + 1))
        case measure => rw [G2.out]; omega
        case rel => exact ⟨i + 1, _, hi, rfl, by go_num, Mem.heap_set HRX8.out 0 _, by rw [HTK.out]; exact HI9.out.frame (by simp) (fun g g1 g2 => Below.heap_setCell _ _ _ _ (by simp only; omega)), HB8.out.setCell (by rw [← HX.out]; exact Nat.le_refl _) _⟩
    · obtain rfl : nk = i := by omega
      have hgrk : GrowL EKind (X + 1) 86 2 wr V f.kinds := by have h := HGR.out; rw [List.take_of_length_le (by rw [← NK.out]; exact Nat.le_refl _)] at h; exact h
      obtain ⟨ka, kc, hkv, hkc1, hkc2⟩ := GrowL.slice hgrk
      have huk := GrowL.up EKind.at hgrk ka kc hkv
      rw [← NK.out] at hkv hkc1
      subst hkv
      obtain ⟨W2, hW2⟩ : ∃ W2, W2 = wr := ⟨_, rfl⟩
      subst hW2
      have hbr : Below W.heap.size W W2 := HB1.out.trans (HB.out.mono HB1.out.size)
      have c1 := cell_of_row _ p 1 _ _ _ (heap_below HROW.out hbr)
      have HUK := Lib.hid huk
      have HBR := Lib.hid hbr
      have HKC := Lib.hid (And.intro hkc1 hkc2)
      have HX2 := Lib.hid (lt_of_heap HRX.out)
      have HR2 := Lib.hid (heap_below HR0.out HB.out)
      have HGI2 := Lib.hid (HGI.out.below HB.out)
      clear hgrk huk hbr hkc1 hkc2 HGR HB HKF G2
      go_wp2_with fail
      go_loopg [41, 6, 7, 8] ng (fun gk v41 _ _ _ wx => ∃ (i : Nat) (V : Value), i ≤ ng ∧ gk = ng - i ∧ v41 = .int .i64 i ∧ wx.heap[X]? = some (.cells #[.slice ka nk kc, .slice ga ng gc, V] 26 (0, 0)) ∧ GrowL EItem W2.heap.size 61 3 wx V (closeTo f i) ∧ W2.grownBy wx (some X))
      case atStart => exact ⟨0, _, Nat.zero_le _, rfl, rfl, HRX.out, GrowL.nil _ _ _ _ _, World.grownBy.refl _ _⟩
      case round =>
        clear c1 HRX
        obtain ⟨i, V, hi0, g2, rfl, hrx, hgr, hb⟩ := hrel
        have G2 := Lib.hid g2
        have HRX := Lib.hid hrx
        have HGR := Lib.hid hgr
        have HB := Lib.hid hb
        have hbr : Below W.heap.size W wr := HBR.out.grown hb HBR.out.size (fun r h => by injection h with h; rw [← h]; omega)
        have HBW := Lib.hid hbr
        have HSZ := Lib.hid hb.size
        clear g2 hrx hgr hb hbr
        by_cases hi : i < ng
        · obtain ⟨x, rfl, _, _⟩ := HZG.out (by rw [← NG.out]; omega)
          obtain ⟨gb, go, rfl, hgc⟩ := ints_cell (HZG.out.below HBW.out) i (by rw [← NG.out]; exact hi)
          obtain ⟨g, hg⟩ : ∃ g, g = f.gens.getD i 0 := ⟨_, rfl⟩
          rw [← hg] at hgc
          rw [Nat.mul_one] at hgc
          obtain ⟨ob, hlk, hln, hls⟩ := MapO.look HMO.out i (by omega)
          have c2 := cell_of_row _ p 2 _ _ _ (heap_below HROW.out HBW.out)
          have hlk2 := hlk wr HBW.out
          have hq := fun wx => run_neq_map_nil (P := Tryz.prog) wx 37 _ _ ob Tryz.underlying37
          have HGD := Lib.hid hg
          have HLS := Lib.hid hls
          have HLN := Lib.hid hln
          clear hg hls hln hlk
          cases hG : f.parts i with
          | none =>
            obtain rfl := HLN.out hG
            have HCT := Lib.hid (show closeTo f (i + 1) = closeTo f i by rw [closeTo, hG]; exact List.append_nil _)
            replace hq : ∀ wx, (binOp .neq 37 (.map none) (.map none)).run Tryz.prog wx = .ok (.bool false) wx := hq
            clear hG
            go_wp2_with fail
            go_roundg (ng - (i + 1))
            case measure => rw [G2.out]; omega
            case rel => exact ⟨i + 1, V, hi, rfl, by go_num, HRX.out, by rw [HCT.out]; exact HGR.out, HB.out⟩
          | some PF =>
            obtain ⟨bi, m, rfl, hmi⟩ := HLS.out PF hG
            have HCT := Lib.hid (show closeTo f (i + 1) = closeTo f i ++ [⟨(i : Int), g, listed PF⟩] by rw [closeTo, hG, ← HGD.out])
            have HPF2 := Lib.hid (HPF.out i PF hG)
            replace hq : ∀ wx, (binOp .neq 37 (.map (some bi)) (.map none)).run Tryz.prog wx = .ok (.bool true) wx := hq
            clear hG
            have hown : ∀ r, V.ownBlock = some r → W2.heap.size ≤ r ∧ r < wr.heap.size := fun r h => by obtain ⟨css, hcss⟩ := HGR.out; exact own_lt hcss.2.2.1 r h
            have hx2 := HX2.out
            have HXN := Lib.hid (show some X ≠ V.ownBlock from fun e => by have := (hown X e.symm).1; omega)
            have HVB := Lib.hid (show ∀ r, V.ownBlock = some r → r < wr.heap.size from fun r h => (hown r h).2)
            have HVL := Lib.hid (show ∀ r, V.ownBlock = some r → W.heap.size ≤ r from fun r h => by have := (hown r h).1; omega)
            have XC := Lib.hid (show wr.cell? ⟨X, 2, none⟩ = some V by rw [cell_of_row _ _ 2 _ _ _ HRX.out]; rfl)
            obtain ⟨nl, hnl⟩ : ∃ nl, nl = (listed PF).length := ⟨_, rfl⟩
            have HNL := Lib.hid hnl
            have HLC := Lib.hid (fun w' (hb : wr.grownBy w' V.ownBlock) => ref_Listed PF bi m HPF2.out w' (hmi w' (HBW.out.grown hb HBW.out.size HVL.out)))
            have HCA := Lib.hid (fun (w : World) (a2 : Option Addr) (c2 : Nat) => (fun _ => ⟨_, rfl, by simp, fun j u hu => by
              have := new_row w #[.int .i64 (i : Int), .int .i64 g, .slice a2 nl c2] 61 j u hu
              rw [add_zero_block]
              simpa using this⟩ : CellsAt (w.alloc (.cells #[.int .i64 (i : Int), .int .i64 g, .slice a2 nl c2] 61 (0, 0))) (some ⟨w.heap.size, 0, none⟩) [.int .i64 (i : Int), .int .i64 g, .slice a2 nl c2]))
            have HEK := Lib.hid (fun (a2 : Option Addr) (c2 : Nat) (w : World) (p3 : Up wr.heap.size (fun w => SlAt 2 CompAt w a2 (listed PF)) w) => (fun w2 hs => ⟨a2, c2, by rw [hnl], p3 w2 hs⟩ : Up wr.heap.size (fun w => EItem w [.int .i64 (i : Int), .int .i64 g, .slice a2 nl c2] ⟨(i : Int), g, listed PF⟩) w))
            have HLE := Lib.hid (show (closeTo f i).length + 1 ≤ maxLen ∧ ((closeTo f i).length + 1) * 40 ≤ 140737488355328 by
              have := closeTo_len f i
              unfold maxLen; omega)
            have HBD := Lib.hid (show Below wr.heap.size wr wr.drew from (Below.refl _ _).drew)
            clear hmi hnl hown hx2
            go_wp2_with fail
            clear hq hgc c2 hlk2
            refine wp_region_facts_r rfl 11 (by kernel_rfl) (fun a b => World.grownBy a b V.ownBlock) (gb_drew _ _) (fun _ _ _ h h2 => h.trans h2) (RG 9 V.ownBlock) RG.sub (F_cli X wr.heap.size W2.heap.size nl i bi g V PF (closeTo f i)) (F_cli_mono X wr.heap.size W2.heap.size nl i bi g V PF (closeTo f i) HVB.out) 9 (fun w => Below wr.heap.size wr w) (HBD.out) (fun i a b hi h ho => ho.trans ((h.1 hi).mono ho.size)) ?_ ?_
            · refine ⟨?_, ?_, ?_, ?_, ?_, ?_, ?_, ?_, ?_, ?_, ?_, trivial⟩
              · intro vs w' F hb hd hF hl hT hq
                have e := (hF 3).trans (look_out _ 3 _ _ (by kernel_rfl))
                exact one_field _ _ _ rfl rfl _ _ e (2) (fun w => by kernel_rfl) ⟨_, rfl, RG.same _ _ _ _, rfl⟩
              · intro vs w' F hb hd hF hl hT hq
                have e := ((hF 54).trans (look_at _ 54 0 _ _ (by kernel_rfl) (by kernel_rfl) hl)).trans (dep_of (Fact := F_cli X wr.heap.size W2.heap.size nl i bi g V PF (closeTo f i)) hd 0 (by kernel_rfl))
                exact one_load _ _ rfl rfl _ _ e (World.grownBy.cell hb XC.out HXN.out) (by kernel_rfl) ⟨_, rfl, RG.same _ _ _ _, rfl⟩
              · intro vs w' F hb hd hF hl hT hq
                have e := (hF 6).trans (look_out _ 6 _ _ (by kernel_rfl))
                exact one_move _ rfl (by first | exact Or.inl rfl | exact Or.inr rfl) ⟨_, rfl, RG.same _ _ _ _, e⟩
              · intro vs w' F hb hd hF hl hT hq
                have e := (hF 7).trans (look_out _ 7 _ _ (by kernel_rfl))
                exact one_move _ rfl (by first | exact Or.inl rfl | exact Or.inr rfl) ⟨_, rfl, RG.same _ _ _ _, e⟩
              · intro vs w' F hb hd hF hl hT hq
                have e1 := (((hF 56).trans (look_at _ 56 2 _ _ (by kernel_rfl) (by kernel_rfl) hl)).trans (dep_of (Fact := F_cli X wr.heap.size W2.heap.size nl i bi g V PF (closeTo f i)) hd 2 (by kernel_rfl)))
                have e2 := (((hF 57).trans (look_at _ 57 3 _ _ (by kernel_rfl) (by kernel_rfl) hl)).trans (dep_of (Fact := F_cli X wr.heap.size W2.heap.size nl i bi g V PF (closeTo f i)) hd 3 (by kernel_rfl)))
                exact one_build _ _ rfl rfl #[(0, .int .i64 (i : Int)), (1, .int .i64 g)] (parts2 e1 e2) (.agg #[.int .i64 (i : Int), .int .i64 g]) (fun w => by kernel_rfl) ⟨_, rfl, RG.same _ _ _ _, rfl⟩
              · intro vs w' F hb hd hF hl hT hq
                have e := (hF 8).trans (look_out _ 8 _ _ (by kernel_rfl))
                exact one_move _ rfl (by first | exact Or.inl rfl | exact Or.inr rfl) ⟨_, rfl, RG.same _ _ _ _, e⟩
              · intro vs w' F hb hd hF hl hT hq
                have e1 := (((hF 59).trans (look_at _ 59 5 _ _ (by kernel_rfl) (by kernel_rfl) hl)).trans (dep_of (Fact := F_cli X wr.heap.size W2.heap.size nl i bi g V PF (closeTo f i)) hd 5 (by kernel_rfl)))
                refine one_call _ _ rfl rfl (enters_of Tryz.func11 (by kernel_rfl) rfl) #[.map (some bi)] (eval1 e1) ?_
                refine (HLC.out w' hb).mono ?_
                rintro e2 w2 ⟨⟨a2, c2, rfl, p3⟩, hb2⟩
                exact ⟨_, rfl, _, rfl, RG.below (by decide) hb2, a2, c2, by rw [HNL.out], p3.lower hb.size⟩
              · intro vs w' F hb hd hF hl hT hq
                obtain ⟨a2, c2, hv2, hr2⟩ := (dep_of (Fact := F_cli X wr.heap.size W2.heap.size nl i bi g V PF (closeTo f i)) hd 6 (by kernel_rfl))
                have e1 := (((hF 58).trans (look_at _ 58 4 _ _ (by kernel_rfl) (by kernel_rfl) hl)).trans (dep_of (Fact := F_cli X wr.heap.size W2.heap.size nl i bi g V PF (closeTo f i)) hd 4 (by kernel_rfl)))
                have e2 := ((hF 60).trans (look_at _ 60 6 _ _ (by kernel_rfl) (by kernel_rfl) hl)).trans hv2
                exact one_build _ _ rfl rfl #[(0, .agg #[.int .i64 (i : Int), .int .i64 g]), (1, .slice a2 nl c2)] (parts2 e1 e2) (.agg #[.int .i64 (i : Int), .int .i64 g, .slice a2 nl c2]) (fun w => by kernel_rfl) ⟨_, rfl, RG.same _ _ _ _, a2, c2, rfl, hr2⟩
              · intro vs w' F hb hd hF hl hT hq
                obtain ⟨a2, c2, hv2, p3⟩ := (dep_of (Fact := F_cli X wr.heap.size W2.heap.size nl i bi g V PF (closeTo f i)) hd 7 (by kernel_rfl))
                have ex := ((hF 61).trans (look_at _ 61 7 _ _ (by kernel_rfl) (by kernel_rfl) hl)).trans hv2
                exact rg_slice_item 24 61 _ rfl rfl (i : Int) g a2 nl c2 ex Tryz.underlying24 (by kernel_rfl) ⟨_, rfl, RG.below (by decide) ((Below.refl _ _).alloc (Nat.le_refl _) _), _, a2, c2, rfl, HCA.out _ _ _, hb.size, HEK.out a2 c2 _ (p3.below ((Below.refl _ _).alloc (Nat.le_refl _) _))⟩
              · intro vs w' F hb hd hF hl hT hq
                obtain ⟨q, a2, c2, hv2, hcl, hg, hup⟩ := (dep_of (Fact := F_cli X wr.heap.size W2.heap.size nl i bi g V PF (closeTo f i)) hd 8 (by kernel_rfl))
                have g0 := (((hF 55).trans (look_at _ 55 1 _ _ (by kernel_rfl) (by kernel_rfl) hl)).trans (dep_of (Fact := F_cli X wr.heap.size W2.heap.size nl i bi g V PF (closeTo f i)) hd 1 (by kernel_rfl)))
                have g4 := ((hF 62).trans (look_at _ 62 8 _ _ (by kernel_rfl) (by kernel_rfl) hl)).trans hv2
                have hbw := hq rfl
                obtain ⟨css, hcss⟩ := HGR.out
                have hown := own_bel hcss.2.2.1 hbw
                refine wpList_append_cells rfl _ _ 24 rfl W2.heap.size 61 (.agg #[.int .i64 0, .int .i64 0, .slice none 0 0]) 3 40 Tryz.underlying24 (by kernel_rfl) rfl (by decide) V _ css.flatten g0 hown (some ⟨q, 0, none⟩) 1 1 [.int .i64 (i : Int), .int .i64 g, .slice a2 nl c2] g4 rfl hcl (by simp [Value.oneCell']) HLE.out.1 HLE.out.2 (Nat.le_trans HSZ.out hbw.size) ?_
                intro v2 w2 hown2 hg2 hor2
                exact ⟨_, rfl, RG.at_ rfl hg2, GrowL.push2 HGR.out HSZ.out hbw _ ⟨(i : Int), g, listed PF⟩ rfl (Win.ofUp hup) hcss hown2 hg2 hor2⟩
              · intro vs w' F hb hd hF hl hT hq
                have e := (hF 3).trans (look_out _ 3 _ _ (by kernel_rfl))
                exact one_field _ _ _ rfl rfl _ _ e (2) (fun w => by kernel_rfl) ⟨_, rfl, RG.same _ _ _ _, rfl⟩
            · intro vs8 W8 hl hb hI
              have i9 : GrowL EItem W2.heap.size 61 3 W8 (vs8.getD 9 undef) (closeTo f i ++ [⟨(i : Int), g, listed PF⟩]) := hI 9 (by omega)
              have i10 : vs8.getD 10 undef = .pointer (some ⟨X, 2, none⟩) := hI 10 (by omega)
              obtain ⟨x0, x1, x2, x3, x4, x5, x6, x7, x8, x9, x10, x11, hvs⟩ := list12 hl
              subst hvs
              replace i9 : GrowL EItem W2.heap.size 61 3 W8 x9 (closeTo f i ++ [⟨(i : Int), g, listed PF⟩]) := i9
              replace i10 : x10 = .pointer (some ⟨X, 2, none⟩) := i10
              subst i10
              have hrx8 : W8.heap[X]? = some (.cells #[.slice ka nk kc, .slice ga ng gc, V] 26 (0, 0)) := (hb.block X (lt_of_heap HRX.out) HXN.out).trans HRX.out
              have c8 : W8.cell? ⟨X, 2, none⟩ = some V := by rw [cell_of_row _ _ 2 _ _ _ hrx8]; rfl
              have f8 : W8.frozen? ⟨X, 2, none⟩ = false := Mem.frozen_of_row hrx8 _
              obtain ⟨a9, c9, hx9, _, _⟩ := GrowL.slice i9
              obtain ⟨n9, hn9⟩ : ∃ n9, n9 = (closeTo f i ++ [(⟨(i : Int), g, listed PF⟩ : ItemV)]).length := ⟨_, rfl⟩
              rw [← hn9] at hx9
              clear hn9
              subst hx9
              have HI9 := Lib.hid i9
              have HRX8 := Lib.hid hrx8
              have HB8 := Lib.hid (show W2.grownBy W8 (some X) from gb_row HB.out hb (fun r h => by obtain ⟨css, hcss⟩ := HGR.out; exact (own_lt hcss.2.2.1 r h).1))
              clear i9 hI hl hb hrx8 HLC HEK HCA
              simp only [fillAll, Act.put, List.setIfInBounds_toArray, List.set_cons_succ, List.set_cons_zero, List.drop_succ_cons, List.drop_zero]
              go_wp2_with fail
              go_roundg (ng - (i + 1))
              case measure => rw [G2.out]; omega
              case rel => exact ⟨i + 1, _, hi, rfl, by go_num, Mem.heap_set HRX8.out 2 _, by rw [HCT.out]; exact HI9.out.frame (by simp) (fun g g1 g2 => Below.heap_setCell _ _ _ _ (by have := HX2.out; simp only; omega)), gb_set HB8.out 2 _⟩
        · obtain rfl : i = ng := by omega
          obtain ⟨ia, ic, hiv, _, _⟩ := GrowL.slice HGR.out
          have hui := GrowL.up EItem.at HGR.out ia ic hiv
          obtain ⟨ni, hni⟩ : ∃ ni, ni = (closeTo f i).length := ⟨_, rfl⟩
          rw [← hni] at hiv
          subst hiv
          have HNI := Lib.hid hni
          have HUI := Lib.hid hui
          have HRR := Lib.hid (show wr.heap[W.heap.size]? = some (.cells #[.slice none 0 0, .slice none 0 0, .slice none 0 0] 26 (0, 0)) from (HB.out.block _ (lt_of_heap HR2.out) (fun e => by injection e with e; omega)).trans HR2.out)
          have e0 := cell_of_row _ _ 0 _ _ _ HRX.out
          have e1 := cell_of_row _ _ 1 _ _ _ HRX.out
          have e2 := cell_of_row _ _ 2 _ _ _ HRX.out
          clear hui hni HGR
          go_wp2_with (refine wpList_store_rowP rfl 26 (.tmp 2) (.tmp 66) rfl W.heap.size #[.slice ka nk kc, .slice ga i gc, .slice ia ni ic] rfl rfl _ _ HRR.out (by kernel_rfl) rfl (ones3 _ _ _ rfl rfl rfl) ?_; intro W9 hput; have HPUT := Lib.hid hput; clear hput)
          have hput := HPUT.out
          have hx2 := HX2.out
          have hsz := HSZ.out
          refine bodyPost_ret (results_cell_row Tryz.results52 _ _ W.heap.size 26 _ (0, 0) _ rfl hput.here Tryz.underlying26 rfl (by kernel_rfl)) rfl ⟨⟨_, rfl, ?_⟩, HBW.out.trans (hput.below (Nat.le_refl _))⟩
          have hg9 : wr.grownBy W9 (some W.heap.size) := ⟨hput.os, hput.tape, hput.output, by rw [hput.size]; exact Nat.le_refl _, fun k hk hne => hput.else_ k (fun e => hne (by rw [e]))⟩
          refine ⟨ka, kc, ga, gc, ia, ic, by rw [show (closeV f).kinds.length = nk from NK.out.symm, show (closeV f).gens.length = i from NG.out.symm, show (closeV f).items.length = ni by rw [HNI.out, NG.out]; rfl], ?_, ?_, ?_, by rw [show (closeV f).kinds.length = nk from NK.out.symm]; exact HKC.out.1, HKC.out.2⟩
          · exact HUK.out W9 ⟨by rw [hput.size]; exact hsz, fun g h1 h2 => (hput.else_ g (by omega)).trans (HB.out.block g h2 (fun e => by injection e with e; omega))⟩
          · have hi2 := HGI2.out
            have hgw : ∀ x, ga = some x → W.heap.size < x.block := fun x e => by have := HGX.out x e; rw [World.size_alloc] at this; omega
            intro h0
            obtain ⟨x, ex, hxl, _⟩ := HGI.out h0
            exact ints_gbp (ints_gbp hi2 HB.out (fun y ey _ e => by rw [ex] at ey; injection ey with ey; subst ey; injection e with e; rw [e, HX.out] at hxl; omega)) hg9 (fun y ey _ e => by injection e with e; have := hgw y ey; omega) h0
          · have := HUI.out W9 ⟨by rw [hput.size]; exact Nat.le_refl _, fun g h1 h2 => hput.else_ g (by omega)⟩
            rw [show (closeV f).items = closeTo f i by rw [NG.out]; rfl]
            exact this
end Go.Proofs.YtfckbkhnelgjbaaGreatDoor
end
