/- query.All's iterator. By program (gen_qit.py). -/
import Derived.RangeFuncNested
import Derived.RangeFuncBound
import Derived.RangeFuncCalls
import Derived.RangeFuncLeaves
import Derived.RangeFuncBox
import Derived.Shelf.Abstract
import Derived.Shelf.RegionOpen
import Derived.OwnWalkIn
import Derived.TacticsInMore
import Derived.LoopNIn
import Derived.LoopIn
import Derived.Test.YtlahmcbaiebapaaQAll
import Derived.Test.YtlahmcbaiebapaaRangeC
import Derived.Test.YtlahmcbaiebapaaRegIter
namespace Go.Proofs.Ytlahmcbaiebapaa
open Go.ChangeShapes Go.WideShapes Go.ChangeAt Go.RowKit Go.Mem
set_option linter.unusedVariables false
attribute [local go_sem] Oper.semAt_some
/-- The blocks from lo up to hi are kept. -/
def KeepB (lo hi : Nat) (w w2 : World) : Prop := w.heap.size ≤ w2.heap.size ∧ ∀ k, lo ≤ k → k < hi → w2.heap[k]? = w.heap[k]?
theorem KeepB.refl (lo hi : Nat) (w : World) : KeepB lo hi w w := ⟨Nat.le_refl _, fun _ _ _ => rfl⟩
theorem KeepB.trans {lo hi : Nat} {a b c : World} (h : KeepB lo hi a b) (h2 : KeepB lo hi b c) : KeepB lo hi a c := ⟨Nat.le_trans h.1 h2.1, fun k k1 k2 => (h2.2 k k1 k2).trans (h.2 k k1 k2)⟩
theorem KeepB.of_below {lo hi n : Nat} {a b : World} (h : Below n a b) (hn : hi ≤ n) : KeepB lo hi a b := ⟨h.size, fun k _ k2 => h.block k (by omega)⟩
theorem KeepB.put {lo hi : Nat} {w : World} (hn : hi ≤ w.heap.size) (W : World) (l : Nat) (o o' : Obj) (hl : w.heap.size ≤ l) (h : W.heap[l]? = some o) (_ : o.isCells = false) (_ : o.isWalk = false) : KeepB lo hi W (W.putObj l o') := by
  have hb := belowK_b (n₀ := w.heap.size) (w := w) (Nat.le_refl _) W l o o' hl h ‹_› ‹_›
  exact .of_below hb hn
/-- a row as it is handed over: with the address of its components -/
abbrev HandQ := RowQ × Option Addr
def encQ (x : HandQ) : Array Value := #[.int .i64 (x.1.1 : Int), .agg #[.int .i64 x.1.2.n, .int .i64 x.1.2.gen, .slice x.2 x.1.2.comps.length x.1.2.comps.length]]
def CQ (rows : List RowQ) (x : HandQ) (W : World) : Prop := x.1 ∈ rows ∧ SlAt 2 CompAt W x.2 x.1.2.comps
theorem take_map {rows : List RowQ} {l : List HandQ} {k : Nat} (hk : k < rows.length) (h : l.map (·.1) = rows.take k) (a : Option Addr) : (l ++ [(rows[k], a)]).map (·.1) = rows.take (k + 1) := by
  rw [List.map_append, h, List.take_succ_eq_append_getElem hk]; rfl
theorem list13 {α : Type} {vs : List α} (h : vs.length = 13) : ∃ x0 x1 x2 x3 x4 x5 x6 x7 x8 x9 x10 x11 x12, vs = [x0, x1, x2, x3, x4, x5, x6, x7, x8, x9, x10, x11, x12] := by
  obtain ⟨x0, t0, rfl, h0⟩ := cons_of h
  obtain ⟨x1, t1, rfl, h1⟩ := cons_of h0
  obtain ⟨x2, t2, rfl, h2⟩ := cons_of h1
  obtain ⟨x3, t3, rfl, h3⟩ := cons_of h2
  obtain ⟨x4, t4, rfl, h4⟩ := cons_of h3
  obtain ⟨x5, t5, rfl, h5⟩ := cons_of h4
  obtain ⟨x6, t6, rfl, h6⟩ := cons_of h5
  obtain ⟨x7, t7, rfl, h7⟩ := cons_of h6
  obtain ⟨x8, t8, rfl, h8⟩ := cons_of h7
  obtain ⟨x9, t9, rfl, h9⟩ := cons_of h8
  obtain ⟨x10, t10, rfl, h10⟩ := cons_of h9
  obtain ⟨x11, t11, rfl, h11⟩ := cons_of h10
  obtain ⟨x12, t12, rfl, h12⟩ := cons_of h11
  exact ⟨x0, x1, x2, x3, x4, x5, x6, x7, x8, x9, x10, x11, x12, by rw [List.eq_nil_of_length_eq_zero h12]⟩
def F_qi3 (l bi qi nc : Nat) (yn yg : Int) (ac : Option Addr) (cs : List CompV) (jq : Nat) (v : Value) (w : World) : Prop :=
  match jq with
  | 0 => v = .func (.yield l) #[] #[]
  | 1 => v = .pointer (some ⟨bi, 0, none⟩)
  | 2 => v = .int .i64 (qi : Int)
  | 3 => v = .pointer (some ⟨bi, 1, none⟩)
  | 4 => v = .pointer (some ⟨bi, 1, none⟩)
  | 5 => v = .agg #[.int .i64 yn, .int .i64 yg]
  | 6 => v = .pointer (some ⟨bi, 1, none⟩)
  | 7 => v = .pointer (some ⟨bi, 3, none⟩)
  | 8 => v = .slice ac nc nc
  | 9 => ∃ a, v = .slice a nc nc ∧ SlAt 2 CompAt w a cs
  | 10 => ∃ a, v = .agg #[.int .i64 yn, .int .i64 yg, .slice a nc nc] ∧ SlAt 2 CompAt w a cs
  | _ => True
theorem F_qi3_mono (l bi qi nc : Nat) (yn yg : Int) (ac : Option Addr) (cs : List CompV) : Facts (F_qi3 l bi qi nc yn yg ac cs) := ⟨by
  intro jq v w w' h hb
  unfold F_qi3 at h ⊢
  split at h
  all_goals first
    | exact h
    | (obtain ⟨a, h1, h2⟩ := h; exact ⟨a, h1, h2.below CompAt.abides hb⟩)
    | trivial⟩


set_option maxRecDepth 100000 in
set_option maxHeartbeats 8000000 in
theorem all_q (n : Nat) (hn : 1 ≤ n) (Bs lo : Nat) (r : Option Addr) (c : Nat) (rows : List RowQ) (m : Nat) (hm : rows.length = m) (h20 : m ≤ 1048576) (hsm : ∀ y ∈ rows, y.2.comps.length ≤ 1048576 ∧ ∀ c ∈ y.2.comps, c.vals.length ≤ 1048576) (w : World)
    (hBs : lo ≤ Bs) (hc : w.heap[Bs]? = some (.cells #[.slice r m c] 136 (0, 0))) (hz : Up lo (fun w => SlAt 4 RowAt w r rows) w) :
    SeqStopsC Fence.wide n Try.prog 87 #[.pointer (some ⟨Bs, 0, none⟩)] encQ (CQ rows) (KeepB lo w.heap.size) (fun ys => ys.map (·.1) = rows) (fun pre => pre.map (·.1) <+: rows) (m + 1) w := by
  intro l J Jx W hW hJa hJxa hY h0
  have hbl := lt_of_heap hc
  have HM := Lib.hid hm
  have HSM := Lib.hid hsm
  have HZ := Lib.hid hz
  have HC := Lib.hid hc
  have HJA := Lib.hid hJa
  have HY := Lib.hid hY
  have HW := Lib.hid hW
  have HJ0 := Lib.hid h0
  have c0 : W.cell? ⟨Bs, 0, none⟩ = some (.slice r m c) := by rw [cell_of_row _ _ 0 _ _ _ (heap_below hc hW)]; rfl
  clear hm hsm hz hc hJa hJxa hY hW h0
  show CallsIn Fence.wide n Try.prog 87 #[.func (.yield l) #[] #[], .pointer (some ⟨Bs, 0, none⟩)] W _
  refine callsIn_of_wp Try.func87 rfl trivial ?_ rfl
  simp only [Try.ntmps87, List.size_toArray, List.length_cons, List.length_nil, Nat.reduceAdd, Nat.reduceSub, Array.replicate_succ, Array.replicate_zero, List.push_toArray, List.append_toArray, List.nil_append, List.cons_append]
  gi_wp2
  gi_loopw [4, 7] (fun v4 vi wr => ∃ k : Nat, k ≤ m ∧ vi = .int .i64 k ∧ Hid (∃ l' : List HandQ, l'.map (·.1) = rows.take k ∧ J l' wr) ∧ Hid (KeepB lo w.heap.size W wr) ∧ W.heap.size ≤ wr.heap.size)
    (fun _ vi _ => m - (intOf vi).toNat)
  case atStart => exact ⟨0, Nat.zero_le _, rfl, Lib.hid ⟨[], rfl, HJ0.out⟩, Lib.hid (KeepB.refl _ _ _), Nat.le_refl _⟩
  case round =>
    obtain ⟨k, hk, rfl, HJ, HK, hsz⟩ := hrel
    by_cases hlt : k < m
    · have hup : SlAt 4 RowAt wr r rows := HZ.out wr ⟨by have := HW.out.size; omega, fun g g1 g2 => (HK.out.2 g g1 g2).trans (HW.out.block g g2)⟩
      obtain ⟨x, rfl, hx, hix⟩ := hup (by rw [HM.out]; omega)
      obtain ⟨c0', c1, c2, ac, c3, hsl⟩ := hix k (by rw [HM.out]; exact hlt)
      obtain ⟨y, hy⟩ : ∃ y, y = rows[k]'(by rw [HM.out]; exact hlt) := ⟨_, rfl⟩
      have hsy := HSM.out y (by rw [hy]; exact List.getElem_mem _)
      rw [← hy] at c0' c1 c2 c3 hsl
      obtain ⟨qi, hqi⟩ : ∃ q, q = y.1 := ⟨_, rfl⟩
      obtain ⟨yn, hyn⟩ : ∃ q, q = y.2.n := ⟨_, rfl⟩
      obtain ⟨yg, hyg⟩ : ∃ q, q = y.2.gen := ⟨_, rfl⟩
      obtain ⟨nc, hnc⟩ : ∃ q, q = y.2.comps.length := ⟨_, rfl⟩
      rw [← hqi] at c0'
      rw [← hyn] at c1
      rw [← hyg] at c2
      rw [← hnc] at c3
      have HYI := Lib.hid hy
      have HQI := Lib.hid hqi
      have HYN := Lib.hid hyn
      have HYG := Lib.hid hyg
      have HNC := Lib.hid hnc
      have HSY := Lib.hid hsy
      have HSL := Lib.hid hsl
      have i1 : (0 : Int) ≤ (k : Int) := by omega
      have i2 : (k : Int) < (m : Int) := by omega
      clear hup hix hy hqi hyn hyg hnc hsy hsl
      gi_wp2
      have hbA : Below wr.heap.size wr (wr.alloc (.cells #[.int .i64 (qi : Int), .int .i64 yn, .int .i64 yg, .slice ac nc nc] 139)) := (Below.refl _ _).alloc (Nat.le_refl _) _
      have hrow := heap_alloc_new wr (.cells #[.int .i64 (qi : Int), .int .i64 yn, .int .i64 yg, .slice ac nc nc] 139)
      have HSA := Lib.hid (HSL.out.below CompAt.abides hbA)
      obtain ⟨W2, hW2⟩ : ∃ W2, W2 = wr.alloc (.cells #[.int .i64 (qi : Int), .int .i64 yn, .int .i64 yg, .slice ac nc nc] 139) := ⟨_, rfl⟩
      rw [← hW2] at hbA hrow HSA ⊢
      obtain ⟨bi, hbi⟩ : ∃ bi, bi = wr.heap.size := ⟨_, rfl⟩
      rw [← hbi] at hrow ⊢
      have HBA := Lib.hid (show Below wr.heap.size wr W2 by rw [← hbi] at hbA ⊢; exact hbA)
      have K0 := Lib.hid (show W2.cell? ⟨bi, 0, none⟩ = some (.int .i64 (qi : Int)) by rw [cell_of_row _ _ 0 _ _ _ hrow]; rfl)
      have K3 := Lib.hid (show W2.cell? ⟨bi, 3, none⟩ = some (.slice ac nc nc) by rw [cell_of_row _ _ 3 _ _ _ hrow]; rfl)
      have KE := Lib.hid (show CellsK W2 bi 1 [.int .i64 yn, .int .i64 yg] from fun j u hu => by
        match j with
        | 0 => simp at hu; subst hu; rw [cell_of_row _ _ 1 _ _ _ hrow]; rfl
        | 1 => simp at hu; subst hu; rw [cell_of_row _ _ 2 _ _ _ hrow]; rfl
        | j + 2 => simp at hu)
      have CC := Lib.hid (fun w' (hb : Below W2.heap.size W2 w') => copy_comps y.2.comps ac nc nc HNC.out.symm (by have := HSY.out.1; rw [HNC.out]; exact this) HSY.out.2 w' (HSA.out.below CompAt.abides hb))
      clear hbA hrow hW2 c0' c1 c2 c3 hbi
      refine wpIn_region_any rfl (anyIn_facts_t 11 (by rintro ⟨_, _, h⟩; obtain ⟨⟨v, hv⟩, _⟩ := h; cases hv) (by kernel_rfl) (F_qi3 l bi qi nc yn yg ac y.2.comps) (F_qi3_mono l bi qi nc yn yg ac y.2.comps) ?_ ?_)
      · refine ⟨?_, ?_, ?_, ?_, ?_, ?_, ?_, ?_, ?_, ?_, ?_, trivial⟩
        · intro vs w' F hb hd hF hl hT
          have e := (hF 0).trans (look_out _ 0 _ _ (by kernel_rfl))
          exact one_move _ rfl (by first | exact Or.inl rfl | exact Or.inr rfl) ⟨_, rfl, Below.refl _ _, e⟩
        · intro vs w' F hb hd hF hl hT
          have e := (hF 4).trans (look_out _ 4 _ _ (by kernel_rfl))
          exact one_field _ _ _ rfl rfl _ _ e (0) (fun w => by kernel_rfl) ⟨_, rfl, Below.refl _ _, rfl⟩
        · intro vs w' F hb hd hF hl hT
          have e := ((hF 12).trans (look_at _ 12 1 _ _ (by kernel_rfl) (by kernel_rfl) hl)).trans (dep_of (Fact := F_qi3 l bi qi nc yn yg ac y.2.comps) hd 1 (by kernel_rfl))
          exact one_load _ _ rfl rfl _ _ e (cell_abides K0.out hb) (by kernel_rfl) ⟨_, rfl, Below.refl _ _, rfl⟩
        · intro vs w' F hb hd hF hl hT
          have e := (hF 4).trans (look_out _ 4 _ _ (by kernel_rfl))
          exact one_field _ _ _ rfl rfl _ _ e (1) (fun w => by kernel_rfl) ⟨_, rfl, Below.refl _ _, rfl⟩
        · intro vs w' F hb hd hF hl hT
          have e := ((hF 14).trans (look_at _ 14 3 _ _ (by kernel_rfl) (by kernel_rfl) hl)).trans (dep_of (Fact := F_qi3 l bi qi nc yn yg ac y.2.comps) hd 3 (by kernel_rfl))
          exact one_field _ _ _ rfl rfl _ _ e (1) (fun w => by kernel_rfl) ⟨_, rfl, Below.refl _ _, rfl⟩
        · intro vs w' F hb hd hF hl hT
          have e := ((hF 15).trans (look_at _ 15 4 _ _ (by kernel_rfl) (by kernel_rfl) hl)).trans (dep_of (Fact := F_qi3 l bi qi nc yn yg ac y.2.comps) hd 4 (by kernel_rfl))
          exact rg_load 55 _ rfl rfl (bi) (1) [.int .i64 yn, .int .i64 yg] e (KE.out.below hb) _ Try.underlying55 rfl (by kernel_rfl) ⟨_, rfl, Below.refl _ _, rfl⟩
        · intro vs w' F hb hd hF hl hT
          have e := (hF 4).trans (look_out _ 4 _ _ (by kernel_rfl))
          exact one_field _ _ _ rfl rfl _ _ e (1) (fun w => by kernel_rfl) ⟨_, rfl, Below.refl _ _, rfl⟩
        · intro vs w' F hb hd hF hl hT
          have e := ((hF 17).trans (look_at _ 17 6 _ _ (by kernel_rfl) (by kernel_rfl) hl)).trans (dep_of (Fact := F_qi3 l bi qi nc yn yg ac y.2.comps) hd 6 (by kernel_rfl))
          exact one_field _ _ _ rfl rfl _ _ e (3) (fun w => by kernel_rfl) ⟨_, rfl, Below.refl _ _, rfl⟩
        · intro vs w' F hb hd hF hl hT
          have e := ((hF 18).trans (look_at _ 18 7 _ _ (by kernel_rfl) (by kernel_rfl) hl)).trans (dep_of (Fact := F_qi3 l bi qi nc yn yg ac y.2.comps) hd 7 (by kernel_rfl))
          exact one_load _ _ rfl rfl _ _ e (cell_abides K3.out hb) (by kernel_rfl) ⟨_, rfl, Below.refl _ _, rfl⟩
        · intro vs w' F hb hd hF hl hT
          have ea := (((hF 19).trans (look_at _ 19 8 _ _ (by kernel_rfl) (by kernel_rfl) hl)).trans (dep_of (Fact := F_qi3 l bi qi nc yn yg ac y.2.comps) hd 8 (by kernel_rfl)))
          refine one_call _ _ rfl rfl (enters_of Try.func86 (by kernel_rfl) rfl) #[.slice ac nc nc] (eval1 ea) ?_
          refine (CC.out w' hb).mono ?_
          rintro e2 w2 ⟨a2, rfl, hs2, hb2⟩
          exact ⟨_, rfl, _, rfl, hb2, a2, rfl, hs2.now⟩
        · intro vs w' F hb hd hF hl hT
          obtain ⟨a2, e6, hw⟩ := (dep_of (Fact := F_qi3 l bi qi nc yn yg ac y.2.comps) hd 9 (by kernel_rfl))
          have g0 := (((hF 16).trans (look_at _ 16 5 _ _ (by kernel_rfl) (by kernel_rfl) hl)).trans (dep_of (Fact := F_qi3 l bi qi nc yn yg ac y.2.comps) hd 5 (by kernel_rfl)))
          have g6 := ((hF 20).trans (look_at _ 20 9 _ _ (by kernel_rfl) (by kernel_rfl) hl)).trans e6
          exact one_build _ _ rfl rfl #[(0, .agg #[.int .i64 yn, .int .i64 yg]), (1, .slice a2 nc nc)] (parts2 g0 g6) (.agg #[.int .i64 yn, .int .i64 yg, .slice a2 nc nc]) (fun w => by kernel_rfl) ⟨_, rfl, Below.refl _ _, a2, rfl, hw⟩
      · intro vs8 W8 hl hb hI
        have hv0 : vs8.getD 0 undef = .func (.yield l) #[] #[] := hI 0 (by omega)
        have hv2 : vs8.getD 2 undef = .int .i64 (qi : Int) := hI 2 (by omega)
        obtain ⟨a10, hv10, hs10⟩ := hI 10 (by omega)
        obtain ⟨z0, z1, z2, z3, z4, z5, z6, z7, z8, z9, z10, z11, z12, hvs⟩ := list13 hl
        subst hvs
        replace hv0 : z0 = .func (.yield l) #[] #[] := hv0
        replace hv2 : z2 = .int .i64 (qi : Int) := hv2
        replace hv10 : z10 = .agg #[.int .i64 yn, .int .i64 yg, .slice a10 nc nc] := hv10
        subst hv0 hv2 hv10
        have HB8 := Lib.hid (show Below wr.heap.size wr W8 from HBA.out.trans (hb.mono HBA.out.size))
        obtain ⟨l', hl1, hl2⟩ := HJ.out
        have hj8 : J l' W8 := HJA.out _ _ _ none hl2 ⟨HB8.out.os, HB8.out.tape, HB8.out.output, HB8.out.size, fun g g1 _ => HB8.out.block g g1⟩ (fun r h => by cases h)
        have hlen : l'.length < m + 1 := by
          have := congrArg List.length hl1
          rw [List.length_map, List.length_take] at this
          omega
        have hmem : rows[k]'(by rw [HM.out]; exact hlt) ∈ rows := List.getElem_mem _
        rw [← HYI.out] at hmem
        have HTM := Lib.hid (take_map (by rw [HM.out]; exact hlt) hl1 a10)
        rw [← HYI.out] at HTM
        obtain ⟨fn, tmps, assign, body, hyy, hR⟩ := HY.out l' (y, a10) W8 hj8 hlen ⟨hmem, hs10⟩
        have hyy' : (Instr.yield l #[.int .i64 (qi : Int), .agg #[.int .i64 yn, .int .i64 yg, .slice a10 nc nc]]).run Try.prog W8 = .ok (.round l fn tmps assign body) W8 := by
          have h := hyy
          unfold encQ at h
          rw [← HQI.out, ← HYN.out, ← HYG.out, ← HNC.out] at h
          exact h
        have HR := Lib.hid hR
        clear hI hl hb hl1 hl2 hj8 hlen hmem hyy hR hs10 CC K0 K3 KE HSA HBA
        simp only [fillAll, Act.put, List.setIfInBounds_toArray, List.set_cons_succ, List.set_cons_zero, List.drop_succ_cons, List.drop_zero]
        gi_wp2
        refine HR.out.mono ?_
        rintro e W3 (⟨rfl, hJ3, hk3⟩ | ⟨rfl, hJx3⟩)
        · have HK3 := Lib.hid ((HK.out.trans (KeepB.of_below HB8.out (by have := HW.out.size; omega))).trans hk3)
          have HS3 : W.heap.size ≤ W3.heap.size := by have := HB8.out.size; have := hk3.1; omega
          have HJ3 := Lib.hid (show ∃ l' : List HandQ, l'.map (·.1) = rows.take (k + 1) ∧ J l' W3 from ⟨_, HTM.out, hJ3⟩)
          clear hJ3 hk3 HR hyy'
          gi_wp2
          go_roundw
          case rel => exact ⟨k + 1, hlt, by go_num, HJ3, HK3, HS3⟩
          case measure => simp [intOf]; omega
        · have HJX := Lib.hid (show ∃ pre : List HandQ, pre.map (·.1) <+: rows ∧ Jx pre W3 from ⟨_, by rw [HTM.out]; exact List.take_prefix _ _, hJx3⟩)
          clear hJx3 HR hyy'
          gi_wp2
          refine bodyPost_ret (results_none rfl _ _ _) rfl ?_
          exact ⟨⟨_, rfl⟩, .inr HJX.out⟩
    · obtain rfl : k = m := by omega
      obtain ⟨l', hl1, hl2⟩ := HJ.out
      rw [List.take_of_length_le (by rw [HM.out]; exact Nat.le_refl _)] at hl1
      have HL1 := Lib.hid hl1
      have HL2 := Lib.hid hl2
      clear hl1 hl2
      gi_wp2
      go_end0
      exact ⟨⟨_, rfl⟩, .inl ⟨l', HL1.out, HL2.out⟩⟩
end Go.Proofs.Ytlahmcbaiebapaa
