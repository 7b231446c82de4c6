/- Lemmas for the law TopDigestPlace: H6Changed. No conditions. -/
import Derived.Test.YtncnbfefciobcaaM13
import Derived.Test.YtncnbfefciobcaaM12
import Derived.Test.YtncnbfefciobcaaM09
import Derived.Test.YtncnbfefciobcaaM08
/- tourtop.h6changed: by program (gen_h6changed.py). -/
section
namespace Go.Proofs.Ytncnbfefciobcaa
open Go.ChangeShapes Go.WideShapes Go.ChangeAt Go.RowKit Go.Nm Go.Mem
set_option linter.unusedVariables false
theorem results_ctt {P : Program} {fn : Func} {a p b : Tmp} {ty : TypeId} (h : fn.results = #[.cell p ty, .tmp a, .tmp b]) (tmps : Array Value) (w : World) (g : Nat) (t : TypeId) (cs : Array Value) (fr : Nat × Nat) (d : TypeDesc)
    (hp : tmps.getD p undef = .pointer (some ⟨g, 0, none⟩)) (hg : w.heap[g]? = some (.cells cs t fr))
    (hu : P.underlying ty = some d) (hd : (match d with | .struct _ | .array _ _ => true | _ => false) = true) (hi : (P.info? ty).map (·.size) = some cs.size) :
    (results fn tmps).run P w = .ok (.tuple #[.agg cs, tmps.getD a undef, tmps.getD b undef]) w := by
  have hp' : tmps[p]?.getD undef = .pointer (some ⟨g, 0, none⟩) := by simpa using hp
  simp [results, h, hp', asAddr, run_loadVar_row w g t ty cs fr d hg hu hd hi]
theorem totC_le : ∀ (cs : List CompV), (∀ c ∈ cs, c.vals.length ≤ 3) → totC cs ≤ 3 * cs.length
  | [], _ => by simp [totC]
  | c :: r, h => by
    have := totC_le r (fun x hx => h x (List.mem_cons_of_mem _ hx))
    have := h c (List.mem_cons_self ..)
    unfold totC at *
    rw [List.map_cons, List.sum_cons, List.length_cons]; omega
theorem totI_le : ∀ (its : List ItemV), (∀ t ∈ its, totC t.comps ≤ 12) → totI its ≤ 12 * its.length
  | [], _ => by simp [totI]
  | t :: r, h => by
    have := totI_le r (fun x hx => h x (List.mem_cons_of_mem _ hx))
    have := h t (List.mem_cons_self ..)
    unfold totI at *
    rw [List.map_cons, List.sum_cons, List.length_cons]; omega
theorem totC_snoc (cs : List CompV) (p : Nat) (h : p < cs.length) : totC (cs.take (p + 1)) = totC (cs.take p) + cs[p].vals.length := by
  unfold totC
  rw [List.take_add_one, List.getElem?_eq_getElem h, List.map_append, List.sum_append]; simp
theorem totI_snoc (its : List ItemV) (p : Nat) (h : p < its.length) : totI (its.take (p + 1)) = totI (its.take p) + totC its[p].comps := by
  unfold totI
  rw [List.take_add_one, List.getElem?_eq_getElem h, List.map_append, List.sum_append]; simp
theorem comp_small {ks : List KindV} {i : Nat} {cs : List CompV} (hk : KsOk ks) (h : CsOk ks i cs) : ∀ c ∈ cs, c.vals.length ≤ 3 := fun c hc => by
  obtain ⟨h0, h1, h2, _⟩ := (h.2.2 c hc).2
  rw [h2]
  have hl : c.kind.toNat < ks.length := by omega
  rw [List.getD_eq_getElem?_getD, List.getElem?_eq_getElem hl]
  exact (hk.2 _ hl).2.1
theorem item_small {y : WorldV} (h : WOk y) : ∀ t ∈ y.items, t.comps.length ≤ 4 ∧ totC t.comps ≤ 12 := fun t ht => by
  obtain ⟨_, _, _, hc⟩ := h.2.2.2.2.2.2.2 t ht
  have h4 := h.1.1
  have h5 := hc.1
  have := totC_le t.comps (comp_small h.1 hc)
  exact ⟨by omega, by omega⟩
theorem tot_small {y : WorldV} (h : WOk y) : y.items.length ≤ 8 ∧ totI y.items ≤ 96 := by
  have h8 := h.2.2.2.2.2.1
  have := totI_le y.items (fun t ht => (item_small h t ht).2)
  exact ⟨h8, by omega⟩
theorem totI_take (its : List ItemV) (q : Nat) : totI (its.take q) ≤ totI its := by
  conv => rhs; rw [← List.take_append_drop q its]
  unfold totI
  rw [List.map_append, List.sum_append]; omega
theorem totC_take (cs : List CompV) (q : Nat) : totC (cs.take q) ≤ totC cs := by
  conv => rhs; rw [← List.take_append_drop q cs]
  unfold totC
  rw [List.map_append, List.sum_append]; omega
def ChPost (y : WorldV) (i0 b : Int) (W : World) (e : Ending) (w' : World) : Prop := ((totI y.items = 0 ∧ e = .returned (.tuple #[.agg #[.slice none 0 0, .slice none 0 0, .slice none 0 0], .int .i64 0, .bool false])) ∨ (0 < totI y.items ∧ ∃ v', e = .returned (.tuple #[v', .int .i64 (atI y.items (i0 % (totI y.items : Int)) 0 : Nat), .bool true]) ∧ WorldIn w' v' ⟨y.kinds, y.gens, chI b y.kinds (i0 % (totI y.items : Int)) y.items⟩)) ∧ Below W.heap.size W w'
/-- the items so far -/
def OSt (y : WorldV) (I0 b : Int) (b14 nk ck ng cg : Nat) (ak ag : Option Addr) (w6 : World) (k : Nat) (ic : Int) (A : Nat) (w : World) : Prop := ∃ (VI : Value) (D : List ItemV), w.heap[b14]? = some (.cells #[.slice ak nk ck, .slice ag ng cg, VI] 27 (0, 0)) ∧ GrowL EItem (b14 + 1) 70 3 w VI D ∧ D.length = k ∧ D ++ chI b y.kinds ic (y.items.drop k) = chI b y.kinds I0 y.items ∧ ic = I0 - (totI (y.items.take k) : Int) ∧ (ic < 0 → A = atI y.items I0 0) ∧ (0 ≤ ic → atI y.items I0 0 = atI (y.items.drop k) ic k) ∧ Below b14 w6 w
/-- the components of an item so far -/
def PSt (ks : List KindV) (cs : List CompV) (ic b tn tg : Int) (b18 : Nat) (w8 : World) (p : Nat) (ip : Int) (w : World) : Prop := ∃ (VC : Value) (E : List CompV), w.heap[b18]? = some (.cells #[.int .i64 tn, .int .i64 tg, VC] 70 (0, 0)) ∧ GrowL EComp (b18 + 1) 59 2 w VC E ∧ E.length = p ∧ E ++ chC b ks ip (cs.drop p) = chC b ks ic cs ∧ ip = ic - (totC (cs.take p) : Int) ∧ Below b18 w8 w
theorem rg_shlP {P : Program} {ops : Array Oper} {o : Oper} {F : Act} {w : World} {Q : Exit → Act → World → Prop} (ty yt : TypeId) (x y : Operand) (hgd : o.guard = none) (ho : o.op = .binOp .shl ty x y yt) (n PP : Nat) (hn : n ≤ 32) (hP : PP = 2 ^ n) (hx : F.eval x = .int .i64 1) (hy : F.eval y = .int .i64 (n : Int))
    (h : Q .normal (F.put o.dst (.int .i64 (PP : Int))) w) : wpList P ops Q [o] F w := by
  subst hP
  exact rg_shl1 ty yt x y hgd ho n hn hx hy h
theorem vints_set1 (k : IntKind) (zs : List Int) (j : Nat) (v : Int) : (vints k zs).set j (.int k v) = vints k (zs.set j v) := by simp [vints, List.map_set]
def jrow (b : Int) (fs : List FieldV) (ip : Int) (vals : List Int) (j : Nat) : List Int := if 0 ≤ ip ∧ ip < (j : Int) then chV b fs ip vals else vals
theorem jrow_zero (b : Int) (fs : List FieldV) (ip : Int) (vals : List Int) : jrow b fs ip vals 0 = vals := by unfold jrow; rw [if_neg (by omega)]
theorem jrow_ne (b : Int) (fs : List FieldV) (ip : Int) (vals : List Int) (j : Nat) (h : ip ≠ (j : Int)) : jrow b fs ip vals (j + 1) = jrow b fs ip vals j := by
  unfold jrow
  by_cases h1 : 0 ≤ ip ∧ ip < (j : Int)
  · rw [if_pos h1, if_pos (by omega)]
  · rw [if_neg h1, if_neg (by omega)]
theorem jrow_at (b : Int) (fs : List FieldV) (vals : List Int) (j : Nat) : jrow b fs (j : Int) vals j = vals := by unfold jrow; rw [if_neg (by omega)]
theorem jrow_next (b : Int) (fs : List FieldV) (vals : List Int) (j : Nat) (h : j < vals.length) : jrow b fs (j : Int) vals (j + 1) = vals.set j (newv b (fs.getD j default) (vals.getD j 0)) := by
  unfold jrow chV
  rw [if_pos (by omega), if_pos (by omega), Int.toNat_natCast]
theorem jrow_end (b : Int) (fs : List FieldV) (ip : Int) (vals : List Int) : jrow b fs ip vals vals.length = chV b fs ip vals := by
  unfold jrow
  by_cases h : 0 ≤ ip ∧ ip < (vals.length : Int)
  · rw [if_pos h]
  · rw [if_neg h]; exact (chV_neg _ _ _ _ h).symm
def JSt (b : Int) (fs : List FieldV) (vals : List Int) (ip : Int) (nv : Nat) (v : Value) (w9 : World) (j : Nat) (w : World) : Prop := w.ownsRow w9.heap.size 3 1 v nv (vints .i64 (jrow b fs ip vals j)) ∧ Below w9.heap.size w9 w
theorem bel_up {B C : Nat} {a b c : World} (h : Below B a b) (h2 : Below C b c) (hBC : B ≤ C) : Below B a c := h.trans (h2.mono hBC)
def F_h6c (gq nv c21 j bX nb PP : Nat) (b lo v0 d0 d1 d2 P1 r1 r2 nvv : Int) (jq : Nat) (v : Value) (w : World) : Prop :=
  match jq with
  | 0 => v = .slice (some ⟨gq, 0, none⟩) nv c21
  | 1 => v = .int .i64 (j : Int)
  | 2 => v = .pointer (some ⟨bX, 2, none⟩)
  | 3 => v = .int .i64 lo
  | 4 => v = .slice (some ⟨gq, 0, none⟩) nv c21
  | 5 => v = .int .i64 (j : Int)
  | 6 => v = .pointer (some ⟨gq, j * 1, none⟩)
  | 7 => v = .int .i64 v0
  | 8 => v = .pointer (some ⟨bX, 2, none⟩)
  | 9 => v = .int .i64 lo
  | 10 => v = .int .i64 d0
  | 11 => v = .int .i64 d1
  | 12 => v = .int .i64 b
  | 13 => v = .pointer (some ⟨bX, 1, none⟩)
  | 14 => v = .int .i64 (nb : Int)
  | 15 => v = .int .i64 (PP : Int)
  | 16 => v = .int .i64 P1
  | 17 => v = .int .i64 r1
  | 18 => v = .int .i64 d2
  | 19 => v = .pointer (some ⟨bX, 1, none⟩)
  | 20 => v = .int .i64 (nb : Int)
  | 21 => v = .int .i64 (PP : Int)
  | 22 => v = .int .i64 r2
  | 23 => v = .int .i64 nvv
  | 24 => v = .pointer (some ⟨gq, j * 1, none⟩)
  | _ => True
theorem F_h6c_mono (gq nv c21 j bX nb PP : Nat) (b lo v0 d0 d1 d2 P1 r1 r2 nvv : Int) : Facts (F_h6c gq nv c21 j bX nb PP  b lo v0 d0 d1 d2 P1 r1 r2 nvv ) := ⟨by
  intro jq v w w' h hb
  unfold F_h6c at h ⊢
  split at h
  all_goals first
    | exact h
    | trivial⟩
set_option maxHeartbeats 8000000 in
set_option maxRecDepth 100000 in
theorem h6_changed (y : WorldV) (hy : WOk y) (i0 b : Int) (ak ag ai : Option Addr) (nk ck ng cg ni ci : Nat) (hnk : y.kinds.length = nk) (hng : y.gens.length = ng) (hni : y.items.length = ni) (hck : nk ≤ ck) (hckm : ck ≤ 9223372036854775807) (W : World) (hzk : SlAt 2 KindAt W ak y.kinds) (hzg : IntsAt .i64 W ag y.gens) (hzi : SlAt 3 ItemAt W ai y.items) : Calls Try.prog 6 #[.agg #[.slice ak nk ck, .slice ag ng cg, .slice ai ni ci], .int .i64 i0, .int .i64 b] W (ChPost y i0 b W) := by
  obtain ⟨hs8, hs96⟩ := tot_small hy
  have hbx := ((Below.refl W.heap.size W).alloc (Nat.le_refl _) (.cells #[.slice ak nk ck, .slice ag ng cg, .slice ai ni ci] 27)).alloc (by simp) (.cells #[.slice none 0 0, .slice none 0 0, .slice none 0 0] 27)
  have hr3 := heap_keep (heap_alloc_new W (.cells #[.slice ak nk ck, .slice ag ng cg, .slice ai ni ci] 27)) (.cells #[.slice none 0 0, .slice none 0 0, .slice none 0 0] 27)
  have hr6 := heap_alloc_new (W.alloc (.cells #[.slice ak nk ck, .slice ag ng cg, .slice ai ni ci] 27)) (.cells #[.slice none 0 0, .slice none 0 0, .slice none 0 0] 27)
  rw [World.size_alloc] at hr6
  obtain ⟨w2, hw2⟩ : ∃ w, w = (W.alloc (.cells #[.slice ak nk ck, .slice ag ng cg, .slice ai ni ci] 27)).alloc (.cells #[.slice none 0 0, .slice none 0 0, .slice none 0 0] 27) := ⟨_, rfl⟩
  rw [← hw2] at hbx hr3 hr6
  obtain ⟨b3, hb3⟩ : ∃ x, x = W.heap.size := ⟨_, rfl⟩
  obtain ⟨b6, hb6⟩ : ∃ x, x = W.heap.size + 1 := ⟨_, rfl⟩
  rw [← hb3] at hr3
  rw [← hb6] at hr6
  have HY := Lib.hid hy
  have HS := Lib.hid (show ni ≤ 8 ∧ totI y.items ≤ 96 from ⟨by omega, hs96⟩)
  have HNK := Lib.hid hnk
  have HNG := Lib.hid hng
  have HNI := Lib.hid hni
  have HCK := Lib.hid (And.intro hck hckm)
  have HZK := Lib.hid hzk
  have HZG := Lib.hid hzg
  have HZI := Lib.hid hzi
  have HW2 := Lib.hid hw2
  have HBE := Lib.hid (And.intro hb3 hb6)
  have HR3 := Lib.hid hr3
  have HR6 := Lib.hid hr6
  have HB2 := Lib.hid hbx
  have b0 := cell_of_row _ _ 2 _ _ _ hr3
  have HCB := Lib.hid (fun x n h1 h2 w => tm_BelowE x n h1 h2 w)
  clear hy hnk hng hni hck hckm hzk hzg hzi hw2 hb3 hb6 hr3 hr6 hbx hs8 hs96
  go_enter Try.func6, Try.ntmps6
  go_wp2_with (rw [← HW2.out, ← HBE.out.2, ← HBE.out.1])
  clear b0
  go_loopg [9, 11, 13, 27] ni (fun gk v9 _ _ vi wx => ∃ q : Nat, q ≤ ni ∧ gk = ni - q ∧ vi = .int .i64 q ∧ v9 = .int .i64 (totI (y.items.take q) : Nat) ∧ Hid (Below w2.heap.size w2 wx))
  case atStart => exact ⟨0, Nat.zero_le _, rfl, rfl, rfl, Lib.hid (Below.refl _ _)⟩
  case round =>
    obtain ⟨q, hq, g2, rfl, hv9, HBQ⟩ := hrel
    subst hv9
    have GM2 := Lib.hid g2
    clear g2
    by_cases hlt : q < ni
    · have hik : q < y.items.length := by rw [HNI.out]; exact hlt
      have hzi := HZI.out.below ItemAt.abides (bt HB2.out HBQ.out)
      obtain ⟨x, rfl, _, _⟩ := hzi (by omega)
      obtain ⟨ib, io, rfl, ac, cc, hck, hcs⟩ := item_cells hzi q hik
      obtain ⟨t, ht⟩ : ∃ t, t = y.items[q] := ⟨_, rfl⟩
      obtain ⟨hc4, _⟩ := item_small HY.out t (by rw [ht]; exact List.getElem_mem _)
      rw [← ht] at hck hcs
      have hsn := totI_snoc y.items q hik
      rw [← ht] at hsn
      have htt := totI_take y.items (q + 1)
      obtain ⟨tn, htn⟩ : ∃ x, x = t.n := ⟨_, rfl⟩
      obtain ⟨tg, htg⟩ : ∃ x, x = t.gen := ⟨_, rfl⟩
      obtain ⟨cs, hcse⟩ : ∃ x, x = t.comps := ⟨_, rfl⟩
      obtain ⟨nc, hnc⟩ : ∃ x, x = cs.length := ⟨_, rfl⟩
      rw [← htn, ← htg, ← hcse, ← hnc] at hck
      rw [← hcse] at hcs hsn hc4
      rw [← hnc] at hc4
      obtain ⟨N0, hN0⟩ : ∃ x, x = totI (y.items.take q) := ⟨_, rfl⟩
      rw [← hN0] at hsn ⊢
      have hN96 : N0 + totC cs ≤ 96 := by have := HS.out.2; omega
      have q0 := hck 0 _ rfl
      have q1 := hck 1 _ rfl
      have q2 := hck 2 _ rfl
      rw [Nat.add_zero] at q0
      have hba := (Below.refl wr.heap.size wr).alloc (Nat.le_refl _) (.cells #[.int .i64 tn, .int .i64 tg, .slice ac nc cc] 70)
      have HBA := Lib.hid hba
      have HCS := Lib.hid hcs
      have HNC := Lib.hid (And.intro hnc hc4)
      have HSN := Lib.hid hsn
      have HN96 := Lib.hid hN96
      have wi : IntKind.i64.wrap ((q : Int) + 1) = ((q + 1 : Nat) : Int) := by have := HS.out.1; rw [IntKind.wrap_i64]; omega
      have HLT := Lib.hid hlt
      have tI : decide (q < ni) = true := by simp; exact hlt
      obtain ⟨wo, hwo⟩ : ∃ wo, wo = wr := ⟨_, rfl⟩
      subst hwo
      clear hik hzi hck hcs ht hc4 hsn htt htn htg hcse hnc hN0 hN96 hba
      go_wp2_with fail
      go_loopg [9, 13, 34] nc (fun gk2 v9 _ vj wy => ∃ p : Nat, p ≤ nc ∧ gk2 = nc - p ∧ vj = .int .i64 p ∧ v9 = .int .i64 (N0 + totC (cs.take p) : Nat) ∧ Hid (Below wo.heap.size wo wy))
      case atStart => exact ⟨0, Nat.zero_le _, rfl, rfl, rfl, HBA⟩
      case round =>
        obtain ⟨p, hp, g3, rfl, hv9, HBP⟩ := hrel
        subst hv9
        have G3 := Lib.hid g3
        clear g3
        by_cases hjt : p < nc
        · have hjl : p < cs.length := by rw [← HNC.out.1]; exact hjt
          have hzc := HCS.out.below CompAt.abides HBP.out
          obtain ⟨x, rfl, _, _⟩ := hzc (by omega)
          obtain ⟨cb, co, rfl, av, cv, hcl, hvi⟩ := comp_cells hzc p hjl
          have hsn := totC_snoc cs p hjl
          have htt := totC_take cs (p + 1)
          obtain ⟨nv, hnv⟩ : ∃ x, x = cs[p].vals.length := ⟨_, rfl⟩
          obtain ⟨kq, hkq⟩ : ∃ x, x = cs[p].kind := ⟨_, rfl⟩
          rw [← hnv, ← hkq] at hcl
          rw [← hnv] at hsn
          obtain ⟨M0, hM0⟩ : ∃ x, x = N0 + totC (cs.take p) := ⟨_, rfl⟩
          obtain ⟨M1, hM1⟩ : ∃ x, x = N0 + totC (cs.take (p + 1)) := ⟨_, rfl⟩
          have e0 := hcl 0 _ rfl
          have e1 := hcl 1 _ rfl
          rw [Nat.add_zero] at e0
          rw [← hM0]
          have wv : IntKind.i64.wrap ((M0 : Int) + (nv : Int)) = (M1 : Int) := by have := HN96.out; rw [IntKind.wrap_i64]; omega
          have hba := (Below.refl wr.heap.size wr).alloc (Nat.le_refl _) (.cells #[.int .i64 kq, .slice av nv cv] 59)
          have HBA2 := Lib.hid (bt HBP.out hba)
          have wj : IntKind.i64.wrap ((p : Int) + 1) = ((p + 1 : Nat) : Int) := by have := HNC.out.2; rw [IntKind.wrap_i64]; omega
          have HM1 := Lib.hid hM1
          have HJL := Lib.hid hjt
          clear hjl hzc hcl hvi hsn htt hnv hkq hM0 hM1 hba HBA
          go_wp2_with fail
          go_roundg (nc - (p + 1))
          case measure => rw [G3.out]; have := HJL.out; omega
          case rel => have := HJL.out; exact ⟨p + 1, by omega, rfl, (by first | rfl | go_num | simp), by rw [← HM1.out], HBA2⟩
        · obtain rfl : p = nc := by omega
          have e : cs.take p = cs := by rw [HNC.out.1, List.take_length]
          rw [e]
          have HB3 := Lib.hid (HBQ.out.trans (HBP.out.mono HBQ.out.size))
          have HSN2 := Lib.hid HSN.out
          obtain ⟨M1, hM1⟩ : ∃ x, x = N0 + totC cs := ⟨_, rfl⟩
          rw [← hM1] at HSN2 ⊢
          clear e hM1 HBA
          go_wp2_with fail
          go_roundg (ni - (q + 1))
          case measure => rw [GM2.out]; have := HLT.out; omega
          case rel => have := HLT.out; exact ⟨q + 1, by omega, rfl, (by first | rfl | go_num | simp), by rw [HSN2.out], HB3⟩
    · obtain rfl : q = ni := by omega
      have e : y.items.take q = y.items := by rw [← HNI.out, List.take_length]
      rw [e]
      obtain ⟨N, hN⟩ : ∃ N, N = totI y.items := ⟨_, rfl⟩
      rw [← hN]
      have HNN := Lib.hid hN
      have HR6b := Lib.hid (heap_below HR6.out HBQ.out)
      have hbw := bt HB2.out HBQ.out
      have HBW := Lib.hid hbw
      by_cases hN0 : N = 0
      · subst hN0
        have HE := Lib.hid (show totI y.items = 0 from HNN.out.symm)
        clear e hN hbw
        go_wp2_with (refine wpList_store_rowP rfl 27 (.tmp 6) (.tmp 47) rfl b6 #[.slice none 0 0, .slice none 0 0, .slice none 0 0] rfl rfl _ _ HR6b.out (by kernel_rfl) rfl (by simp [Value.oneCell']) ?_; intro w9 hput; have HPUT := Lib.hid hput; clear hput)
        have hput := HPUT.out
        refine bodyPost_ret (results_ctt Try.results6 _ _ b6 27 _ (0, 0) _ rfl hput.here Try.underlying27 rfl (by kernel_rfl)) rfl ?_
        exact ⟨Or.inl ⟨HE.out, rfl⟩, HBW.out.trans (hput.below (by have := HBE.out; omega))⟩
      · have tN : ((N : Int) == 0) = false := by simp; omega
        have hN96 : N ≤ 96 := by rw [hN]; exact HS.out.2
        obtain ⟨I0, hI0⟩ : ∃ x, x = i0 % (N : Int) := ⟨_, rfl⟩
        have hI1 := Int.emod_nonneg i0 (show (N : Int) ≠ 0 by omega)
        have hI2 := Int.emod_lt_of_pos i0 (show 0 < (N : Int) by omega)
        rw [← hI0] at hI1 hI2
        have CB1 := Lib.hid (HCB.out i0 N (by omega) (by omega) wr)
        rw [← hI0] at CB1
        have HI0 := Lib.hid (And.intro hI0 (And.intro hI1 hI2))
        have HN1 := Lib.hid (show 0 < N ∧ N ≤ 96 by omega)
        have hr3' := heap_below HR3.out HBQ.out
        have r0 := cell_of_row _ _ 0 _ _ _ hr3'
        have r1 := cell_of_row _ _ 1 _ _ _ hr3'
        have r2 := cell_of_row _ _ 2 _ _ _ hr3'
        obtain ⟨w5, hw5⟩ : ∃ w, w = wr := ⟨_, rfl⟩
        subst hw5
        have hba := (Below.refl w5.heap.size w5).alloc (Nat.le_refl _) (.cells #[.slice ak nk ck, .slice ag ng cg, .slice none 0 0] 27)
        have hr14 := heap_alloc_new w5 (.cells #[.slice ak nk ck, .slice ag ng cg, .slice none 0 0] 27)
        obtain ⟨w6, hw6⟩ : ∃ w, w = w5.alloc (.cells #[.slice ak nk ck, .slice ag ng cg, .slice none 0 0] 27) := ⟨_, rfl⟩
        obtain ⟨b14, hb14⟩ : ∃ x, x = w5.heap.size := ⟨_, rfl⟩
        rw [← hw6] at hba hr14
        rw [← hb14] at hr14
        have HW6 := Lib.hid (And.intro hw6 hb14)
        have HR14 := Lib.hid hr14
        have HB6 := Lib.hid (bt HBW.out hba)
        have HR3c := Lib.hid (heap_below hr3' hba)
        have HR6c := Lib.hid (heap_below HR6b.out hba)
        have HB14 := Lib.hid (show b3 < b14 ∧ b6 < b14 ∧ W.heap.size ≤ b6 by have := HBE.out; have := lt_of_heap HR6b.out; have := lt_of_heap hr3'; omega)
        have r2' := cell_of_row _ _ 2 _ _ _ HR3c.out
        clear e hN hbw hN0 hN96 hI0 hI1 hI2 hr3' hba hr14 hw6 hb14 HR6b HBQ HBW HR3 HR6 HB2
        go_wp2_with fail
        refine CB1.out.mono ?_
        rintro e w8 ⟨rfl, rfl⟩
        go_wp2_with (rw [← HW6.out.1, ← HW6.out.2])
        have HOS := Lib.hid (show OSt y I0 b b14 nk ck ng cg ak ag w6 0 I0 0 w6 from ⟨.slice none 0 0, [], HR14.out, GrowL.nil _ _ _ _ _, rfl, rfl, by simp [totI], fun h => by have := HI0.out; omega, fun _ => rfl, Below.refl _ _⟩)
        clear r0 r1 r2 r2' HR14 HW6
        go_loopg [1, 15, 16, 17, 18, 20, 21, 22, 23, 59] q (fun gk v1 v15 _ _ _ _ _ _ _ vi wx => ∃ (k : Nat) (ic : Int) (A : Nat), k ≤ q ∧ gk = q - k ∧ vi = .int .i64 k ∧ v1 = .int .i64 ic ∧ v15 = .int .i64 A ∧ Hid (OSt y I0 b b14 nk ck ng cg ak ag w6 k ic A wx))
        case atStart => exact ⟨0, _, 0, Nat.zero_le _, rfl, rfl, rfl, rfl, HOS⟩
        case round =>
          clear HOS
          obtain ⟨k, ic, A, hk, g2, rfl, hv1, hv15, HO⟩ := hrel
          subst hv1 hv15
          have GM2 := Lib.hid g2
          clear g2
          by_cases hlt : k < q
          · have hik : k < y.items.length := by rw [HNI.out]; exact hlt
            obtain ⟨wo, hwo⟩ : ∃ wo, wo = wr := ⟨_, rfl⟩
            subst hwo
            have hbO : Below b14 w6 wo := by obtain ⟨_, _, _, _, _, _, _, _, _, h⟩ := HO.out; exact h
            have hicE : ic = I0 - (totI (y.items.take k) : Int) := by obtain ⟨_, _, _, _, _, _, h, _⟩ := HO.out; exact h
            have hbW : Below W.heap.size W wo := bel_up HB6.out hbO (by have := HB14.out; have := HBE.out; omega)
            have hzi := HZI.out.below ItemAt.abides hbW
            obtain ⟨x, rfl, _, _⟩ := hzi (by omega)
            obtain ⟨ib, io, rfl, ac, cc, hck, hcs⟩ := item_cells hzi k hik
            obtain ⟨t, ht⟩ : ∃ t, t = y.items[k] := ⟨_, rfl⟩
            have htm : t ∈ y.items := by rw [ht]; exact List.getElem_mem _
            obtain ⟨hc4, hc12⟩ := item_small HY.out t htm
            obtain ⟨_, _, _, hcok⟩ := HY.out.2.2.2.2.2.2.2 t htm
            rw [← ht] at hck hcs
            have hsn := totI_snoc y.items k hik
            rw [← ht] at hsn
            have htt := totI_take y.items (k + 1)
            have hdr : y.items.drop k = t :: y.items.drop (k + 1) := by rw [List.drop_eq_getElem_cons hik, ← ht]
            obtain ⟨tn, htn⟩ : ∃ x, x = t.n := ⟨_, rfl⟩
            obtain ⟨tg, htg⟩ : ∃ x, x = t.gen := ⟨_, rfl⟩
            obtain ⟨cs, hcse⟩ : ∃ x, x = t.comps := ⟨_, rfl⟩
            obtain ⟨nc, hnc⟩ : ∃ x, x = cs.length := ⟨_, rfl⟩
            rw [← htn, ← htg, ← hcse, ← hnc] at hck
            rw [← hcse] at hcs hsn hc4 hc12 hcok
            rw [← hnc] at hc4
            have q0 := hck 0 _ rfl
            have q1 := hck 1 _ rfl
            have q2 := hck 2 _ rfl
            rw [Nat.add_zero] at q0
            have hba := ((Below.refl wo.heap.size wo).alloc (Nat.le_refl _) (.cells #[.int .i64 tn, .int .i64 tg, .slice ac nc cc] 70)).alloc (by simp) (.cells #[.int .i64 tn, .int .i64 tg, .slice none 0 0] 70)
            have hr17 := heap_keep (heap_alloc_new wo (.cells #[.int .i64 tn, .int .i64 tg, .slice ac nc cc] 70)) (.cells #[.int .i64 tn, .int .i64 tg, .slice none 0 0] 70)
            have hr18 := heap_alloc_new (wo.alloc (.cells #[.int .i64 tn, .int .i64 tg, .slice ac nc cc] 70)) (.cells #[.int .i64 tn, .int .i64 tg, .slice none 0 0] 70)
            rw [World.size_alloc] at hr18
            obtain ⟨w8, hw8⟩ : ∃ w, w = (wo.alloc (.cells #[.int .i64 tn, .int .i64 tg, .slice ac nc cc] 70)).alloc (.cells #[.int .i64 tn, .int .i64 tg, .slice none 0 0] 70) := ⟨_, rfl⟩
            obtain ⟨b18, hb18⟩ : ∃ x, x = wo.heap.size + 1 := ⟨_, rfl⟩
            rw [← hw8] at hba hr17 hr18
            rw [← hb18] at hr18
            have HW8 := Lib.hid (And.intro hw8 hb18)
            have HCS := Lib.hid hcs
            have HCOK := Lib.hid hcok
            have HNC := Lib.hid (And.intro hnc hc4)
            have HTT := Lib.hid (And.intro htn (And.intro htg hcse))
            have HDR := Lib.hid hdr
            have HSN := Lib.hid (And.intro hsn hicE)
            have HICB := Lib.hid (show -96 ≤ ic ∧ ic ≤ 96 ∧ totC cs ≤ 12 by have := HS.out.2; have := HI0.out.2; have := HN1.out; omega)
            have HBO := Lib.hid hbO
            have HBWo := Lib.hid hbW
            have HB8 := Lib.hid hba
            have x2 := cell_of_row _ _ 2 _ _ _ hr17
            have HPS := Lib.hid (show PSt y.kinds cs ic b tn tg b18 w8 0 ic w8 from ⟨.slice none 0 0, [], hr18, GrowL.nil _ _ _ _ _, rfl, rfl, by simp [totC], Below.refl _ _⟩)
            have HR14 := Lib.hid (show b14 < wo.heap.size ∧ b18 < w8.heap.size ∧ wo.heap.size < b18 by
              obtain ⟨_, _, h, _⟩ := HO.out
              exact ⟨lt_of_heap h, lt_of_heap hr18, by omega⟩)
            have wi : IntKind.i64.wrap ((k : Int) + 1) = ((k + 1 : Nat) : Int) := by have := HS.out.1; rw [IntKind.wrap_i64]; omega
            have HLT := Lib.hid hlt
            have tI : decide (k < q) = true := by simp; exact hlt
            obtain ⟨A0, hA0⟩ : ∃ x, x = A := ⟨_, rfl⟩
            have HR3o := Lib.hid ((hbO.block b3 HB14.out.1).trans HR3c.out)
            have HAE := Lib.hid (show A = if 0 ≤ ic ∧ ic < 0 then k else A by rw [if_neg (by omega)])
            clear hik hbO hicE hbW hzi hck hcs ht htm hc4 hc12 hcok hsn htt hdr htn htg hcse hnc hba hr17 hr18 hw8 hb18 hA0
            go_wp2_with (rw [← HW8.out.1, ← HW8.out.2])
            go_loopg [1, 15, 20, 21, 22, 23, 70] nc (fun gk2 v1 v15 _ _ _ _ vj wy => ∃ (p : Nat) (ip : Int) (A2 : Nat), p ≤ nc ∧ gk2 = nc - p ∧ vj = .int .i64 p ∧ v1 = .int .i64 ip ∧ v15 = .int .i64 A2 ∧ (A2 = if 0 ≤ ic ∧ ip < 0 then k else A) ∧ Hid (PSt y.kinds cs ic b tn tg b18 w8 p ip wy))
            case atStart => exact ⟨0, ic, A, Nat.zero_le _, rfl, rfl, rfl, rfl, HAE.out, HPS⟩
            case round =>
              clear HPS HAE x2
              obtain ⟨p, ip, A2, hp, g3, rfl, hv1, hv15, hA2, HP4⟩ := hrel
              subst hv1 hv15
              have G3 := Lib.hid g3
              have HA2 := Lib.hid hA2
              clear g3 hA2
              by_cases hjt : p < nc
              · obtain ⟨wp, hwp⟩ : ∃ wp, wp = wr := ⟨_, rfl⟩
                subst hwp
                have hjl : p < cs.length := by rw [← HNC.out.1]; exact hjt
                have hbP : Below b18 w8 wp := by obtain ⟨_, _, _, _, _, _, _, h⟩ := HP4.out; exact h
                have hipE : ip = ic - (totC (cs.take p) : Int) := by obtain ⟨_, _, _, _, _, _, h, _⟩ := HP4.out; exact h
                have hlt18 : b18 < wp.heap.size := by obtain ⟨_, _, h, _⟩ := HP4.out; exact lt_of_heap h
                have hbow : Below wo.heap.size wo wp := bel_up HB8.out hbP (by have := HR14.out; omega)
                have hbWp : Below W.heap.size W wp := bt HBWo.out hbow
                have hzc := HCS.out.below CompAt.abides hbow
                obtain ⟨x, rfl, _, _⟩ := hzc (by omega)
                obtain ⟨cb, co, rfl, av, cv, hcl, hvi⟩ := comp_cells hzc p hjl
                obtain ⟨c, hc⟩ : ∃ c, c = cs[p] := ⟨_, rfl⟩
                have hmem : c ∈ cs := by rw [hc]; exact List.getElem_mem _
                have hsm := comp_small HY.out.1 HCOK.out c hmem
                obtain ⟨hk0, hk1, hk2, hk3⟩ := (HCOK.out.2.2 c hmem).2
                rw [← hc] at hcl hvi
                have hdc : cs.drop p = c :: cs.drop (p + 1) := by rw [List.drop_eq_getElem_cons hjl, ← hc]
                have hsn : totC (cs.take (p + 1)) = totC (cs.take p) + c.vals.length := by rw [totC_snoc cs p hjl, ← hc]
                have htt := totC_take cs (p + 1)
                obtain ⟨kn, hkn⟩ : ∃ kn : Nat, c.kind = (kn : Int) := ⟨c.kind.toNat, by omega⟩
                obtain ⟨nv, hnv⟩ : ∃ x, x = c.vals.length := ⟨_, rfl⟩
                obtain ⟨vals, hvals⟩ : ∃ x, x = c.vals := ⟨_, rfl⟩
                obtain ⟨fs, hfs⟩ : ∃ x, x = fieldsC y.kinds c := ⟨_, rfl⟩
                have hch : chC b y.kinds ip (cs.drop p) = ⟨(kn : Int), chV b fs ip vals⟩ :: chC b y.kinds (ip - (nv : Int)) (cs.drop (p + 1)) := by
                  rw [hdc, chC, ← hnv, ← hfs, ← hvals, hkn]
                have hvl : vals.length = nv := by rw [hvals, hnv]
                have hkl : kn < y.kinds.length := by omega
                have hfsK : y.kinds[kn].fields = fs := by
                  rw [hfs]; unfold fieldsC
                  rw [hkn, Int.toNat_natCast, List.getD_eq_getElem?_getD, List.getElem?_eq_getElem hkl]; rfl
                have hfl : fs.length = nv := by rw [hnv, hk2, hfs]; rfl
                have hvo : ValsOk fs vals := by rw [hfs, hvals]; exact hk3
                have hfok : FldsOk fs := by rw [← hfsK]; exact (HY.out.1.2 kn hkl).2
                rw [← hnv, hkn] at hcl
                rw [← hvals] at hvi
                have e0 := hcl 0 _ rfl
                have e1 := hcl 1 _ rfl
                rw [Nat.add_zero] at e0
                have hzk := HZK.out.below KindAt.abides hbWp
                obtain ⟨xk, hak, _, _⟩ := hzk (by omega)
                rw [hak] at hzk
                obtain ⟨kb, ko, hxk, fa, fc, hkc, -, -, -, hfu⟩ := kind_cells hzk kn hkl
                obtain ⟨knm, hknm⟩ : ∃ x, x = y.kinds[kn].name := ⟨_, rfl⟩
                rw [← hknm] at hkc
                rw [hfsK] at hkc hfu
                rw [hfl] at hkc
                have HAK := Lib.hid (show ak = some ⟨kb, ko, none⟩ by rw [hak, hxk])
                have HFU := Lib.hid hfu
                have HKC := Lib.hid hkc
                have HKL := Lib.hid (show kn < nk by rw [← HNK.out]; exact hkl)
                have HFS := Lib.hid (And.intro hfl (And.intro hvl (And.intro hvo hfok)))
                have HCH := Lib.hid hch
                have HIP := Lib.hid (show ip = ic - (totC (cs.take p) : Int) ∧ -108 ≤ ip ∧ ip ≤ 96 ∧ nv ≤ 3 ∧ ip - (nv : Int) = ic - (totC (cs.take (p + 1)) : Int) by have := HICB.out; omega)
                have HR3r := Lib.hid (heap_below HR3o.out hbow)
                have hba := (Below.refl wp.heap.size wp).alloc (Nat.le_refl _) (.cells #[.int .i64 (kn : Int), .slice av nv cv] 59)
                have hr20 := heap_alloc_new wp (.cells #[.int .i64 (kn : Int), .slice av nv cv] 59)
                obtain ⟨w9, hw9⟩ : ∃ w, w = wp.alloc (.cells #[.int .i64 (kn : Int), .slice av nv cv] 59) := ⟨_, rfl⟩
                obtain ⟨b20, hb20⟩ : ∃ x, x = wp.heap.size := ⟨_, rfl⟩
                rw [← hw9] at hba hr20
                rw [← hb20] at hr20
                have x1 := cell_of_row _ _ 1 _ _ _ hr20
                have CC := Lib.hid (clone_ints vals av nv cv hvl (by omega) w9 (hvi.below hba))
                have HW9 := Lib.hid (And.intro hw9 hb20)
                have HR20 := Lib.hid hr20
                have HB9 := Lib.hid hba
                have HBP := Lib.hid (And.intro hbP (And.intro hbow hlt18))
                have HJL := Lib.hid hjt
                have wj : IntKind.i64.wrap ((p : Int) + 1) = ((p + 1 : Nat) : Int) := by have := HNC.out.2; rw [IntKind.wrap_i64]; omega
                have tP : decide (p < nc) = true := by simp; exact hjt
                clear hjl hbP hipE hlt18 hbow hbWp hzc hcl hvi hc hmem hsm hk0 hk1 hk2 hk3 hdc hsn htt hkn hnv hvals hfs hch hvl hknm hfsK hkl hfl hvo hfok hzk hak hxk hkc hfu hba hr20 hw9 hb20
                go_wp2_with (rw [← HW9.out.1, ← HW9.out.2])
                try rw [← HW9.out.1, ← HW9.out.2]
                refine CC.out.mono ?_
                rintro e w10 ⟨v21, rfl, hown, hb10⟩
                obtain ⟨a21, c21, rfl⟩ := own_slice hown
                have HJ0 := Lib.hid (show JSt b fs vals ip nv (.slice a21 nv c21) w9 0 w10 from ⟨by rw [jrow_zero]; exact hown, hb10⟩)
                clear hown hb10 e0 e1 x1 CC HW9
                go_wp2_with fail
                go_loopg [1, 15, 22, 23, 79] nv (fun gk3 v1 v15 _ _ vj wz => ∃ (j : Nat) (iq : Int) (A3 : Nat), j ≤ nv ∧ gk3 = nv - j ∧ vj = .int .i64 j ∧ iq = ip - (j : Int) ∧ v1 = .int .i64 iq ∧ v15 = .int .i64 A3 ∧ (A3 = if 0 ≤ ic ∧ iq < 0 then k else A) ∧ Hid (JSt b fs vals ip nv (.slice a21 nv c21) w9 j wz))
                case atStart => exact ⟨0, ip, A2, Nat.zero_le _, rfl, rfl, by simp, rfl, rfl, HA2.out, HJ0⟩
                case round =>
                  clear HJ0
                  obtain ⟨j, iq, A3, hj, g4, rfl, hiq, hv1, hv15, hA3, HJ⟩ := hrel
                  subst hv1 hv15
                  have G4 := Lib.hid g4
                  have HA3 := Lib.hid hA3
                  have HIQ := Lib.hid hiq
                  clear g4 hA3 hiq
                  by_cases hvt : j < nv
                  · obtain ⟨wz, hwz⟩ : ∃ wz, wz = wr := ⟨_, rfl⟩
                    subst hwz
                    have hbJ : Below wp.heap.size wp wz := bt HB9.out HJ.out.2
                    obtain ⟨gq, cap, hv, _, _⟩ := HJ.out.1.form (by omega)
                    injection hv with ha hn' hc'
                    subst ha hc'
                    have r3 := cell_of_row _ _ 0 _ _ _ (heap_below HR3r.out hbJ)
                    rw [HAK.out] at r3
                    have x0 := cell_of_row _ _ 0 _ _ _ (heap_below HR20.out HJ.out.2)
                    have hkc2 := HKC.out.below hbJ
                    have k1 := hkc2 1 _ rfl
                    have hkl := HKL.out
                    have hjf : j < fs.length := by rw [HFS.out.1]; exact hvt
                    have hjv : j < vals.length := by rw [HFS.out.2.1]; exact hvt
                    have hfu := HFU.out.below FieldAt.abides hbJ
                    obtain ⟨x, hx, _, _⟩ := hfu (by omega)
                    rw [hx] at hfu
                    obtain ⟨fb, fo, hfx, hcf⟩ := fld_cells hfu j hjf
                    rw [hx, hfx] at k1
                    obtain ⟨f, hf⟩ : ∃ f, f = fs[j] := ⟨_, rfl⟩
                    rw [← hf] at hcf
                    obtain ⟨nb, hnb, hnb1, hnb2, hlo1, hlo2⟩ := fld_range (show FldOk j f by rw [hf]; exact HFS.out.2.2.2.2 j hjf)
                    obtain ⟨v0, hv0⟩ : ∃ v, v = vals[j] := ⟨_, rfl⟩
                    have hvo : ValOk f v0 := by rw [hf, hv0]; exact HFS.out.2.2.1.2 j hjv hjf
                    obtain ⟨fn, hfn⟩ : ∃ x, x = f.name := ⟨_, rfl⟩
                    obtain ⟨lo, hlo⟩ : ∃ x, x = f.low := ⟨_, rfl⟩
                    obtain ⟨PP, hPP⟩ : ∃ x : Nat, x = 2 ^ nb := ⟨_, rfl⟩
                    unfold ValOk at hvo
                    rw [hnb, Int.toNat_natCast, ← hPP, ← hlo] at hvo
                    rw [← hfn, hnb, ← hlo] at hcf
                    rw [← hlo] at hlo1 hlo2
                    have hP1 : 2 ≤ PP := by rw [hPP]; have := Nat.pow_le_pow_right (show 1 ≤ 2 by decide) hnb1; omega
                    have hP2 : PP ≤ 4294967296 := by rw [hPP]; have := Nat.pow_le_pow_right (show 1 ≤ 2 by decide) hnb2; omega
                    have f0 := hcf 0 _ rfl
                    have f1 := hcf 1 _ rfl
                    have f2 := hcf 2 _ rfl
                    rw [Nat.add_zero] at f0
                    have hba := (Below.refl wz.heap.size wz).alloc (Nat.le_refl _) (.cells #[.string fn, .int .i64 (nb : Int), .int .i64 lo] 50)
                    have hr23 := heap_alloc_new wz (.cells #[.string fn, .int .i64 (nb : Int), .int .i64 lo] 50)
                    obtain ⟨wA, hwA⟩ : ∃ w, w = wz.alloc (.cells #[.string fn, .int .i64 (nb : Int), .int .i64 lo] 50) := ⟨_, rfl⟩
                    rw [← hwA] at hba hr23
                    obtain ⟨bX, hbX⟩ : ∃ b, b = wz.heap.size := ⟨_, rfl⟩
                    rw [← hbX] at hr23
                    have HWA := Lib.hid (And.intro hwA hbX)
                    have HVT := Lib.hid (And.intro hvt hjv)
                    have hBA : Below w9.heap.size w9 wA := bt HJ.out.2 hba
                    have hoA := own_below HJ.out.1 hba
                    have wv : IntKind.i64.wrap ((j : Int) + 1) = ((j + 1 : Nat) : Int) := by have := HIP.out; rw [IntKind.wrap_i64]; omega
                    have wq : IntKind.i64.wrap (iq - 1) = ip - ((j + 1 : Nat) : Int) := by have := HIP.out; have := HIQ.out; rw [IntKind.wrap_i64]; omega
                    have tJ : decide (j < nv) = true := by simp; exact hvt
                    by_cases h0 : iq = 0
                    · have hip : ip = (j : Int) := by have := HIQ.out; omega
                      subst h0
                      subst hip
                      rw [jrow_at] at hoA
                      obtain ⟨P1, hPm⟩ : ∃ x : Int, x = (PP : Int) - 1 := ⟨_, rfl⟩
                      obtain ⟨r1, hr1⟩ : ∃ x : Int, x = b % P1 := ⟨_, rfl⟩
                      obtain ⟨d0, hd0⟩ : ∃ x : Int, x = v0 - lo := ⟨_, rfl⟩
                      obtain ⟨d1, hd1⟩ : ∃ x : Int, x = d0 + 1 := ⟨_, rfl⟩
                      obtain ⟨d2, hd2⟩ : ∃ x : Int, x = d1 + r1 := ⟨_, rfl⟩
                      obtain ⟨r2, hr2⟩ : ∃ x : Int, x = d2 % (PP : Int) := ⟨_, rfl⟩
                      obtain ⟨nvv, hnvv⟩ : ∃ x : Int, x = lo + r2 := ⟨_, rfl⟩
                      have q1 := Int.emod_nonneg b (show P1 ≠ 0 by omega)
                      have q2 := Int.emod_lt_of_pos b (show 0 < P1 by omega)
                      have q3 := Int.emod_nonneg d2 (show (PP : Int) ≠ 0 by omega)
                      have q4 := Int.emod_lt_of_pos d2 (show 0 < (PP : Int) by omega)
                      rw [← hr1] at q1 q2
                      rw [← hr2] at q3 q4
                      have hnew : newv b (fs.getD j default) (vals.getD j 0) = nvv := by
                        rw [List.getD_eq_getElem?_getD, List.getD_eq_getElem?_getD, List.getElem?_eq_getElem hjf, List.getElem?_eq_getElem hjv, Option.getD_some, Option.getD_some, ← hf, ← hv0]
                        unfold newv
                        rw [hnb, Int.toNat_natCast, ← hPP, ← hlo, hnvv, hr2, hd2, hd1, hd0, hr1, hPm]
                      have CBa := Lib.hid (fun w => (HCB.out b P1 (by omega) (by omega) w).mono (fun e w' h => (⟨by rw [hr1]; exact h.1, by rw [h.2]; exact Below.refl _ _⟩ : e = .returned (.int .i64 r1) ∧ Below w.heap.size w w')))
                      have CBb := Lib.hid (fun w => (HCB.out d2 (PP : Int) (by omega) (by omega) w).mono (fun e w' h => (⟨by rw [hr2]; exact h.1, by rw [h.2]; exact Below.refl _ _⟩ : e = .returned (.int .i64 r2) ∧ Below w.heap.size w w')))
                      have HD := Lib.hid (show IntKind.i64.wrap (v0 - lo) = d0 ∧ IntKind.i64.wrap (d0 + 1) = d1 ∧ IntKind.i64.wrap ((PP : Int) - 1) = P1 ∧ IntKind.i64.wrap (d1 + r1) = d2 ∧ IntKind.i64.wrap (lo + r2) = nvv by
                        simp only [IntKind.wrap_i64]; omega)
                      have HPP := Lib.hid hPP
                      have HNB := Lib.hid hnb2
                      have HVC := Lib.hid (show wA.cell? ⟨gq, j * 1, none⟩ = some (.int .i64 v0) by
                        rw [Nat.mul_one, hoA.cellAt j (by omega)]
                        unfold vints
                        rw [List.getElem?_map, List.getElem?_eq_getElem hjv, hv0]; rfl)
                      have HNEW := Lib.hid (show jrow b fs (j : Int) vals (j + 1) = vals.set j nvv by rw [jrow_next _ _ _ _ hjv, hnew])
                      have HOA := Lib.hid hoA
                      have HBAA := Lib.hid hBA
                      have HR23 := Lib.hid hr23
                      have HAA := Lib.hid (show k = if 0 ≤ ic ∧ (-1 : Int) < 0 then k else A by
                        have := HIP.out.1
                        rw [if_pos (by omega)])
                      have t0 : ((0 : Int) == 0) = true := rfl
                      clear hbJ hkc2 hjf hjv hfu hx hfx hcf hf hnb hnb1 hnb2 hlo1 hlo2 hv0 hvo hfn hlo hPP hP1 hP2 hba hr23 hwA hbX hBA hoA hPm hr1 hd0 hd1 hd2 hr2 hnvv q1 q2 q3 q4 hnew
                      go_upto_region 30 with fail
                      rw [← HWA.out.1, ← HWA.out.2]
                      clear f0 f1 f2 r3 x0 k1
                      refine wp_region_facts_t rfl 25 (by kernel_rfl) (F_h6c gq nv c21 j bX nb PP b lo v0 d0 d1 d2 P1 r1 r2 nvv) (F_h6c_mono gq nv c21 j bX nb PP b lo v0 d0 d1 d2 P1 r1 r2 nvv) ?_ ?_
                      · refine ⟨?_, ?_, ?_, ?_, ?_, ?_, ?_, ?_, ?_, ?_, ?_, ?_, ?_, ?_, ?_, ?_, ?_, ?_, ?_, ?_, ?_, ?_, ?_, ?_, ?_, trivial⟩
                        · intro vs w' F hb hd hF hl hT
                          have e := (hF 21).trans (look_out _ 21 _ _ (by kernel_rfl))
                          exact one_move _ rfl (by first | exact Or.inl rfl | exact Or.inr rfl) ⟨_, rfl, Below.refl _ _, e⟩
                        · intro vs w' F hb hd hF hl hT
                          have e := (hF 22).trans (look_out _ 22 _ _ (by kernel_rfl))
                          exact one_move _ rfl (by first | exact Or.inl rfl | exact Or.inr rfl) ⟨_, rfl, Below.refl _ _, e⟩
                        · intro vs w' F hb hd hF hl hT
                          have e := (hF 23).trans (look_out _ 23 _ _ (by kernel_rfl))
                          exact one_field _ _ _ rfl rfl _ _ e (2) (fun w => by kernel_rfl) ⟨_, rfl, Below.refl _ _, rfl⟩
                        · intro vs w' F hb hd hF hl hT
                          have e := ((hF 97).trans (look_at _ 97 2 _ _ (by kernel_rfl) (by kernel_rfl) hl)).trans (dep_of (Fact := F_h6c gq nv c21 j bX nb PP b lo v0 d0 d1 d2 P1 r1 r2 nvv) hd 2 (by kernel_rfl))
                          exact one_load _ _ rfl rfl _ _ e (cell_of_row _ _ 2 _ _ _ (heap_below HR23.out hb)) (by kernel_rfl) ⟨_, rfl, Below.refl _ _, rfl⟩
                        · intro vs w' F hb hd hF hl hT
                          have e := (hF 21).trans (look_out _ 21 _ _ (by kernel_rfl))
                          exact one_move _ rfl (by first | exact Or.inl rfl | exact Or.inr rfl) ⟨_, rfl, Below.refl _ _, e⟩
                        · intro vs w' F hb hd hF hl hT
                          have e := (hF 22).trans (look_out _ 22 _ _ (by kernel_rfl))
                          exact one_move _ rfl (by first | exact Or.inl rfl | exact Or.inr rfl) ⟨_, rfl, Below.refl _ _, e⟩
                        · intro vs w' F hb hd hF hl hT
                          have ex := ((hF 99).trans (look_at _ 99 4 _ _ (by kernel_rfl) (by kernel_rfl) hl)).trans (dep_of (Fact := F_h6c gq nv c21 j bX nb PP b lo v0 d0 d1 d2 P1 r1 r2 nvv) hd 4 (by kernel_rfl))
                          have ey := ((hF 100).trans (look_at _ 100 5 _ _ (by kernel_rfl) (by kernel_rfl) hl)).trans (dep_of (Fact := F_h6c gq nv c21 j bX nb PP b lo v0 d0 d1 d2 P1 r1 r2 nvv) hd 5 (by kernel_rfl))
                          exact one_index 22 _ _ rfl rfl (.slice (some ⟨gq, 0, none⟩) nv c21) (.int .i64 (j : Int)) (.pointer (some ⟨gq, j * 1, none⟩)) ex ey (fun w => by have h := rg_idx Try.underlying22 (show (Try.prog.info? 3).map (·.size) = some 1 by kernel_rfl) (gq) (0) (nv) (c21) (j) (HVT.out.1) w; rw [Nat.zero_add] at h; exact h) ⟨_, rfl, Below.refl _ _, rfl⟩
                        · intro vs w' F hb hd hF hl hT
                          have e := ((hF 101).trans (look_at _ 101 6 _ _ (by kernel_rfl) (by kernel_rfl) hl)).trans (dep_of (Fact := F_h6c gq nv c21 j bX nb PP b lo v0 d0 d1 d2 P1 r1 r2 nvv) hd 6 (by kernel_rfl))
                          exact one_load _ _ rfl rfl _ _ e (cell_abides HVC.out hb) (by kernel_rfl) ⟨_, rfl, Below.refl _ _, rfl⟩
                        · intro vs w' F hb hd hF hl hT
                          have e := (hF 23).trans (look_out _ 23 _ _ (by kernel_rfl))
                          exact one_field _ _ _ rfl rfl _ _ e (2) (fun w => by kernel_rfl) ⟨_, rfl, Below.refl _ _, rfl⟩
                        · intro vs w' F hb hd hF hl hT
                          have e := ((hF 103).trans (look_at _ 103 8 _ _ (by kernel_rfl) (by kernel_rfl) hl)).trans (dep_of (Fact := F_h6c gq nv c21 j bX nb PP b lo v0 d0 d1 d2 P1 r1 r2 nvv) hd 8 (by kernel_rfl))
                          exact one_load _ _ rfl rfl _ _ e (cell_of_row _ _ 2 _ _ _ (heap_below HR23.out hb)) (by kernel_rfl) ⟨_, rfl, Below.refl _ _, rfl⟩
                        · intro vs w' F hb hd hF hl hT
                          have e1 := ((hF 102).trans (look_at _ 102 7 _ _ (by kernel_rfl) (by kernel_rfl) hl)).trans (dep_of (Fact := F_h6c gq nv c21 j bX nb PP b lo v0 d0 d1 d2 P1 r1 r2 nvv) hd 7 (by kernel_rfl))
                          have e2 := ((hF 104).trans (look_at _ 104 9 _ _ (by kernel_rfl) (by kernel_rfl) hl)).trans (dep_of (Fact := F_h6c gq nv c21 j bX nb PP b lo v0 d0 d1 d2 P1 r1 r2 nvv) hd 9 (by kernel_rfl))
                          exact rg_sub _ _ _ _ rfl rfl (v0) (lo) (d0) e1 e2 (HD.out.1) ⟨_, rfl, Below.refl _ _, rfl⟩
                        · intro vs w' F hb hd hF hl hT
                          have e1 := ((hF 105).trans (look_at _ 105 10 _ _ (by kernel_rfl) (by kernel_rfl) hl)).trans (dep_of (Fact := F_h6c gq nv c21 j bX nb PP b lo v0 d0 d1 d2 P1 r1 r2 nvv) hd 10 (by kernel_rfl))
                          exact rg_add _ _ _ _ rfl rfl (d0) (1) (d1) e1 rfl (HD.out.2.1) ⟨_, rfl, Below.refl _ _, rfl⟩
                        · intro vs w' F hb hd hF hl hT
                          have e := (hF 2).trans (look_out _ 2 _ _ (by kernel_rfl))
                          exact one_move _ rfl (by first | exact Or.inl rfl | exact Or.inr rfl) ⟨_, rfl, Below.refl _ _, e⟩
                        · intro vs w' F hb hd hF hl hT
                          have e := (hF 23).trans (look_out _ 23 _ _ (by kernel_rfl))
                          exact one_field _ _ _ rfl rfl _ _ e (1) (fun w => by kernel_rfl) ⟨_, rfl, Below.refl _ _, rfl⟩
                        · intro vs w' F hb hd hF hl hT
                          have e := ((hF 108).trans (look_at _ 108 13 _ _ (by kernel_rfl) (by kernel_rfl) hl)).trans (dep_of (Fact := F_h6c gq nv c21 j bX nb PP b lo v0 d0 d1 d2 P1 r1 r2 nvv) hd 13 (by kernel_rfl))
                          exact one_load _ _ rfl rfl _ _ e (cell_of_row _ _ 1 _ _ _ (heap_below HR23.out hb)) (by kernel_rfl) ⟨_, rfl, Below.refl _ _, rfl⟩
                        · intro vs w' F hb hd hF hl hT
                          have e2 := (((hF 109).trans (look_at _ 109 14 _ _ (by kernel_rfl) (by kernel_rfl) hl)).trans (dep_of (Fact := F_h6c gq nv c21 j bX nb PP b lo v0 d0 d1 d2 P1 r1 r2 nvv) hd 14 (by kernel_rfl)))
                          exact rg_shlP _ _ _ _ rfl rfl nb PP HNB.out HPP.out rfl e2 ⟨_, rfl, Below.refl _ _, rfl⟩
                        · intro vs w' F hb hd hF hl hT
                          have e1 := ((hF 110).trans (look_at _ 110 15 _ _ (by kernel_rfl) (by kernel_rfl) hl)).trans (dep_of (Fact := F_h6c gq nv c21 j bX nb PP b lo v0 d0 d1 d2 P1 r1 r2 nvv) hd 15 (by kernel_rfl))
                          exact rg_sub _ _ _ _ rfl rfl ((PP : Int)) (1) (P1) e1 rfl (HD.out.2.2.1) ⟨_, rfl, Below.refl _ _, rfl⟩
                        · intro vs w' F hb hd hF hl hT
                          have ea0 := ((hF 107).trans (look_at _ 107 12 _ _ (by kernel_rfl) (by kernel_rfl) hl)).trans (dep_of (Fact := F_h6c gq nv c21 j bX nb PP b lo v0 d0 d1 d2 P1 r1 r2 nvv) hd 12 (by kernel_rfl))
                          have ea1 := ((hF 111).trans (look_at _ 111 16 _ _ (by kernel_rfl) (by kernel_rfl) hl)).trans (dep_of (Fact := F_h6c gq nv c21 j bX nb PP b lo v0 d0 d1 d2 P1 r1 r2 nvv) hd 16 (by kernel_rfl))
                          refine one_call _ _ rfl rfl (enters_of Try.func23 (by kernel_rfl) rfl) #[.int .i64 b, .int .i64 P1] (eval2 ea0 ea1) ?_
                          refine (CBa.out w').mono ?_
                          rintro e2 w2 ⟨rfl, hb2⟩
                          exact ⟨_, rfl, _, rfl, hb2, rfl⟩
                        · intro vs w' F hb hd hF hl hT
                          have e1 := ((hF 106).trans (look_at _ 106 11 _ _ (by kernel_rfl) (by kernel_rfl) hl)).trans (dep_of (Fact := F_h6c gq nv c21 j bX nb PP b lo v0 d0 d1 d2 P1 r1 r2 nvv) hd 11 (by kernel_rfl))
                          have e2 := ((hF 112).trans (look_at _ 112 17 _ _ (by kernel_rfl) (by kernel_rfl) hl)).trans (dep_of (Fact := F_h6c gq nv c21 j bX nb PP b lo v0 d0 d1 d2 P1 r1 r2 nvv) hd 17 (by kernel_rfl))
                          exact rg_add _ _ _ _ rfl rfl (d1) (r1) (d2) e1 e2 (HD.out.2.2.2.1) ⟨_, rfl, Below.refl _ _, rfl⟩
                        · intro vs w' F hb hd hF hl hT
                          have e := (hF 23).trans (look_out _ 23 _ _ (by kernel_rfl))
                          exact one_field _ _ _ rfl rfl _ _ e (1) (fun w => by kernel_rfl) ⟨_, rfl, Below.refl _ _, rfl⟩
                        · intro vs w' F hb hd hF hl hT
                          have e := ((hF 114).trans (look_at _ 114 19 _ _ (by kernel_rfl) (by kernel_rfl) hl)).trans (dep_of (Fact := F_h6c gq nv c21 j bX nb PP b lo v0 d0 d1 d2 P1 r1 r2 nvv) hd 19 (by kernel_rfl))
                          exact one_load _ _ rfl rfl _ _ e (cell_of_row _ _ 1 _ _ _ (heap_below HR23.out hb)) (by kernel_rfl) ⟨_, rfl, Below.refl _ _, rfl⟩
                        · intro vs w' F hb hd hF hl hT
                          have e2 := (((hF 115).trans (look_at _ 115 20 _ _ (by kernel_rfl) (by kernel_rfl) hl)).trans (dep_of (Fact := F_h6c gq nv c21 j bX nb PP b lo v0 d0 d1 d2 P1 r1 r2 nvv) hd 20 (by kernel_rfl)))
                          exact rg_shlP _ _ _ _ rfl rfl nb PP HNB.out HPP.out rfl e2 ⟨_, rfl, Below.refl _ _, rfl⟩
                        · intro vs w' F hb hd hF hl hT
                          have ea0 := ((hF 113).trans (look_at _ 113 18 _ _ (by kernel_rfl) (by kernel_rfl) hl)).trans (dep_of (Fact := F_h6c gq nv c21 j bX nb PP b lo v0 d0 d1 d2 P1 r1 r2 nvv) hd 18 (by kernel_rfl))
                          have ea1 := ((hF 116).trans (look_at _ 116 21 _ _ (by kernel_rfl) (by kernel_rfl) hl)).trans (dep_of (Fact := F_h6c gq nv c21 j bX nb PP b lo v0 d0 d1 d2 P1 r1 r2 nvv) hd 21 (by kernel_rfl))
                          refine one_call _ _ rfl rfl (enters_of Try.func23 (by kernel_rfl) rfl) #[.int .i64 d2, .int .i64 (PP : Int)] (eval2 ea0 ea1) ?_
                          refine (CBb.out w').mono ?_
                          rintro e2 w2 ⟨rfl, hb2⟩
                          exact ⟨_, rfl, _, rfl, hb2, rfl⟩
                        · intro vs w' F hb hd hF hl hT
                          have e1 := ((hF 98).trans (look_at _ 98 3 _ _ (by kernel_rfl) (by kernel_rfl) hl)).trans (dep_of (Fact := F_h6c gq nv c21 j bX nb PP b lo v0 d0 d1 d2 P1 r1 r2 nvv) hd 3 (by kernel_rfl))
                          have e2 := ((hF 117).trans (look_at _ 117 22 _ _ (by kernel_rfl) (by kernel_rfl) hl)).trans (dep_of (Fact := F_h6c gq nv c21 j bX nb PP b lo v0 d0 d1 d2 P1 r1 r2 nvv) hd 22 (by kernel_rfl))
                          exact rg_add _ _ _ _ rfl rfl (lo) (r2) (nvv) e1 e2 (HD.out.2.2.2.2) ⟨_, rfl, Below.refl _ _, rfl⟩
                        · intro vs w' F hb hd hF hl hT
                          have ex := ((hF 95).trans (look_at _ 95 0 _ _ (by kernel_rfl) (by kernel_rfl) hl)).trans (dep_of (Fact := F_h6c gq nv c21 j bX nb PP b lo v0 d0 d1 d2 P1 r1 r2 nvv) hd 0 (by kernel_rfl))
                          have ey := ((hF 96).trans (look_at _ 96 1 _ _ (by kernel_rfl) (by kernel_rfl) hl)).trans (dep_of (Fact := F_h6c gq nv c21 j bX nb PP b lo v0 d0 d1 d2 P1 r1 r2 nvv) hd 1 (by kernel_rfl))
                          exact one_index 22 _ _ rfl rfl (.slice (some ⟨gq, 0, none⟩) nv c21) (.int .i64 (j : Int)) (.pointer (some ⟨gq, j * 1, none⟩)) ex ey (fun w => by have h := rg_idx Try.underlying22 (show (Try.prog.info? 3).map (·.size) = some 1 by kernel_rfl) (gq) (0) (nv) (c21) (j) (HVT.out.1) w; rw [Nat.zero_add] at h; exact h) ⟨_, rfl, Below.refl _ _, rfl⟩
                      · intro vs8 W8 hl hb hI
                        have i24 : vs8.getD 24 undef = .pointer (some ⟨gq, j * 1, none⟩) := hI 24 (by omega)
                        have i23 : vs8.getD 23 undef = .int .i64 nvv := hI 23 (by omega)
                        rw [Nat.mul_one] at i24
                        obtain ⟨x0, x1, x2, x3, x4, x5, x6, x7, x8, x9, x10, x11, x12, x13, x14, x15, x16, x17, x18, x19, x20, x21, x22, x23, x24, x25, hvs⟩ := list26 hl
                        subst hvs
                        replace i24 : x24 = .pointer (some ⟨gq, j, none⟩) := i24
                        replace i23 : x23 = .int .i64 nvv := i23
                        subst i24 i23
                        have ho8 := own_below HOA.out hb
                        have z1 := ho8.cellAt j (by have := HVT.out.1; omega)
                        have hz1 : (vints .i64 vals)[j]? = some (.int .i64 v0) := by
                          have := HVC.out
                          rw [Nat.mul_one, HOA.out.cellAt j (by have := HVT.out.1; omega)] at this
                          exact this
                        rw [hz1] at z1
                        have k1 := ho8.frozenAt j
                        have hst := ho8.stored j (.int .i64 nvv)
                        have hge := (own_lt ho8 gq rfl).1
                        have HJ2 := Lib.hid (show JSt b fs vals (j : Int) nv (.slice (some ⟨gq, 0, none⟩) nv c21) w9 (j + 1) (W8.setCell ⟨gq, j, none⟩ (.int .i64 nvv)) from ⟨by
                          rw [HNEW.out, ← vints_set1]; exact hst.1, (bt HBAA.out hb).setCell hge _⟩)
                        clear hI hl hb ho8 hz1 hst hge
                        simp only [fillAll, Act.put, List.setIfInBounds_toArray, List.set_cons_succ, List.set_cons_zero, List.drop_succ_cons, List.drop_zero]
                        go_wp2_with fail
                        go_roundg (nv - (j + 1))
                        case measure => rw [G4.out]; have := HVT.out.1; omega
                        case rel => have := HVT.out.1; exact ⟨j + 1, -1, k, by omega, rfl, (by first | rfl | go_num | simp), by omega, rfl, rfl, HAA.out, HJ2⟩
                    · have t0 : (iq == 0) = false := by simp; exact h0
                      have HJ2 := Lib.hid (show JSt b fs vals ip nv (.slice (some ⟨gq, 0, none⟩) nv c21) w9 (j + 1) wA from ⟨by rw [jrow_ne _ _ _ _ _ (by have := HIQ.out; omega)]; exact hoA, hBA⟩)
                      have HA4 := Lib.hid (show A3 = if 0 ≤ ic ∧ ip - ((j + 1 : Nat) : Int) < 0 then k else A by
                        have := HIQ.out
                        rw [HA3.out]
                        by_cases hq : 0 ≤ ic ∧ iq < 0
                        · rw [if_pos hq, if_pos (by omega)]
                        · rw [if_neg hq, if_neg (by omega)])
                      clear hbJ hkc2 hjf hjv hfu hx hfx hcf hf hnb hnb1 hnb2 hlo1 hlo2 hv0 hvo hfn hlo hPP hP1 hP2 hba hr23 hwA hbX hBA hoA h0
                      go_wp2_with (rw [← HWA.out.1, ← HWA.out.2])
                      try rw [← HWA.out.1]
                      go_roundg (nv - (j + 1))
                      case measure => rw [G4.out]; have := HVT.out.1; omega
                      case rel => have := HVT.out.1; exact ⟨j + 1, _, A3, by omega, rfl, (by first | rfl | go_num | simp), rfl, rfl, rfl, HA4.out, HJ2⟩
                  · obtain rfl : j = nv := by omega
                    obtain ⟨VC, E, hrow, hgr, hEl, hEe, -, -⟩ := HP4.out
                    obtain ⟨css, hcss⟩ := hgr
                    have hbJ : Below wp.heap.size wp wr := bt HB9.out HJ.out.2
                    have hrow2 := heap_below hrow hbJ
                    have y2 := cell_of_row _ _ 2 _ _ _ hrow2
                    have x0 := cell_of_row _ _ 0 _ _ _ (heap_below HR20.out HJ.out.2)
                    have hown := HJ.out.1
                    rw [show jrow b fs ip vals j = chV b fs ip vals by rw [← jrow_end, HFS.out.2.1]] at hown
                    have hrl : (chV b fs ip vals).length = j := by rw [chV_len]; exact HFS.out.2.1
                    have hinU : Up w9.heap.size (fun w => IntsAt .i64 w a21 (chV b fs ip vals)) wr := fun w2 hs => IntsAt.of_own (own_same hown hs) hrl.symm
                    have hba := (Below.refl wr.heap.size wr).alloc (Nat.le_refl _) (.cells #[.int .i64 (kn : Int), .slice a21 j c21] 59 (0, 0))
                    have hcl := new_cellsT wr #[.int .i64 (kn : Int), .slice a21 j c21] 59
                    obtain ⟨w14, hw14⟩ : ∃ w, w = wr.alloc (.cells #[.int .i64 (kn : Int), .slice a21 j c21] 59 (0, 0)) := ⟨_, rfl⟩
                    rw [← hw14] at hba hcl
                    have hbV : Below wp.heap.size wp w14 := bt hbJ hba
                    have hownV := own_below hcss.2.2.1 hbV
                    rw [hEl] at hownV
                    have hbs : b18 + 1 ≤ w14.heap.size := by have := HBP.out.2.2; have := hbV.size; omega
                    have hp4 := HNC.out.2
                    have hpn := HJL.out
                    have HCS2 := Lib.hid hcss
                    have HW14 := Lib.hid hw14
                    have HBA := Lib.hid hba
                    have HBV := Lib.hid hbV
                    have HUP := Lib.hid hinU
                    have HRL := Lib.hid hrl
                    have HROW2 := Lib.hid (heap_below hrow2 hba)
                    have HE := Lib.hid (And.intro hEl hEe)
                    clear hrow hEl hEe hcss hbJ hrow2 hown hrl hinU hba hw14 hbV
                    go_wp2_with (rw [← HW14.out]; at_builtin; (refine wpList_append_cells rfl _ _ 60 rfl (b18 + 1) 59 (.agg #[.int .i64 0, .slice none 0 0]) 2 32 Try.underlying60 (by kernel_rfl) rfl (by decide) VC p css.flatten rfl hownV (some ⟨wr.heap.size, 0, none⟩) 1 1 [.int .i64 (kn : Int), .slice a21 j c21] rfl rfl hcl (by simp [Value.oneCell']) (by unfold maxLen; omega) (by omega) hbs ?_))
                    intro v' w15 hown' hg hor
                    obtain ⟨gv, cpv, hv', _, _⟩ := hown'.form (by omega)
                    subst hv'
                    have hlo : ∀ r, VC.ownBlock = some r → b18 + 1 ≤ r := fun r hr => (own_lt hownV r hr).1
                    have hrow15 := heap_gb HROW2.out hg (fun e => by have := hlo b18 e.symm; omega)
                    have z2 := cell_of_row _ _ 2 _ _ _ hrow15
                    have z3 := Mem.frozen_of_row hrow15 2
                    have hgr2 : GrowL EComp (b18 + 1) 59 2 w15 (.slice (some ⟨gv, 0, none⟩) (p + 1) cpv) (E ++ [⟨(kn : Int), chV b fs ip vals⟩]) :=
                      GrowL.pushS (by have := HBP.out.2.2; omega) (w := wp) (w2 := w14) HBV.out.size (fun q h1 h2 => HBV.out.block q h2) [.int .i64 (kn : Int), .slice a21 j c21] ⟨(kn : Int), chV b fs ip vals⟩ rfl
                        ⟨Nat.le_refl _, fun w2 h1 h2 => ⟨a21, c21, by show _ = [Value.int .i64 (kn : Int), .slice a21 (chV b fs ip vals).length c21]; rw [HRL.out], (HUP.out.below HBA.out) w2 ⟨h1, fun q q1 q2 => h2 q (by have := HB9.out.size; omega) q2⟩⟩⟩
                        HCS2.out (by rw [HE.out.1]; exact hown') hg hor
                    have HP5 := Lib.hid (show PSt y.kinds cs ic b tn tg b18 w8 (p + 1) iq (w15.setCell ⟨b18, 2, none⟩ (.slice (some ⟨gv, 0, none⟩) (p + 1) cpv)) from
                      ⟨.slice (some ⟨gv, 0, none⟩) (p + 1) cpv, E ++ [⟨(kn : Int), chV b fs ip vals⟩], heap_set hrow15 2 (.slice (some ⟨gv, 0, none⟩) (p + 1) cpv),
                       hgr2.frame (by simp) (fun q h1 h2 => Below.heap_setCell w15 ⟨b18, 2, none⟩ _ q (fun e => by have e2 : q = b18 := e; omega)),
                       by rw [List.length_append, HE.out.1]; rfl,
                       by rw [List.append_assoc, ← HE.out.2, HCH.out, HIQ.out]; rfl,
                       by rw [HIQ.out]; exact HIP.out.2.2.2.2,
                       ((bel_up HBP.out.1 HBV.out (Nat.le_of_lt HBP.out.2.2)).grown hg (by omega) (fun r hr => by have := hlo r hr; omega)).setCell (Nat.le_refl _) _⟩)
                    clear hlo hgr2 hown' hg hor hownV hcl hbs hrow15
                    go_wp2_with fail
                    go_roundg (nc - (p + 1))
                    case measure => rw [G3.out]; have := HJL.out; omega
                    case rel => have := HJL.out; exact ⟨p + 1, iq, A3, by omega, rfl, (by first | rfl | go_num | simp), rfl, rfl, HA3.out, HP5⟩
              · obtain rfl : p = nc := by omega
                obtain ⟨VC, E, hrow, hgr, hEl, hEe, hipE, hbP⟩ := HP4.out
                have hd0 : cs.drop p = [] := by rw [HNC.out.1, List.drop_length]
                have ht0 : cs.take p = cs := by rw [HNC.out.1, List.take_length]
                rw [hd0] at hEe
                rw [ht0] at hipE
                have hEq : E = chC b y.kinds ic cs := by rw [← hEe]; simp [chC]
                obtain ⟨aC, cC, hvC, _, _⟩ := hgr.slice
                have hup := GrowL.up EComp.at hgr aC cC hvC
                subst hvC
                obtain ⟨ne, hne⟩ : ∃ x, x = E.length := ⟨_, rfl⟩
                rw [← hne] at hrow
                obtain ⟨VI, D, hrW, hgD, hDl, hDe, hicE, hA1, hA5, hbO⟩ := HO.out
                obtain ⟨css, hcss⟩ := hgD
                have hbow : Below wo.heap.size wo wr := bel_up HB8.out hbP (by have := HR14.out; omega)
                have hrW2 := heap_below hrW hbow
                have u2 := cell_of_row _ _ 2 _ _ _ hrW2
                have t0 := cell_of_row _ _ 0 _ _ _ hrow
                have t1 := cell_of_row _ _ 1 _ _ _ hrow
                have t2 := cell_of_row _ _ 2 _ _ _ hrow
                have hba := (Below.refl wr.heap.size wr).alloc (Nat.le_refl _) (.cells #[.int .i64 tn, .int .i64 tg, .slice aC ne cC] 70 (0, 0))
                have hcl := new_cellsT wr #[.int .i64 tn, .int .i64 tg, .slice aC ne cC] 70
                obtain ⟨w14, hw14⟩ : ∃ w, w = wr.alloc (.cells #[.int .i64 tn, .int .i64 tg, .slice aC ne cC] 70 (0, 0)) := ⟨_, rfl⟩
                rw [← hw14] at hba hcl
                have hbV : Below wo.heap.size wo w14 := bt hbow hba
                have hownV := own_below hcss.2.2.1 hbV
                rw [hDl] at hownV
                have hbs : b14 + 1 ≤ w14.heap.size := by have := HR14.out; have := hbV.size; omega
                have hk8 := HS.out.1
                have hkq := HLT.out
                have HCS2 := Lib.hid hcss
                have HW14 := Lib.hid hw14
                have HBA := Lib.hid hba
                have HBV := Lib.hid hbV
                have HUP := Lib.hid hup
                have HRL := Lib.hid hne
                have HROW2 := Lib.hid (heap_below hrW2 hba)
                have HE := Lib.hid (And.intro hDl hDe)
                have HEQ := Lib.hid hEq
                have HIE := Lib.hid (show ip = ic - (totC cs : Int) ∧ ic = I0 - (totI (y.items.take k) : Int) from ⟨hipE, hicE⟩)
                have HAA := Lib.hid (And.intro hA1 hA5)
                have HTO := Lib.hid (show totC cs = totC t.comps by rw [HTT.out.2.2])
                clear hrow hgr hEl hEe hipE hbP hd0 ht0 hEq hup hne hrW hDl hDe hicE hA1 hA5 hcss hbow hrW2 hba hw14 hbV
                go_wp2_with (rw [← HW14.out]; at_builtin; (refine wpList_append_cells rfl _ _ 25 rfl (b14 + 1) 70 (.agg #[.int .i64 0, .int .i64 0, .slice none 0 0]) 3 40 Try.underlying25 (by kernel_rfl) rfl (by decide) VI k css.flatten rfl hownV (some ⟨wr.heap.size, 0, none⟩) 1 1 [.int .i64 tn, .int .i64 tg, .slice aC ne cC] rfl rfl hcl (by simp [Value.oneCell']) (by unfold maxLen; omega) (by omega) hbs ?_))
                intro v' w15 hown' hg hor
                obtain ⟨gv, cpv, hv', _, _⟩ := hown'.form (by omega)
                subst hv'
                have hlo : ∀ r, VI.ownBlock = some r → b14 + 1 ≤ r := fun r hr => (own_lt hownV r hr).1
                have hrow15 := heap_gb HROW2.out hg (fun e => by have := hlo b14 e.symm; omega)
                have z2 := cell_of_row _ _ 2 _ _ _ hrow15
                have z3 := Mem.frozen_of_row hrow15 2
                have hgr2 : GrowL EItem (b14 + 1) 70 3 w15 (.slice (some ⟨gv, 0, none⟩) (k + 1) cpv) (D ++ [⟨tn, tg, E⟩]) :=
                  GrowL.pushS (by have := HR14.out; omega) (w := wo) (w2 := w14) HBV.out.size (fun q h1 h2 => HBV.out.block q h2) [.int .i64 tn, .int .i64 tg, .slice aC ne cC] ⟨tn, tg, E⟩ rfl
                    ⟨Nat.le_refl _, fun w2 h1 h2 => ⟨aC, cC, by show _ = [Value.int .i64 tn, .int .i64 tg, .slice aC E.length cC]; rw [HRL.out], (HUP.out.below HBA.out) w2 ⟨h1, fun q q1 q2 => h2 q (by have := HR14.out; omega) q2⟩⟩⟩
                    HCS2.out (by rw [HE.out.1]; exact hown') hg hor
                have HO2 := Lib.hid (show OSt y I0 b b14 nk ck ng cg ak ag w6 (k + 1) ip A2 (w15.setCell ⟨b14, 2, none⟩ (.slice (some ⟨gv, 0, none⟩) (k + 1) cpv)) from
                  ⟨.slice (some ⟨gv, 0, none⟩) (k + 1) cpv, D ++ [⟨tn, tg, E⟩], heap_set hrow15 2 (.slice (some ⟨gv, 0, none⟩) (k + 1) cpv),
                   hgr2.frame (by simp) (fun q h1 h2 => Below.heap_setCell w15 ⟨b14, 2, none⟩ _ q (fun e => by have e2 : q = b14 := e; omega)),
                   by rw [List.length_append, HE.out.1]; rfl,
                   by rw [List.append_assoc, ← HE.out.2, HDR.out, chI, HIE.out.1, HTO.out, HEQ.out, HTT.out.1, HTT.out.2.1, HTT.out.2.2]; rfl,
                   by have := HSN.out.1; have := HIE.out; omega,
                   fun h => by
                    by_cases h0 : 0 ≤ ic
                    · rw [HA2.out, if_pos ⟨h0, h⟩, HAA.out.2 h0, HDR.out, atI, if_pos ⟨h0, by have := HIE.out; have := HTO.out; omega⟩]
                    · rw [HA2.out, if_neg (fun h2 => h0 h2.1)]; exact HAA.out.1 (by omega),
                   fun h => by
                    have h0 : 0 ≤ ic := by have := HIE.out; omega
                    rw [HAA.out.2 h0, HDR.out, atI, if_neg (by have := HIE.out; have := HTO.out; omega), HIE.out.1, HTO.out],
                   ((bel_up HBO.out HBV.out (by have := HR14.out; omega)).grown hg (by omega) (fun r hr => by have := hlo r hr; omega)).setCell (Nat.le_refl _) _⟩)
                clear hlo hgr2 hown' hg hor hownV hcl hbs hrow15
                go_wp2_with fail
                go_roundg (q - (k + 1))
                case measure => rw [GM2.out]; have := HLT.out; omega
                case rel => have := HLT.out; exact ⟨k + 1, ip, A2, by omega, rfl, (by first | rfl | go_num | simp), rfl, rfl, HO2⟩
          · obtain rfl : k = q := by omega
            obtain ⟨VI, D, hrW, hgD, hDl, hDe, hicE, hA1, hA5, hbO⟩ := HO.out
            have hd0 : y.items.drop k = [] := by rw [← HNI.out, List.drop_length]
            have ht0 : y.items.take k = y.items := by rw [← HNI.out, List.take_length]
            rw [hd0] at hDe
            rw [ht0] at hicE
            have hDq : D = chI b y.kinds I0 y.items := by rw [← hDe]; simp [chI]
            obtain ⟨aI, cI, hvI, _, _⟩ := hgD.slice
            have hup := GrowL.up EItem.at hgD aI cI hvI
            subst hvI
            obtain ⟨ne, hne⟩ : ∃ x, x = D.length := ⟨_, rfl⟩
            rw [← hne] at hrW
            have b0 := cell_of_row _ _ 0 _ _ _ hrW
            have b1 := cell_of_row _ _ 1 _ _ _ hrW
            have b2 := cell_of_row _ _ 2 _ _ _ hrW
            have hr6 := (hbO.block b6 HB14.out.2.1).trans HR6c.out
            have HR6w := Lib.hid hr6
            have HBW := Lib.hid (bel_up HB6.out hbO (by have := HB14.out; omega))
            have HUP := Lib.hid hup
            have HAA := Lib.hid (show A = atI y.items (i0 % (totI y.items : Int)) 0 by
              have h1 := HNN.out
              rw [hA1 (by have := HI0.out; omega), HI0.out.1, h1])
            have HDQ := Lib.hid (show D = chI b y.kinds (i0 % (totI y.items : Int)) y.items by rw [hDq, HI0.out.1, HNN.out])
            have HNE := Lib.hid hne
            have HPOS := Lib.hid (show 0 < totI y.items by rw [← HNN.out]; exact HN1.out.1)
            clear hrW hgD hDl hDe hicE hA1 hA5 hbO hd0 ht0 hDq hup hne hr6 HO
            go_wp2_with (refine wpList_store_rowP rfl 27 (.tmp 6) (.tmp 140) rfl b6 #[.slice ak nk ck, .slice ag ng cg, .slice aI ne cI] rfl rfl _ _ HR6w.out (by kernel_rfl) rfl (by simp [Value.oneCell']) ?_; intro w9 hput; have HPUT := Lib.hid hput; clear hput)
            have hput := HPUT.out
            refine bodyPost_ret (results_ctt Try.results6 _ _ b6 27 _ (0, 0) _ rfl hput.here Try.underlying27 rfl (by kernel_rfl)) rfl ?_
            have hbW9 : Below W.heap.size W w9 := HBW.out.trans (hput.below HB14.out.2.2)
            have hg9 := gb_putT hput
            refine ⟨Or.inr ⟨HPOS.out, _, (congrArg (fun z : Nat => Ending.returned (Value.tuple #[_, .int .i64 (z : Int), .bool true])) HAA.out), ?_⟩, hbW9⟩
            refine ⟨ak, ck, ag, cg, aI, cI, ?_, HZK.out.below KindAt.abides hbW9, HZG.out.below hbW9, ?_, by simp only; rw [HNK.out]; exact HCK.out.1, HCK.out.2⟩
            · simp only; rw [HNK.out, HNG.out, ← HDQ.out, HNE.out]
            · simp only; rw [← HDQ.out]
              exact HUP.out w9 ⟨hg9.size, fun q q1 q2 => hg9.block q q2 (some_ne (by have := HB14.out; omega))⟩
end Go.Proofs.Ytncnbfefciobcaa
end
