/- Lemmas for the law SystemChecks: KindCheck, Own, CloneI, KindErr. No conditions. -/
import Derived.Test.YtijeninfmjhbnaaDoorM06
import Derived.Deep.RegionHeld3
import Derived.Test.YtijeninfmjhbnaaDoorM01
import Derived.Maps.AppendAt
import Derived.Deep.AppendLies
import Derived.OwnWalk
import Derived.Test.YtijeninfmjhbnaaDoorRows
import Derived.Deep.DeepMust
import Derived.WalkSpells
import Derived.Lib.LazyBuf
import Derived.Great.BuildSlice
/- kind.Check. -/
section
namespace Go.Proofs.YtijeninfmjhbnaaDoor
open Go.ChangeShapes Go.WideShapes Go.ChangeAt Go.RowKit Go.Nm Go.Mem
set_option linter.unusedVariables false
theorem firstAt_ge (names : List ByteArray) (s : ByteArray) (k : Nat) : decide (firstAt names s k ≥ 0) = names.any fun a => a.toList == s.toList := by
  induction names generalizing k with
  | nil => rfl
  | cons a r ih =>
    unfold firstAt
    by_cases h : (a.toList == s.toList) = true
    · rw [if_pos h, List.any_cons, h]; simp
    · rw [if_neg h, ih, List.any_cons]
      have h2 : (a.toList == s.toList) = false := by simpa using h
      rw [h2]; rfl
theorem dup_first (names : List ByteArray) (i : Nat) (h : i < names.length) : decide (firstAt (names.take i) names[i] 0 ≥ 0) = dupAt names i := by
  rw [firstAt_ge]
  unfold dupAt
  rw [List.getD_eq_getElem?_getD, List.getElem?_eq_getElem h]; rfl
theorem knd_step (l : List KindV) (k : Nat) (h0 : kndErr l k = 0) : kndErr l (k + 1) = if kindE (l.getD k default) ≠ 0 then kindE (l.getD k default) else if dupAt (l.map (·.name)) k = true then 5 else 0 := by
  show (if kndErr l k ≠ 0 then _ else _) = _
  rw [if_neg (by rw [h0]; simp)]
theorem SlAt.take {α : Type} {sz : Nat} {E : World → Addr → α → Prop} {w : World} {a : Option Addr} {l : List α} (h : SlAt sz E w a l) (k : Nat) : SlAt sz E w a (l.take k) := fun h0 => by
  rw [List.length_take] at h0
  obtain ⟨x, h1, h2, h3⟩ := h (by omega)
  exact ⟨x, h1, h2, fun i hi => by rw [List.length_take] at hi; rw [List.getElem_take]; exact h3 i (by omega)⟩
theorem keepF {w w1 w2 : World} {p : Addr} {v : Value} {a : Option Addr} {l : List KindV} (h : w1.cell? p = some v ∧ SlAt 2 KindAt w1 a l ∧ Below w.heap.size w w1) (hb : Below w1.heap.size w1 w2) : w2.cell? p = some v ∧ SlAt 2 KindAt w2 a l ∧ Below w.heap.size w w2 :=
  ⟨cell_abides h.1 hb, h.2.1.below KindAt.abides hb, h.2.2.trans (hb.mono h.2.2.size)⟩
set_option maxHeartbeats 8000000 in
theorem kind_Check (l : List KindV) (a : Option Addr) (n cap : Nat) (hn : l.length = n) (h1 : n ≤ 9223372036854775807) (hnc : n ≤ cap) (hcm : cap ≤ 9223372036854775807) (W : World) (hz : SlAt 2 KindAt W a l) :
    Calls Tryd.prog 16 #[.slice a n cap] W fun e w' => e = .returned (.int .i64 (kindsE l)) ∧ Below W.heap.size W w' := by
  obtain ⟨R, hR⟩ : ∃ R, R = kindsE l := ⟨_, rfl⟩
  rw [← hR]
  have HR := Lib.hid hR
  have HN := Lib.hid hn
  have HZ := Lib.hid hz
  clear hR hn hz
  by_cases h16 : 16 < n
  · have HF := Lib.hid (show R = 2 by rw [HR.out]; unfold kindsE; rw [if_pos (by rw [HN.out]; exact h16)])
    go_enter Tryd.func16, Tryd.ntmps16
    go_wp2_with fail
    go_ret
    exact ⟨by rw [HF.out]; rfl, Below.refl _ _⟩
  · have HF := Lib.hid (show R = kndErr l n by rw [HR.out]; unfold kindsE; rw [if_neg (by rw [HN.out]; exact h16), HN.out])
    have h16' : n ≤ 16 := by omega
    clear h16
    go_enter Tryd.func16, Tryd.ntmps16
    go_wp2_with fail
    go_loopg [3, 4, 5, 11] n (fun gk v3 v4 v5 vi wx => ∃ i : Nat, i ≤ n ∧ gk = n - i ∧ vi = .int .i64 i ∧ kndErr l i = 0 ∧ Below W.heap.size W wx)
    case atStart => exact ⟨0, Nat.zero_le _, rfl, rfl, rfl, Below.refl _ _⟩
    case round =>
      obtain ⟨i, hi, g2, rfl, hfe, hb⟩ := hrel
      have G2 := Lib.hid g2
      have HFE := Lib.hid hfe
      have HB := Lib.hid hb
      have hbs := hb.size
      clear g2 hfe hb
      obtain ⟨Wo, rfl⟩ : ∃ Wo : World, Wo = wr := ⟨_, rfl⟩
      by_cases hlt : i < n
      · obtain ⟨x, rfl, hx, hix⟩ := (HZ.out.below KindAt.abides HB.out) (by rw [HN.out]; omega)
        obtain ⟨k0, kn, ay, cy, k1, k2, k3, k4⟩ := hix i (by rw [HN.out]; exact hlt)
        obtain ⟨y, hy⟩ : ∃ y, y = l[i]'(by rw [HN.out]; exact hlt) := ⟨_, rfl⟩
        rw [← hy] at k0 kn k1 k2 k4
        have hb2 := (Below.refl Wo.heap.size Wo).alloc (Nat.le_refl _) (.cells #[.string y.name, .slice ay y.fields.length cy] 43)
        have hc := kind_One y ay _ cy rfl kn k2 k3 _ (k4.below FieldAt.abides hb2)
        have hst := knd_step l i HFE.out
        rw [getD_at l i (by rw [HN.out]; exact hlt), ← hy] at hst
        obtain ⟨e1, he1⟩ : ∃ e1, e1 = kindE y := ⟨_, rfl⟩
        rw [← he1] at hc hst
        have HC := Lib.hid hc
        have HST := Lib.hid hst
        have HY := Lib.hid hy
        have HB2 := Lib.hid hb2
        clear hix hy hb2 hc hst he1 kn k2 k3 k4
        by_cases he : e1 = 0
        · subst he
          go_wp2_with fail
          refine HC.out.mono ?_
          rintro e w2 ⟨rfl, hb3⟩
          have hyb := heap_below (heap_alloc_new Wo (.cells #[.string y.name, .slice ay y.fields.length cy] 43)) hb3
          have hBo := HB2.out.trans (hb3.mono (by simp))
          have hBW := HB.out.trans (hBo.mono hbs)
          have d0 : w2.cell? ⟨Wo.heap.size, 0, none⟩ = some (.string y.name) := by rw [cell_of_row _ _ 0 _ _ _ hyb]; rfl
          have hfnd := kind_Find (l.take i) (some x) i cap y.name (by rw [List.length_take, HN.out]; omega) (by omega)
          have hds := dup_first (l.map (·.name)) i (by rw [List.length_map, HN.out]; exact hlt)
          rw [List.getElem_map, ← HY.out, ← List.map_take] at hds
          obtain ⟨q, hq⟩ : ∃ q, q = firstAt ((l.take i).map (·.name)) y.name 0 := ⟨_, rfl⟩
          rw [← hq] at hfnd hds
          have HFND := Lib.hid hfnd
          have HDS := Lib.hid hds
          have HBW := Lib.hid hBW
          have hic : i ≤ cap := by omega
          have hzw := (HZ.out.take i).below KindAt.abides hBW
          have HZW := Lib.hid hzw
          clear hb3 hyb hBo hfnd hds hq hBW hzw k0 k1
          have hbx : Below W.heap.size W w2 := HBW.out
          go_wp2_with fail
          go_region_held3 (fun w' => w'.cell? ⟨Wo.heap.size, 0, none⟩ = some (.string y.name) ∧ SlAt 2 KindAt w' (some x) (l.take i) ∧ Below W.heap.size W w')
            (first | exact ⟨d0, HZW.out, hbx.drew⟩ | assumption | exact keepF (by assumption) (by assumption))
            ((go_at_call 39; refine (HFND.out _ (And.left (And.right (by assumption)))).mono ?_; rintro e w8 ⟨rfl, hb8⟩))
          rename_i hHeld
          have HB9 := Lib.hid hHeld.2.2
          clear hHeld hb8
          by_cases hq : 0 ≤ q
          · have hR : R = 5 := by
              have hd : dupAt (l.map (·.name)) i = true := HDS.out.symm.trans (decide_eq_true hq)
              have hs := HST.out
              rw [if_neg (by simp), if_pos hd] at hs
              rw [HF.out, kndErr_stays l (i + 1) n hlt (by rw [hs]; decide), hs]
            have HR5 := Lib.hid hR
            clear hR
            go_wp2_with fail
            go_ret
            exact ⟨by rw [HR5.out]; rfl, HB9.out⟩
          · have hk2 : kndErr l (i + 1) = 0 := by
              have hd : dupAt (l.map (·.name)) i = false := HDS.out.symm.trans (decide_eq_false hq)
              have hs := HST.out
              rw [if_neg (by simp), if_neg (by rw [hd]; decide)] at hs
              exact hs
            have HK2 := Lib.hid hk2
            clear hk2
            go_wp2_with fail
            go_roundg (n - (i + 1))
            case measure => rw [G2.out]; omega
            case rel => exact ⟨i + 1, hlt, rfl, by go_num, HK2.out, HB9.out⟩
        · have t1 : (e1 != 0) = true := by rw [bne_iff_ne]; exact he
          have hR : R = e1 := by
            have hs := HST.out
            rw [if_pos he] at hs
            rw [HF.out, kndErr_stays l (i + 1) n hlt (by rw [hs]; exact he), hs]
          have HR5 := Lib.hid hR
          clear hR he
          go_wp2_with fail
          refine HC.out.mono ?_
          rintro e w2 ⟨rfl, hb3⟩
          have HBW := Lib.hid (HB.out.trans ((HB2.out.trans (hb3.mono (by simp))).mono hbs))
          clear hb3
          go_wp2_with fail
          go_ret
          exact ⟨by rw [HR5.out]; rfl, HBW.out⟩
      · have hie : i = n := by omega
        have HF0 := Lib.hid (show R = 0 by rw [HF.out, ← hie]; exact HFE.out)
        clear hie
        go_wp2_with fail
        go_ret
        exact ⟨by rw [HF0.out]; rfl, HB.out⟩
end Go.Proofs.YtijeninfmjhbnaaDoor
end
/- Rows of the call's own: kept, apart from each other; an append of a slice of integers. No program is named here. -/
section
namespace Go
open Go.RowKit
namespace Mem

/-! More on rows of the call's own. -/
theorem own_keep {w w2 : World} {base e size n : Nat} {v : Value} {xs : List Value} (h : w.ownsRow base e size v n xs) (hk : ∀ g, v.ownBlock = some g → w2.heap[g]? = w.heap[g]?) : w2.ownsRow base e size v n xs := by
  refine ⟨h.1, ?_⟩
  rcases h.2 with h2 | ⟨g, cap, cur, h1, h2, h3, h4⟩
  · exact .inl h2
  · exact .inr ⟨g, cap, cur, h1, h2, (hk g (by rw [h1]; rfl)).trans h3, h4⟩
theorem own_lt {w : World} {base e size n : Nat} {v : Value} {xs : List Value} (h : w.ownsRow base e size v n xs) (g : Nat) (hg : v.ownBlock = some g) : base ≤ g ∧ g < w.heap.size := by
  rcases h.2 with ⟨h2, _⟩ | ⟨g', cap, cur, h1, h2, h3, h4⟩
  · rw [h2] at hg; cases hg
  · rw [h1] at hg
    obtain rfl : g' = g := by simpa [Value.ownBlock] using hg
    exact ⟨h2, lt_of_heap h3⟩
theorem own_below {w w2 : World} {base e size n : Nat} {v : Value} {xs : List Value} (h : w.ownsRow base e size v n xs) (hb : Below w.heap.size w w2) : w2.ownsRow base e size v n xs :=
  own_keep h fun g hg => hb.block g (own_lt h g hg).2
theorem own_grown {w w2 : World} {base e size n : Nat} {v : Value} {xs : List Value} {row : Option Nat} (h : w.ownsRow base e size v n xs) (hg : w.grownBy w2 row) (hne : ∀ g, v.ownBlock = some g → some g ≠ row) : w2.ownsRow base e size v n xs :=
  own_keep h fun g hv => hg.block g (own_lt h g hv).2 (hne g hv)
/-- Rows of different element types lie in different blocks. -/
theorem own_other {w : World} {base base2 e e2 size size2 n n2 : Nat} {v v2 : Value} {xs ys : List Value} (h : w.ownsRow base e size v n xs) (h2 : w.ownsRow base2 e2 size2 v2 n2 ys) (hne : e ≠ e2) (g : Nat) (hg : v.ownBlock = some g) : some g ≠ v2.ownBlock := by
  intro he
  rcases h.2 with ⟨h3, _⟩ | ⟨g', cap, cur, h3, _, h4, _⟩
  · rw [h3] at hg; cases hg
  · rw [h3] at hg
    obtain rfl : g' = g := by simpa [Value.ownBlock] using hg
    rcases h2.2 with ⟨h5, _⟩ | ⟨g'', cap2, cur2, h5, _, h6, _⟩
    · rw [h5] at he; cases he
    · rw [h5] at he
      obtain rfl : g' = g'' := by simpa [Value.ownBlock] using he
      rw [h4] at h6
      injection h6 with h6
      injection h6 with _ ht
      exact hne ht
theorem own_base {w : World} {base base2 e size n : Nat} {v : Value} {xs : List Value} (h : w.ownsRow base e size v n xs) (hb : ∀ g, v.ownBlock = some g → base2 ≤ g) : w.ownsRow base2 e size v n xs := by
  refine ⟨h.1, ?_⟩
  rcases h.2 with h2 | ⟨g, cap, cur, h1, h2, h3⟩
  · exact .inl h2
  · exact .inr ⟨g, cap, cur, h1, hb g (by rw [h1]; rfl), h3⟩
theorem own_lower {w : World} {base base2 e size n : Nat} {v : Value} {xs : List Value} (h : w.ownsRow base e size v n xs) (hb : base2 ≤ base) : w.ownsRow base2 e size v n xs := own_base h fun g hg => Nat.le_trans hb (own_lt h g hg).1
/-- 'append(v, s...)' of a slice of integers, whatever it is, v nil or the call's own. -/
theorem wpList_append_ints {P : Program} {w : World} {ops : Array Oper} {rest : List Oper} {o : Oper} {a : Act} {Q : Exit → Act → World → Prop} (hgd : o.guard = none) (s x : Operand) (t : TypeId)
    (ho : o.op = .call { callee := .builtin .append, args := #[s, x], argTypes := #[t, t] })
    (base : Nat) (e : TypeId) (k : IntKind) (bytes : Nat) (ht : P.underlying t = some (.slice e)) (hi : (P.info? e).map (fun i => (i.zero, i.size, i.bytes)) = some (some (.int k 0), 1, bytes))
    (v : Value) (n : Nat) (xs : List Int) (hs : a.eval s = v) (hown : w.ownsRow base e 1 v n (vints k xs))
    (A : Option Addr) (m c : Nat) (zs : List Int) (hx : a.eval x = .slice A m c) (hm : zs.length = m) (hr : IntsAt k w A zs)
    (hn : n + m ≤ maxLen) (hbytes : (n + m) * bytes ≤ 140737488355328) (hbase : base ≤ w.heap.size)
    (h : ∀ v' w', w'.ownsRow base e 1 v' (n + m) (vints k (xs ++ zs)) → w.grownBy w' v.ownBlock → (v'.ownBlock = v.ownBlock ∨ v'.ownBlock = some w.heap.size) → wpList P ops Q rest (a.put o.dst v') w') :
    wpList P ops Q (o :: rest) a w := by
  obtain ⟨i, hi1, hi2, hi3, hi4⟩ := info_parts hi
  have key : ∃ v' w', (Builtin.append_ #[t, t] o.type #[v, .slice A m c]).run P w = .ok v' w' ∧ w'.ownsRow base e 1 v' (n + m) (vints k (xs ++ zs)) ∧ w.grownBy w' v.ownBlock ∧ (v'.ownBlock = v.ownBlock ∨ v'.ownBlock = some w.heap.size) := by
    by_cases h0 : m = 0
    · subst h0
      have hz : zs = [] := List.eq_nil_of_length_eq_zero hm
      subst hz
      rcases A with _ | ad
      · refine ⟨v, w, ?_, by simpa using hown, World.grownBy.refl w _, .inl rfl⟩
        rcases hown.2 with ⟨rfl, rfl⟩ | ⟨g, cap, cur, rfl, _, _, hnc, _⟩
        · simp [Builtin.append_, run_underlying ht, sizeOf, typeInfo, hi1, Builtin.lenOf, Builtin.firstCells]
        · simp [Builtin.append_, run_underlying ht, sizeOf, typeInfo, hi1, Builtin.lenOf, Builtin.firstCells, hnc, storeCells]
      · obtain ⟨v', w', hrun, h2, h3, _, h5⟩ := run_append_own_at (P := P) w base t o.type e i (.int k 0) 1 bytes ht hi1 hi2 hi3 hi4 rfl (by omega) v n _ hown ad 0 c [] rfl (by simp) (by simp) hn hbytes hbase
        exact ⟨v', w', hrun, by simpa using h2, h3, h5⟩
    · obtain ⟨ad, rfl, _, hc⟩ := hr (by omega)
      have hnews : ∀ j u, (vints k zs)[j]? = some u → w.cell? (ad.add j) = some u := by
        intro j u hu
        have hj : j < zs.length := by
          have := (List.getElem?_eq_some_iff.1 hu).1
          rwa [vints_length] at this
        rw [hc j hj]
        rw [vints_get k zs j hj] at hu
        exact hu
      obtain ⟨v', w', hrun, h2, h3, _, h5⟩ := run_append_own_at (P := P) w base t o.type e i (.int k 0) 1 bytes ht hi1 hi2 hi3 hi4 rfl (by omega) v n _ hown ad m c (vints k zs) (by rw [vints_length, hm, Nat.mul_one]) hnews (vints_one k zs) hn hbytes hbase
      rw [vints_append] at h2
      exact ⟨v', w', hrun, h2, h3, h5⟩
  obtain ⟨v', w', hrun, h2, h3, h4⟩ := key
  refine wpList_plain hgd fun K hK => ?_
  unfold Oper.wp execOp
  simp only [ho, resolve, invoke, builtin, Sem.run_bind, Sem.run_pure, Result.andThen_ok, List.map_toArray, List.map_cons, List.map_nil, hs, hx, hrun]
  exact hK _ _ (h v' w' h2 h3 h4)
end Mem
end Go
end
/- slices.Clone of ints. -/
section
namespace Go.Proofs.YtijeninfmjhbnaaDoor
open Go.ChangeShapes Go.WideShapes Go.ChangeAt Go.RowKit Go.Mem
set_option linter.unusedVariables false

/-- A slice of ints that the call owns. -/
def OwnPost (zs : List Int) (n : Nat) (w : World) (e : Ending) (w' : World) : Prop := ∃ v, e = .returned v ∧ w'.ownsRow w.heap.size 3 1 v n (vints .i64 zs) ∧ Below w.heap.size w w'

theorem own_slice {w : World} {base e size n : Nat} {v : Value} {xs : List Value} (h : w.ownsRow base e size v n xs) : ∃ a c, v = .slice a n c := by
  rcases h.2 with ⟨rfl, rfl⟩ | ⟨g, cap, cur, rfl, _⟩
  · exact ⟨none, 0, rfl⟩
  · exact ⟨_, cap, rfl⟩
/-- the clone, as a list in new memory -/
def ClonePost (l : List Int) (n : Nat) (w : World) (e : Ending) (w' : World) : Prop := ∃ a c, e = .returned (.slice a n c) ∧ IntsAt .i64 w' a l ∧ (∀ x, a = some x → w.heap.size ≤ x.block) ∧ Below w.heap.size w w'
end Go.Proofs.YtijeninfmjhbnaaDoor
end
/- ref twice, KindError, KindsError. -/
section
namespace Go.Proofs.YtijeninfmjhbnaaDoor
open Go.ChangeShapes Go.WideShapes Go.ChangeAt Go.RowKit Go.Nm Go.Mem
set_option linter.unusedVariables false
def vstrs (l : List ByteArray) : List Value := l.map Value.string
def StrsAt (w : World) (a : Option Addr) (l : List ByteArray) : Prop := SlAt 1 (fun w p s => w.cell? p = some (.string s)) w a l
theorem StrsAt.below {w w' : World} {a : Option Addr} {l : List ByteArray} (h : StrsAt w a l) (hb : Below w.heap.size w w') : StrsAt w' a l := SlAt.below (E := fun w p s => w.cell? p = some (.string s)) (fun _ _ _ _ h1 h2 => cell_abides h1 h2) h hb
theorem strs_own {w : World} {base e : Nat} {a : Option Addr} {n cap : Nat} {l : List ByteArray} (h : w.ownsRow base e 1 (.slice a n cap) n (vstrs l)) (hn : l.length = n) : StrsAt w a l := fun h0 => by
  obtain ⟨g, cap', hv, _, hlt⟩ := h.form (by omega)
  injection hv with hv
  subst hv
  refine ⟨_, rfl, hlt, fun i hi => ?_⟩
  rw [Nat.mul_one]
  exact h.cells (g := g) rfl i _ (by unfold vstrs; rw [List.getElem?_map, List.getElem?_eq_getElem hi]; rfl)
set_option maxHeartbeats 4000000 in
theorem index_strs (l : List ByteArray) (a : Option Addr) (n cap : Nat) (s : ByteArray) (hn : l.length = n) (h1 : n ≤ 17592186044000) (W : World) (hz : StrsAt W a l) :
    Calls Tryd.prog 90 #[.slice a n cap, .string s] W fun e w' => e = .returned (.int .i64 (firstAt l s 0)) ∧ Below W.heap.size W w' := by
  obtain ⟨R, hR⟩ : ∃ R, R = firstAt l s 0 := ⟨_, rfl⟩
  rw [← hR]
  have HR := Lib.hid hR
  have HN := Lib.hid hn
  have HZ := Lib.hid hz
  clear hR hn hz
  go_enter Tryd.func90, Tryd.ntmps90
  go_wp2_with fail
  go_loopg [5, 8] n (fun gk v5 vi wx => ∃ i : Nat, i ≤ n ∧ gk = n - i ∧ vi = .int .i64 i ∧ (∀ j (h : j < l.length), j < i → (l[j].toList == s.toList) = false) ∧ Below W.heap.size W wx)
  case atStart => exact ⟨0, Nat.zero_le _, rfl, rfl, fun j h h2 => absurd h2 (by omega), Below.refl _ _⟩
  case round =>
    obtain ⟨i, hi, g2, rfl, hat, hb⟩ := hrel
    have G2 := Lib.hid g2
    have HAT := Lib.hid hat
    have HB := Lib.hid hb
    clear g2 hat hb
    by_cases hlt : i < n
    · obtain ⟨x, rfl, hx, hix⟩ := (HZ.out.below HB.out) (by rw [HN.out]; omega)
      have k0 := hix i (by rw [HN.out]; exact hlt)
      simp only [Nat.mul_one] at k0
      obtain ⟨y, hy⟩ : ∃ y, y = l[i]'(by rw [HN.out]; exact hlt) := ⟨_, rfl⟩
      rw [← hy] at k0
      have HY := Lib.hid hy
      clear hix hy
      by_cases he : (y.toList == s.toList) = true
      · have he3 : (s.toList == y.toList) = true := by rw [beq_iff_eq] at he ⊢; exact he.symm
        have HF := Lib.hid (show R = (i : Int) by
          rw [HR.out]
          have := firstAt_some l s 0 i (by rw [HN.out]; exact hlt) (fun j hj hji => HAT.out j hj hji) (by rw [← HY.out]; exact he)
          rw [this]; simp)
        go_wp2_with fail
        go_ret
        exact ⟨by rw [HF.out]; rfl, HB.out⟩
      · have he2 : (y.toList == s.toList) = false := by simpa using he
        have he3 : (s.toList == y.toList) = false := by rw [beq_eq_false_iff_ne] at he2 ⊢; exact he2.symm
        have HE := Lib.hid he2
        clear he
        go_wp2_with fail
        go_roundg (n - (i + 1))
        case measure => rw [G2.out]; omega
        case rel => exact ⟨i + 1, hlt, rfl, by go_num, fun j h hj => by
          by_cases hji : j < i
          · exact HAT.out j h hji
          · obtain rfl : j = i := by omega
            rw [← HY.out]; exact HE.out, HB.out⟩
    · have HF := Lib.hid (show R = -1 by
        rw [HR.out]
        exact firstAt_none _ _ _ fun j hj => HAT.out j hj (by rw [HN.out] at hj; omega))
      go_wp2_with fail
      go_ret
      exact ⟨by rw [HF.out]; rfl, HB.out⟩
theorem contains_strs (l : List ByteArray) (a : Option Addr) (n cap : Nat) (s : ByteArray) (hn : l.length = n) (h1 : n ≤ 17592186044000) (W : World) (hz : StrsAt W a l) :
    Calls Tryd.prog 53 #[.slice a n cap, .string s] W fun e w' => e = .returned (.bool (l.any fun a => a.toList == s.toList)) ∧ Below W.heap.size W w' := by
  have hc := index_strs l a n cap s hn h1 W hz
  obtain ⟨q, hq⟩ : ∃ q, q = firstAt l s 0 := ⟨_, rfl⟩
  have hd := firstAt_ge l s 0
  rw [← hq] at hc hd
  have HC := Lib.hid hc
  have HD := Lib.hid hd
  clear hc hd hq hn hz
  go_enter Tryd.func53, Tryd.ntmps53
  go_wp2_with (first | (go_at_call 90; refine HC.out.mono ?_; rintro e w1 ⟨rfl, hb1⟩) | go_in)
  go_ret
  exact ⟨by rw [← HD.out]; rfl, hb1⟩
theorem vstrs_snoc (l : List ByteArray) (s : ByteArray) : vstrs l ++ #[Value.string s].toList = vstrs (l ++ [s]) := by simp [vstrs]
theorem take_snoc' {α : Type} (l : List α) (j : Nat) (h : j < l.length) : l.take (j + 1) = l.take j ++ [l[j]] := by
  rw [List.take_add_one, List.getElem?_eq_getElem h]; rfl
theorem dup_any (names : List ByteArray) (i : Nat) (h : i < names.length) : ((names.take i).any fun a => a.toList == names[i].toList) = dupAt names i := by
  unfold dupAt
  rw [List.getD_eq_getElem?_getD, List.getElem?_eq_getElem h]; rfl
set_option maxHeartbeats 8000000 in
theorem ref_KindError (k : KindV) (a : Option Addr) (n cap : Nat) (hn : k.fields.length = n) (hnm : k.name.size ≤ 9223372036854775807) (hn9 : n ≤ 9223372036854775807) (W : World) (hz : SlAt 3 FieldAt W a k.fields) :
    Calls Tryd.prog 52 #[.agg #[.string k.name, .slice a n cap]] W fun e w' => e = .returned (.int .i64 (kindE k)) ∧ Below W.heap.size W w' := by
  obtain ⟨nm, l⟩ := k
  simp only at hn hnm hz ⊢
  obtain ⟨R, hR⟩ : ∃ R, R = kindE ⟨nm, l⟩ := ⟨_, rfl⟩
  rw [← hR]
  have HR := Lib.hid hR
  have HN := Lib.hid hn
  have HZ := Lib.hid hz
  have HNM := Lib.hid (ref_IsName nm hnm)
  have hb0 := (Below.refl W.heap.size W).alloc (Nat.le_refl _) (.cells #[.string nm, .slice a n cap] 43)
  have x0 := heap_alloc_new W (.cells #[.string nm, .slice a n cap] 43)
  have HB0 := Lib.hid hb0
  have HX0 := Lib.hid x0
  clear hR hn hz hnm hb0 x0
  cases hnb : nameB nm.data.toList
  · have HF := Lib.hid (show R = 3 by rw [HR.out]; unfold kindE; rw [if_pos hnb])
    rw [hnb] at HNM
    clear hnb
    go_enter Tryd.func52, Tryd.ntmps52
    go_wp2_with fail
    refine (HNM.out _).mono ?_
    rintro e w1 ⟨rfl, hb1⟩
    go_wp2_with fail
    go_ret
    exact ⟨by rw [HF.out]; rfl, HB0.out.trans (hb1.mono (by simp))⟩
  · rw [hnb] at HNM
    by_cases h8 : 8 < n
    · have HF := Lib.hid (show R = 2 by rw [HR.out]; unfold kindE; rw [if_neg (by rw [hnb]; decide), if_pos (by rw [HN.out]; exact h8)])
      clear hnb
      go_enter Tryd.func52, Tryd.ntmps52
      go_wp2_with fail
      refine (HNM.out _).mono ?_
      rintro e w1 ⟨rfl, hb1⟩
      have c1 : w1.cell? ⟨W.heap.size, 1, none⟩ = some (.slice a n cap) := by rw [cell_of_row _ _ 1 _ _ _ (heap_below HX0.out hb1)]; rfl
      have HB1 := Lib.hid (HB0.out.trans (hb1.mono (by simp)))
      clear hb1
      go_wp2_with fail
      go_ret
      exact ⟨by rw [HF.out]; rfl, HB1.out⟩
    · have HF := Lib.hid (show R = fldErr l n by rw [HR.out]; unfold kindE; rw [if_neg (by rw [hnb]; decide), if_neg (by rw [HN.out]; exact h8)]; rw [HN.out])
      have h8' : n ≤ 8 := by omega
      clear hnb h8
      go_enter Tryd.func52, Tryd.ntmps52
      go_wp2_with fail
      refine (HNM.out _).mono ?_
      rintro e w1 ⟨rfl, hb1⟩
      have c1 : w1.cell? ⟨W.heap.size, 1, none⟩ = some (.slice a n cap) := by rw [cell_of_row _ _ 1 _ _ _ (heap_below HX0.out hb1)]; rfl
      have HB1 := Lib.hid (HB0.out.trans (hb1.mono (by simp)))
      have hs1 : W.heap.size ≤ w1.heap.size := HB1.out.size
      clear hb1
      go_wp2_with fail
      clear c1
      go_loopg [3, 5, 17] n (fun gk v3 v5 vi wx => ∃ i : Nat, i ≤ n ∧ gk = n - i ∧ vi = .int .i64 i ∧ fldErr l i = 0 ∧ wx.ownsRow W.heap.size 9 1 v3 i (vstrs ((l.map (·.name)).take i)) ∧ Below W.heap.size W wx)
      case atStart => exact ⟨0, Nat.zero_le _, rfl, rfl, rfl, World.ownsRow_nil _ _ _ _, HB1.out⟩
      case round =>
        obtain ⟨i, hi, g2, rfl, hfe, hown, hb⟩ := hrel
        have G2 := Lib.hid g2
        have HFE := Lib.hid hfe
        have HB := Lib.hid hb
        have HO := Lib.hid hown
        have hbs := hb.size
        obtain ⟨av, cv, rfl⟩ := own_slice hown
        clear g2 hfe hown hb
        obtain ⟨Wo, rfl⟩ : ∃ Wo : World, Wo = wr := ⟨_, rfl⟩
        by_cases hlt : i < n
        · obtain ⟨x, rfl, hx, hix⟩ := (HZ.out.below FieldAt.abides HB.out) (by rw [HN.out]; omega)
          obtain ⟨k0, k1, k2, k3⟩ := hix i (by rw [HN.out]; exact hlt)
          obtain ⟨y, hy⟩ : ∃ y, y = l[i]'(by rw [HN.out]; exact hlt) := ⟨_, rfl⟩
          rw [← hy] at k0 k1 k2 k3
          have hb2 := (Below.refl Wo.heap.size Wo).alloc (Nat.le_refl _) (.cells #[.string y.name, .int .i64 y.bits, .int .i64 y.low] 40)
          have hc := ref_FieldOK y.name y.bits y.low k3 (Wo.alloc (.cells #[.string y.name, .int .i64 y.bits, .int .i64 y.low] 40))
          have HY := Lib.hid hy
          have HB2 := Lib.hid hb2
          clear hix hb2 k3
          have hst := fld_step l i HFE.out
          rw [getD_at l i (by rw [HN.out]; exact hlt), ← HY.out] at hst
          have hnames : i < (l.map (·.name)).length := by rw [List.length_map, HN.out]; exact hlt
          have hgn : (l.map (·.name))[i] = y.name := by rw [List.getElem_map, ← hy]
          have hda := dup_any (l.map (·.name)) i hnames
          rw [hgn] at hda
          have htk := take_snoc' (l.map (·.name)) i hnames
          rw [hgn] at htk
          have hnl : ((l.map (·.name)).take i).length = i := by rw [List.length_take]; omega
          unfold okF at hst
          obtain ⟨NM, hNM⟩ : ∃ NM, NM = (l.map (·.name)).take i := ⟨_, rfl⟩
          rw [← hNM] at HO hda htk hnl
          obtain ⟨dv, hdv⟩ : ∃ dv, dv = dupAt (l.map (·.name)) i := ⟨_, rfl⟩
          rw [← hdv] at hst hda
          have HDA := Lib.hid hda
          have HTK := Lib.hid htk
          have HNL := Lib.hid hnl
          obtain ⟨ok, hok⟩ : ∃ ok, ok = fieldB y.name y.bits y.low := ⟨_, rfl⟩
          rw [← hok] at hst hc
          have HC := Lib.hid hc
          have HST := Lib.hid hst
          clear hy hst hc hok hnames hgn hda htk hnl hNM hdv
          cases ok
          · go_wp2_with fail
            refine HC.out.mono ?_
            rintro e w2 ⟨rfl, hb3⟩
            have HB3 := Lib.hid (HB.out.trans ((HB2.out.trans (hb3.mono (by simp))).mono hbs))
            clear hb3
            go_wp2_with fail
            go_ret
            refine ⟨?_, HB3.out⟩
            have hs := HST.out
            simp at hs
            rw [HF.out, fldErr_stays l (i + 1) n hlt (by rw [hs]; decide), hs]; rfl
          · go_wp2_with fail
            refine HC.out.mono ?_
            rintro e w2 ⟨rfl, hb3⟩
            have hyb := heap_below (heap_alloc_new Wo (.cells #[.string y.name, .int .i64 y.bits, .int .i64 y.low] 40)) hb3
            have hBo := HB2.out.trans (hb3.mono (by simp))
            have d0 : w2.cell? ⟨Wo.heap.size, 0, none⟩ = some (.string y.name) := by rw [cell_of_row _ _ 0 _ _ _ hyb]; rfl
            have ho2 := own_below HO.out hBo
            have htw := contains_strs NM av i cv y.name HNL.out (by omega) w2 (strs_own ho2 HNL.out)
            rw [HDA.out] at htw
            have HTW := Lib.hid htw
            have HYB := Lib.hid hyb
            have HO2 := Lib.hid ho2
            have HBW := Lib.hid (HB.out.trans (hBo.mono hbs))
            clear hb3 hyb hBo ho2 htw HO
            go_wp2_with fail
            refine HTW.out.mono ?_
            rintro e w3 ⟨rfl, hb4⟩
            have e0 : w3.cell? ⟨Wo.heap.size, 0, none⟩ = some (.string y.name) := by rw [cell_of_row _ _ 0 _ _ _ (heap_below HYB.out hb4)]; rfl
            have ho3 := own_below HO2.out hb4
            have hb5 := HBW.out.trans (hb4.mono HBW.out.size)
            have HB5 := Lib.hid hb5
            have hs5 := hb5.size
            clear d0 hb4 hb5
            cases dv
            · have hf2 : fldErr l (i + 1) = 0 := by
                have hs := HST.out
                simp at hs
                exact hs
              have HF2 := Lib.hid hf2
              clear hf2
              go_wp2_with (at_builtin; go_must (refine wpList_append_new rfl _ _ 97 rfl W.heap.size 9 (.string ByteArray.empty) 1 16 Tryd.underlying97 (by kernel_rfl) rfl (by decide) _ _ _ rfl ho3 _ _ rfl rfl rfl (by omega) (by decide) hs5 ?_))
              intro g' cap' w' hown' hg hor hlt'
              rw [vstrs_snoc, ← HTK.out] at hown'
              have HO4 := Lib.hid hown'
              have HB6 := Lib.hid (HB5.out.grown hg hs5 (fun g hg2 => (own_lt ho3 g hg2).1))
              clear hown' hg hor ho3
              go_wp2_with fail
              go_roundg (n - (i + 1))
              case measure => rw [G2.out]; omega
              case rel => exact ⟨i + 1, hlt, rfl, by go_num, HF2.out, HO4.out, HB6.out⟩
            · go_wp2_with fail
              go_ret
              refine ⟨?_, HB5.out⟩
              have hs := HST.out
              simp at hs
              rw [HF.out, fldErr_stays l (i + 1) n hlt (by rw [hs]; decide), hs]; rfl
        · have hie : i = n := by omega
          have HF0 := Lib.hid (show R = 0 by rw [HF.out, ← hie]; exact HFE.out)
          clear hie
          go_wp2_with fail
          go_ret
          exact ⟨by rw [HF0.out]; rfl, HB.out⟩
set_option maxHeartbeats 8000000 in
theorem ref_KindsError (l : List KindV) (a : Option Addr) (n cap : Nat) (hn : l.length = n) (hn9 : n ≤ 9223372036854775807) (W : World) (hz : SlAt 2 KindAt W a l) :
    Calls Tryd.prog 26 #[.slice a n cap] W fun e w' => e = .returned (.int .i64 (kindsE l)) ∧ Below W.heap.size W w' := by
  obtain ⟨R, hR⟩ : ∃ R, R = kindsE l := ⟨_, rfl⟩
  rw [← hR]
  have HR := Lib.hid hR
  have HN := Lib.hid hn
  have HZ := Lib.hid hz
  clear hR hn hz
  by_cases h16 : 16 < n
  · have HF := Lib.hid (show R = 2 by rw [HR.out]; unfold kindsE; rw [if_pos (by rw [HN.out]; exact h16)])
    go_enter Tryd.func26, Tryd.ntmps26
    go_wp2_with fail
    go_ret
    exact ⟨by rw [HF.out]; rfl, Below.refl _ _⟩
  · have HF := Lib.hid (show R = kndErr l n by rw [HR.out]; unfold kindsE; rw [if_neg (by rw [HN.out]; exact h16), HN.out])
    have h16' : n ≤ 16 := by omega
    clear h16
    go_enter Tryd.func26, Tryd.ntmps26
    go_wp2_with fail
    go_loopg [3, 5, 6, 12] n (fun gk v3 v5 v6 vi wx => ∃ i : Nat, i ≤ n ∧ gk = n - i ∧ vi = .int .i64 i ∧ kndErr l i = 0 ∧ wx.ownsRow W.heap.size 9 1 v3 i (vstrs ((l.map (·.name)).take i)) ∧ Below W.heap.size W wx)
    case atStart => exact ⟨0, Nat.zero_le _, rfl, rfl, rfl, World.ownsRow_nil _ _ _ _, Below.refl _ _⟩
    case round =>
      obtain ⟨i, hi, g2, rfl, hfe, hown, hb⟩ := hrel
      have G2 := Lib.hid g2
      have HFE := Lib.hid hfe
      have HB := Lib.hid hb
      have HO := Lib.hid hown
      have hbs := hb.size
      obtain ⟨av, cv, rfl⟩ := own_slice hown
      clear g2 hfe hown hb
      obtain ⟨Wo, rfl⟩ : ∃ Wo : World, Wo = wr := ⟨_, rfl⟩
      by_cases hlt : i < n
      · obtain ⟨x, rfl, hx, hix⟩ := (HZ.out.below KindAt.abides HB.out) (by rw [HN.out]; omega)
        obtain ⟨k0, kn, ay, cy, k1, k2, k3, k4⟩ := hix i (by rw [HN.out]; exact hlt)
        obtain ⟨y, hy⟩ : ∃ y, y = l[i]'(by rw [HN.out]; exact hlt) := ⟨_, rfl⟩
        rw [← hy] at k0 kn k1 k2 k4
        have hb2 := (Below.refl Wo.heap.size Wo).alloc (Nat.le_refl _) (.cells #[.string y.name, .slice ay y.fields.length cy] 43)
        have hc := ref_KindError y ay _ cy rfl kn (by omega) _ (k4.below FieldAt.abides hb2)
        have HY := Lib.hid hy
        have HB2 := Lib.hid hb2
        have hst := knd_step l i HFE.out
        rw [getD_at l i (by rw [HN.out]; exact hlt), ← hy] at hst
        have hnames : i < (l.map (·.name)).length := by rw [List.length_map, HN.out]; exact hlt
        have hgn : (l.map (·.name))[i] = y.name := by rw [List.getElem_map, ← hy]
        have hda := dup_any (l.map (·.name)) i hnames
        rw [hgn] at hda
        have htk := take_snoc' (l.map (·.name)) i hnames
        rw [hgn] at htk
        have hnl : ((l.map (·.name)).take i).length = i := by rw [List.length_take]; omega
        obtain ⟨NM, hNM⟩ : ∃ NM, NM = (l.map (·.name)).take i := ⟨_, rfl⟩
        rw [← hNM] at HO hda htk hnl
        obtain ⟨dv, hdv⟩ : ∃ dv, dv = dupAt (l.map (·.name)) i := ⟨_, rfl⟩
        rw [← hdv] at hst hda
        have HDA := Lib.hid hda
        have HTK := Lib.hid htk
        have HNL := Lib.hid hnl
        obtain ⟨e1, he1⟩ : ∃ e1, e1 = kindE y := ⟨_, rfl⟩
        rw [← he1] at hst hc
        have HC := Lib.hid hc
        have HST := Lib.hid hst
        clear hix hb2 hy hst hc he1 hnames hgn hda htk hnl hNM hdv kn k2 k3 k4
        by_cases he : e1 = 0
        · subst he
          go_wp2_with fail
          refine HC.out.mono ?_
          rintro e w2 ⟨rfl, hb3⟩
          have hyb := heap_below (heap_alloc_new Wo (.cells #[.string y.name, .slice ay y.fields.length cy] 43)) hb3
          have hBo := HB2.out.trans (hb3.mono (by simp))
          have d0 : w2.cell? ⟨Wo.heap.size, 0, none⟩ = some (.string y.name) := by rw [cell_of_row _ _ 0 _ _ _ hyb]; rfl
          have ho2 := own_below HO.out hBo
          have htw := contains_strs NM av i cv y.name HNL.out (by omega) w2 (strs_own ho2 HNL.out)
          rw [HDA.out] at htw
          have HTW := Lib.hid htw
          have HYB := Lib.hid hyb
          have HO2 := Lib.hid ho2
          have HBW := Lib.hid (HB.out.trans (hBo.mono hbs))
          clear hb3 hyb hBo ho2 htw HO
          go_wp2_with fail
          refine HTW.out.mono ?_
          rintro e w3 ⟨rfl, hb4⟩
          have e0 : w3.cell? ⟨Wo.heap.size, 0, none⟩ = some (.string y.name) := by rw [cell_of_row _ _ 0 _ _ _ (heap_below HYB.out hb4)]; rfl
          have ho3 := own_below HO2.out hb4
          have hb5 := HBW.out.trans (hb4.mono HBW.out.size)
          have HB5 := Lib.hid hb5
          have hs5 := hb5.size
          clear d0 hb4 hb5
          cases dv
          · have hf2 : kndErr l (i + 1) = 0 := by
              have hs := HST.out
              simp at hs
              exact hs
            have HF2 := Lib.hid hf2
            clear hf2
            go_wp2_with (at_builtin; go_must (refine wpList_append_new rfl _ _ 97 rfl W.heap.size 9 (.string ByteArray.empty) 1 16 Tryd.underlying97 (by kernel_rfl) rfl (by decide) _ _ _ rfl ho3 _ _ rfl rfl rfl (by omega) (by decide) hs5 ?_))
            intro g' cap' w' hown' hg hor hlt'
            rw [vstrs_snoc, ← HTK.out] at hown'
            have HO4 := Lib.hid hown'
            have HB6 := Lib.hid (HB5.out.grown hg hs5 (fun g hg2 => (own_lt ho3 g hg2).1))
            clear hown' hg hor ho3
            go_wp2_with fail
            go_roundg (n - (i + 1))
            case measure => rw [G2.out]; omega
            case rel => exact ⟨i + 1, hlt, rfl, by go_num, HF2.out, HO4.out, HB6.out⟩
          · go_wp2_with fail
            go_ret
            refine ⟨?_, HB5.out⟩
            have hs := HST.out
            simp at hs
            rw [HF.out, kndErr_stays l (i + 1) n hlt (by rw [hs]; decide), hs]; rfl
        · have t1 : (e1 != 0) = true := by rw [bne_iff_ne]; exact he
          have hR : R = e1 := by
            have hs := HST.out
            rw [if_pos he] at hs
            rw [HF.out, kndErr_stays l (i + 1) n hlt (by rw [hs]; exact he), hs]
          have HR5 := Lib.hid hR
          clear hR he
          go_wp2_with fail
          refine HC.out.mono ?_
          rintro e w2 ⟨rfl, hb3⟩
          have HBW := Lib.hid (HB.out.trans ((HB2.out.trans (hb3.mono (by simp))).mono hbs))
          clear hb3
          go_wp2_with fail
          go_ret
          exact ⟨by rw [HR5.out]; rfl, HBW.out⟩
      · have hie : i = n := by omega
        have HF0 := Lib.hid (show R = 0 by rw [HF.out, ← hie]; exact HFE.out)
        clear hie
        go_wp2_with fail
        go_ret
        exact ⟨by rw [HF0.out]; rfl, HB.out⟩
end Go.Proofs.YtijeninfmjhbnaaDoor
end
