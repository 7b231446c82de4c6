/- Lemmas for the law TopSlotWorld: Mem3, AggB, NameP, NameW, FieldW, ApiKind, ApiComp, ApiItem, ApiWorld, KindCells. No conditions. -/
import Derived.Test.YtpilpkbblkhnaaaM01
import Derived.Laws.MakeOwn
import Derived.Test.YtpilpkbblkhnaaaM03
import Derived.Test.YtpilpkbblkhnaaaM06
import Derived.Lib.SlTrimSet
import Derived.Test.YtpilpkbblkhnaaaRows
import Derived.WalkKit
import Derived.ProofKit
import Derived.Lib.Hide
import Derived.Deep.LoopGhost
/- Rows of elements of several cells: made, and written. No program is named here. -/
section
namespace Go
open Go.RowKit
namespace Mem
/-- Block g is a row of N cells. -/
def Blk (w : World) (g : Nat) (t : TypeId) (N : Nat) : Prop := ∃ cs, w.heap[g]? = some (.cells cs t (0, 0)) ∧ cs.size = N
theorem Blk.lt {w : World} {g : Nat} {t : TypeId} {N : Nat} (h : Blk w g t N) : g < w.heap.size := by obtain ⟨cs, h1, _⟩ := h; exact lt_of_heap h1
theorem Blk.below {w w' : World} {g : Nat} {t : TypeId} {N : Nat} (h : Blk w g t N) (hb : Below w.heap.size w w') : Blk w' g t N := by obtain ⟨cs, h1, h2⟩ := h; exact ⟨cs, heap_below h1 hb, h2⟩
theorem Blk.set {w : World} {g : Nat} {t : TypeId} {N : Nat} (h : Blk w g t N) (i : Nat) (v : Value) : Blk (w.setCell ⟨g, i, none⟩ v) g t N := by
  obtain ⟨cs, h1, h2⟩ := h
  exact ⟨_, heap_set h1 i v, by simpa using h2⟩
theorem Blk.far {w : World} {g : Nat} {t : TypeId} {N : Nat} (h : Blk w g t N) {p : Addr} (hne : g ≠ p.block) (v : Value) : Blk (w.setCell p v) g t N := by
  obtain ⟨cs, h1, h2⟩ := h
  exact ⟨_, heap_far h1 hne v, h2⟩
theorem Blk.cell {w : World} {g : Nat} {t : TypeId} {N : Nat} (h : Blk w g t N) (i : Nat) (hi : i < N) : ∃ v, w.cell? ⟨g, i, none⟩ = some v := by
  obtain ⟨cs, h1, h2⟩ := h
  rw [cell_of_row w g i _ _ _ h1]
  exact ⟨cs[i]'(by omega), Array.getElem?_eq_getElem (by omega)⟩
theorem Blk.frozen {w : World} {g : Nat} {t : TypeId} {N : Nat} (h : Blk w g t N) (i : Nat) : w.frozen? ⟨g, i, none⟩ = false := by
  obtain ⟨cs, h1, _⟩ := h; exact Mem.frozen_of_row h1 i
theorem wpList_make_blk {P : Program} {ops : Array Oper} {rest : List Oper} {o : Oper} {a : Act} {w : World} {Q : Exit → Act → World → Prop}
    (hg : o.guard = none) (l c : Operand) (t : TypeId) (hop : o.op = Op.makeSlice t l c) (e : TypeId) (z : Value) (sz bytes : Nat) (h1 : P.underlying t = some (.slice e)) (h2 : (P.info? e).map (fun i => (i.zero, i.size, i.bytes)) = some (some z, sz, bytes))
    (kl kc : IntKind) (L C : Int) (n : Nat) (hl : a.eval l = .int kl L) (hc : a.eval c = .int kc C) (hL : L = (n : Int)) (hC : C = (n : Int)) (b2 : bytes * n ≤ 281474976710656) (b3 : n ≤ maxLen)
    (hK : ∀ w2, Blk w2 w.heap.size e (n * sz) → Below w.heap.size w w2 → w2.heap.size = w.heap.size + 1 → wpList P ops Q rest (a.put o.dst (.slice (some ⟨w.heap.size, 0, none⟩) n n)) w2) :
    wpList P ops Q (o :: rest) a w := by
  refine wpList_plain hg fun K hK' => ?_
  obtain ⟨i, hi, hz, hs, hby⟩ := info_parts h2
  subst hL
  subst hC
  have hb : (i.bytes : Int) * (n : Int) ≤ 281474976710656 := by
    have h : ((i.bytes * n : Nat) : Int) ≤ 281474976710656 := by rw [hby]; omega
    rwa [Int.natCast_mul] at h
  have hr := run_make (P := P) w t e i z h1 hi hz kl kc n n (by omega) (by omega) hb (by unfold maxLen at b3; omega)
  simp only [Int.toNat_natCast] at hr
  unfold Oper.wp
  simp [execOp, hop, hl, hc, hr, Result.andThen, Oper.upon]
  refine hK' _ _ (hK _ ⟨_, heap_alloc_new _ _, ?_⟩ ((Below.refl _ _).alloc (Nat.le_refl _) _) (by simp))
  rw [size_madeCells, hs]
theorem list10 {α : Type} {vs : List α} (h : vs.length = 10) : ∃ a b c d e f g i j k, vs = [a, b, c, d, e, f, g, i, j, k] := by
  match vs, h with
  | [a, b, c, d, e, f, g, i, j, k], _ => exact ⟨a, b, c, d, e, f, g, i, j, k, rfl⟩
theorem add_nextN (x : Addr) (i r : Nat) (h : 0 < r) : x.add (i + r) = ⟨(x.add i).block, (x.add i).off + r, none⟩ := by
  unfold Addr.add
  by_cases h0 : i = 0
  · subst h0; rw [if_neg (by omega), if_pos rfl, Nat.zero_add]
  · rw [if_neg (by omega), if_neg h0]; simp [Nat.add_assoc]
theorem cell_set_ne {w : World} {p q : Addr} {v : Value} (h : p ≠ q) : (w.setCell p v).cell? q = w.cell? q := World.cell?_setCell_other (h := h) ..
theorem cell_set_eq {w : World} {p : Addr} {u v : Value} (h : w.cell? p = some u) : (w.setCell p v).cell? p = some v := World.cell?_setCell_same (h := h) ..
theorem add_zero_block (G i : Nat) : (⟨G, 0, none⟩ : Addr).add i = ⟨G, i, none⟩ := by
  unfold Addr.add
  by_cases h : i = 0
  · rw [if_pos h, h]
  · rw [if_neg h]; simp
/-- The cells behind an address that is asked for only where there is one. -/
def CellsAt (w : World) (a : Option Addr) (us : List Value) : Prop := 0 < us.length → ∃ x, a = some x ∧ x.block < w.heap.size ∧ ∀ j u, us[j]? = some u → w.cell? (x.add j) = some u
/-- 'append(v, s...)' of a slice of whatever elements, whatever it is, v nil or the call's own. -/
theorem wpList_append_cells {P : Program} {w : World} {ops : Array Oper} {rest : List Oper} {o : Oper} {a : Act} {Q : Exit → Act → World → Prop} (hgd : o.guard = none) (s x : Operand) (t : TypeId)
    (ho : o.op = .call { callee := .builtin .append, args := #[s, x], argTypes := #[t, t] })
    (base : Nat) (e : TypeId) (z : Value) (sz bytes : Nat) (ht : P.underlying t = some (.slice e)) (hi : (P.info? e).map (fun i => (i.zero, i.size, i.bytes)) = some (some z, sz, bytes)) (hzs : z.cells.size = sz) (hsz : 0 < sz)
    (v : Value) (n : Nat) (xs : List Value) (hs : a.eval s = v) (hown : w.ownsRow base e sz v n xs)
    (A : Option Addr) (m c : Nat) (zs : List Value) (hx : a.eval x = .slice A m c) (hm : zs.length = m * sz) (hr : CellsAt w A zs) (hone : ∀ u ∈ zs, u.oneCell' = true)
    (hn : n + m ≤ maxLen) (hbytes : (n + m) * bytes ≤ 140737488355328) (hbase : base ≤ w.heap.size)
    (h : ∀ v' w', w'.ownsRow base e sz v' (n + m) (xs ++ zs) → w.grownBy w' v.ownBlock → (v'.ownBlock = v.ownBlock ∨ v'.ownBlock = some w.heap.size) → wpList P ops Q rest (a.put o.dst v') w') :
    wpList P ops Q (o :: rest) a w := by
  obtain ⟨i, hi1, hi2, hi3, hi4⟩ := info_parts hi
  have key : ∃ v' w', (Builtin.append_ #[t, t] o.type #[v, .slice A m c]).run P w = .ok v' w' ∧ w'.ownsRow base e sz v' (n + m) (xs ++ zs) ∧ w.grownBy w' v.ownBlock ∧ (v'.ownBlock = v.ownBlock ∨ v'.ownBlock = some w.heap.size) := by
    by_cases h0 : m = 0
    · subst h0
      have hz : zs = [] := List.eq_nil_of_length_eq_zero (by omega)
      subst hz
      rcases A with _ | ad
      · refine ⟨v, w, ?_, by simpa using hown, World.grownBy.refl w _, .inl rfl⟩
        rcases hown.2 with ⟨rfl, rfl⟩ | ⟨g, cap, cur, rfl, _, _, hnc, _⟩
        · simp [Builtin.append_, run_underlying ht, sizeOf, typeInfo, hi1, Builtin.lenOf, Builtin.firstCells]
        · simp [Builtin.append_, run_underlying ht, sizeOf, typeInfo, hi1, Builtin.lenOf, Builtin.firstCells, hnc, storeCells]
      · obtain ⟨v', w', hrun, h2, h3, _, h5⟩ := run_append_own_at (P := P) w base t o.type e i z sz bytes ht hi1 hi2 hi3 hi4 hzs hsz v n _ hown ad 0 c [] (by simp) (by simp) (by simp) hn hbytes hbase
        exact ⟨v', w', hrun, by simpa using h2, h3, h5⟩
    · obtain ⟨ad, rfl, _, hc⟩ := hr (by rw [hm]; exact Nat.mul_pos (by omega) hsz)
      obtain ⟨v', w', hrun, h2, h3, _, h5⟩ := run_append_own_at (P := P) w base t o.type e i z sz bytes ht hi1 hi2 hi3 hi4 hzs hsz v n _ hown ad m c zs hm hc hone hn hbytes hbase
      exact ⟨v', w', hrun, h2, h3, h5⟩
  obtain ⟨v', w', hrun, h2, h3, h4⟩ := key
  refine wpList_plain hgd fun K hK => ?_
  unfold Oper.wp execOp
  simp only [ho, resolve, invoke, builtin, Sem.run_bind, Sem.run_pure, Result.andThen_ok, List.map_toArray, List.map_cons, List.map_nil, hs, hx, hrun]
  exact hK _ _ (h v' w' h2 h3 h4)
end Mem
end Go
end
/- The bulk of a part of a struct. -/
section
namespace Go.Proofs.Ytpilpkbblkhnaaa
open Go.RowKit Go.ChangeShapes Go.WideShapes Go.Deep Go.Mem
set_option linter.unusedVariables false
section
variable {H : Type} {enc : TypeId × Value → H} {w : World} {base : Nat} {spare : Nat → Bool} {held : Bool}
end
end Go.Proofs.Ytpilpkbblkhnaaa
end
/- Names: what kind.Name and the reference's IsName say of a string. No program is named here. -/
section
namespace Go.Nm
set_option linter.unusedVariables false
def lowB (c : UInt8) : Bool := decide (97 ≤ c.toNat) && decide (c.toNat ≤ 122)
def digB (c : UInt8) : Bool := decide (48 ≤ c.toNat) && decide (c.toNat ≤ 57)
def nameB (l : List UInt8) : Bool := decide (0 < l.length) && (decide (l.length ≤ 16) && (lowB (l.getD 0 0) && l.all (fun c => lowB c || digB c)))
theorem name_long (l : List UInt8) (h : 16 < l.length) : nameB l = false := by unfold nameB; rw [decide_eq_false (show ¬ l.length ≤ 16 by omega)]; simp
theorem name_nil (l : List UInt8) (h : l.length = 0) : nameB l = false := by unfold nameB; rw [decide_eq_false (show ¬ 0 < l.length by omega)]; simp
/-- the code's test at place i -/
def okAt (l : List UInt8) (i : Nat) : Bool := lowB (l.getD i 0) || (decide (0 < i) && digB (l.getD i 0))
theorem name_bad (l : List UInt8) (i : Nat) (h : i < l.length) (hb : okAt l i = false) : nameB l = false := by
  have hm : l.getD i 0 ∈ l := by
    rw [List.getD_eq_getElem?_getD, List.getElem?_eq_getElem h]; exact List.getElem_mem h
  unfold okAt at hb
  by_cases hi : 0 < i
  · rw [decide_eq_true hi, Bool.true_and] at hb
    have : l.all (fun c => lowB c || digB c) = false := by
      rw [Bool.eq_false_iff]
      intro ha
      have := List.all_eq_true.1 ha _ hm
      rw [hb] at this
      exact absurd this (by decide)
    unfold nameB; rw [this]; simp
  · have h0 : i = 0 := by omega
    subst h0
    rw [decide_eq_false (by omega), Bool.false_and, Bool.or_false] at hb
    unfold nameB; rw [hb]; simp
theorem name_good (l : List UInt8) (h0 : 0 < l.length) (h1 : l.length ≤ 16) (h : ∀ i, i < l.length → okAt l i = true) : nameB l = true := by
  unfold nameB
  rw [decide_eq_true h0, decide_eq_true h1, Bool.true_and, Bool.true_and, Bool.and_eq_true]
  constructor
  · have := h 0 h0
    unfold okAt at this
    rw [decide_eq_false (by omega), Bool.false_and, Bool.or_false] at this
    exact this
  · rw [List.all_eq_true]
    intro c hc
    obtain ⟨i, hi, rfl⟩ := List.mem_iff_getElem.1 hc
    have := h i hi
    unfold okAt at this
    rw [List.getD_eq_getElem?_getD, List.getElem?_eq_getElem hi] at this
    simp only [Option.getD_some, Bool.or_eq_true, Bool.and_eq_true] at this ⊢
    rcases this with h | h
    · exact .inl h
    · exact .inr h.2
end Go.Nm
end
/- kind.Name. -/
section
namespace Go.Proofs.Ytpilpkbblkhnaaa
open Go.ChangeShapes Go.WideShapes Go.ChangeAt Go.RowKit Go.Nm
set_option linter.unusedVariables false
theorem dle_t {a b : Int} (h : a ≤ b) : decide (a ≤ b) = true := decide_eq_true h
theorem dle_f {a b : Int} (h : ¬ a ≤ b) : decide (a ≤ b) = false := decide_eq_false h
theorem len_data (s : ByteArray) : s.data.toList.length = s.size := rfl
set_option maxHeartbeats 1000000 in
theorem kind_Name (s : ByteArray) (hs : s.size ≤ 9223372036854775807) (w : World) : Calls Try.prog 75 #[.string s] w fun e w' => e = .returned (.bool (nameB s.data.toList)) ∧ w = w' := by
  obtain ⟨R, hR⟩ : ∃ R, R = nameB s.data.toList := ⟨_, rfl⟩
  rw [← hR]
  have HR := Lib.hid hR
  clear hR
  by_cases h0 : s.size = 0
  · have t0 : ((s.size : Int) == 0) = true := by rw [h0]; rfl
    have HF := Lib.hid (name_nil _ ((len_data s).trans h0))
    clear h0 hs
    go_enter Try.func75, Try.ntmps75
    go_wp2_with fail
    go_ret
    exact ⟨by rw [HR.out, HF.out]; rfl, rfl⟩
  · by_cases h1 : 16 < s.size
    · have t0 : ((s.size : Int) == 0) = false := by rw [beq_eq_false_iff_ne]; omega
      have HF := Lib.hid (name_long _ (by rw [len_data]; exact h1))
      go_enter Try.func75, Try.ntmps75
      go_wp2_with fail
      go_ret
      exact ⟨by rw [HR.out, HF.out]; rfl, rfl⟩
    · have t0 : ((s.size : Int) == 0) = false := by rw [beq_eq_false_iff_ne]; omega
      have h2 : s.size ≤ 16 := by omega
      go_enter Try.func75, Try.ntmps75
      go_wp2_with fail
      go_loopg [3, 4, 15] s.size (fun gk v3 v4 vi wx => ∃ k : Nat, k ≤ s.size ∧ gk = s.size - k ∧ vi = .int .i64 k ∧ (∀ j, j < k → okAt s.data.toList j = true) ∧ wx = w)
      case atStart => exact ⟨0, Nat.zero_le _, rfl, rfl, fun j h => by omega, rfl⟩
      case round =>
        obtain ⟨k, hk, g2, rfl, hok, rfl⟩ := hrel
        have G2 := Lib.hid g2
        have HOK := Lib.hid hok
        clear g2 hok
        by_cases hlt : k < s.size
        · have hb : s.data.toList.getD k 0 = s[k] := by
            rw [List.getD_eq_getElem?_getD, List.getElem?_eq_getElem hlt]; rfl
          have hn : s[k].toNat < 256 := s[k].toNat_lt
          have HB := Lib.hid hb
          clear hb
          have good : okAt s.data.toList k = true → ∀ j, j < k + 1 → okAt s.data.toList j = true := fun h j hj => by
            by_cases hj2 : j < k
            · exact HOK.out j hj2
            · rw [show j = k by omega]; exact h
          have GOOD := Lib.hid good
          clear good
          by_cases c1 : 97 ≤ s[k].toNat ∧ s[k].toNat ≤ 122
          · obtain ⟨a1, a2⟩ := c1
            have HO := Lib.hid (show okAt s.data.toList k = true by unfold okAt lowB; rw [HB.out, decide_eq_true a1, decide_eq_true a2]; rfl)
            go_wp2_with fail
            go_roundg (s.size - (k + 1))
            case measure => rw [G2.out]; omega
            case rel => exact ⟨k + 1, hlt, rfl, by go_num, GOOD.out HO.out, rfl⟩
          · by_cases c2 : 0 < k ∧ 48 ≤ s[k].toNat ∧ s[k].toNat ≤ 57
            · obtain ⟨a0, a1, a2⟩ := c2
              have HO := Lib.hid (show okAt s.data.toList k = true by unfold okAt digB; rw [HB.out, decide_eq_true a1, decide_eq_true a2, decide_eq_true a0]; simp)
              clear c1
              have t97 : decide ((97 : Int) ≤ (s[k].toNat : Int)) = false := dle_f (by omega)
              have t122 : decide ((s[k].toNat : Int) ≤ 122) = true := dle_t (by omega)
              have t48 : decide ((48 : Int) ≤ (s[k].toNat : Int)) = true := dle_t (by omega)
              have t57 : decide ((s[k].toNat : Int) ≤ 57) = true := dle_t (by omega)
              go_wp2_with fail
              go_roundg (s.size - (k + 1))
              case measure => rw [G2.out]; omega
              case rel => exact ⟨k + 1, hlt, rfl, by go_num, GOOD.out HO.out, rfl⟩
            · have HO := Lib.hid (show okAt s.data.toList k = false by
                unfold okAt lowB digB
                rw [HB.out, Bool.eq_false_iff]
                intro h
                simp only [Bool.or_eq_true, Bool.and_eq_true, decide_eq_true_eq] at h
                rcases h with h | h
                · exact c1 h
                · exact c2 h)
              have HF := Lib.hid (name_bad _ k (by rw [len_data]; exact hlt) HO.out)
              rcases (show (s[k].toNat < 48) ∨ (57 < s[k].toNat ∧ s[k].toNat < 97) ∨ 122 < s[k].toNat ∨ (k = 0 ∧ 48 ≤ s[k].toNat ∧ s[k].toNat ≤ 57) by omega) with c | ⟨c, c'⟩ | c | ⟨c0, c, c'⟩
              · clear c1 c2
                have t97 : decide ((97 : Int) ≤ (s[k].toNat : Int)) = false := dle_f (by omega)
                have t122 : decide ((s[k].toNat : Int) ≤ 122) = true := dle_t (by omega)
                have t48 : decide ((48 : Int) ≤ (s[k].toNat : Int)) = false := dle_f (by omega)
                have t57 : decide ((s[k].toNat : Int) ≤ 57) = true := dle_t (by omega)
                go_wp2_with fail
                all_goals
                  go_ret
                  exact ⟨by rw [HR.out, HF.out]; rfl, rfl⟩
              · clear c1 c2
                have t97 : decide ((97 : Int) ≤ (s[k].toNat : Int)) = false := dle_f (by omega)
                have t122 : decide ((s[k].toNat : Int) ≤ 122) = true := dle_t (by omega)
                have t48 : decide ((48 : Int) ≤ (s[k].toNat : Int)) = true := dle_t (by omega)
                have t57 : decide ((s[k].toNat : Int) ≤ 57) = false := dle_f (by omega)
                go_wp2_with fail
                all_goals
                  go_ret
                  exact ⟨by rw [HR.out, HF.out]; rfl, rfl⟩
              · clear c1 c2
                have t97 : decide ((97 : Int) ≤ (s[k].toNat : Int)) = true := dle_t (by omega)
                have t122 : decide ((s[k].toNat : Int) ≤ 122) = false := dle_f (by omega)
                have t48 : decide ((48 : Int) ≤ (s[k].toNat : Int)) = true := dle_t (by omega)
                have t57 : decide ((s[k].toNat : Int) ≤ 57) = false := dle_f (by omega)
                go_wp2_with fail
                all_goals
                  go_ret
                  exact ⟨by rw [HR.out, HF.out]; rfl, rfl⟩
              · clear c1 c2
                have t97 : decide ((97 : Int) ≤ (s[k].toNat : Int)) = false := dle_f (by omega)
                have t122 : decide ((s[k].toNat : Int) ≤ 122) = true := dle_t (by omega)
                have t48 : decide ((48 : Int) ≤ (s[k].toNat : Int)) = true := dle_t (by omega)
                have t57 : decide ((s[k].toNat : Int) ≤ 57) = true := dle_t (by omega)
                have ck : k ≤ 0 := by omega
                clear c0
                go_wp2_with fail
                all_goals
                  go_ret
                  exact ⟨by rw [HR.out, HF.out]; rfl, rfl⟩
        · have hke : k = s.size := by omega
          have HF := Lib.hid (name_good s.data.toList (by rw [len_data]; omega) (by rw [len_data]; exact h2) (fun i hi => HOK.out i (by rw [len_data] at hi; omega)))
          clear hke
          go_wp2_with fail
          go_ret
          exact ⟨by rw [HR.out, HF.out]; rfl, rfl⟩
end Go.Proofs.Ytpilpkbblkhnaaa
end
/- kind.field, High, Near; ref FieldOK, Top, Nearest. -/
section
namespace Go.Proofs.Ytpilpkbblkhnaaa
open Go.ChangeShapes Go.WideShapes Go.ChangeAt Go.RowKit Go.Nm
set_option linter.unusedVariables false
def fieldB (s : ByteArray) (b l : Int) : Bool := nameB s.data.toList && (decide (1 ≤ b) && (decide (b ≤ 32) && (decide (-4294967296 ≤ l) && decide (l ≤ 4294967296))))
theorem field_cases (s : ByteArray) (b l : Int) : (fieldB s b l = true ∧ nameB s.data.toList = true ∧ 1 ≤ b ∧ b ≤ 32 ∧ -4294967296 ≤ l ∧ l ≤ 4294967296) ∨
    (fieldB s b l = false ∧ (nameB s.data.toList = false ∨ (nameB s.data.toList = true ∧ b < 1) ∨ (nameB s.data.toList = true ∧ 1 ≤ b ∧ 32 < b) ∨ (nameB s.data.toList = true ∧ 1 ≤ b ∧ b ≤ 32 ∧ l < -4294967296) ∨ (nameB s.data.toList = true ∧ 1 ≤ b ∧ b ≤ 32 ∧ -4294967296 ≤ l ∧ 4294967296 < l))) := by
  unfold fieldB
  cases nameB s.data.toList
  · right; simp
  · by_cases h1 : 1 ≤ b
    · by_cases h2 : b ≤ 32
      · by_cases h3 : -4294967296 ≤ l
        · by_cases h4 : l ≤ 4294967296
          · left; simp [h1, h2, h3, h4]
          · right; simp [h1, h2, h3, h4]; omega
        · right; simp [h1, h2, h3]; omega
      · right; simp [h1, h2]; omega
    · right; simp [h1]; omega
set_option maxHeartbeats 1000000 in
theorem kind_field (s : ByteArray) (b l : Int) (hs : s.size ≤ 9223372036854775807) (w : World) : Calls Try.prog 76 #[.agg #[.string s, .int .i64 b, .int .i64 l]] w fun e w' => e = .returned (.int .i64 (if fieldB s b l = true then 0 else 3)) ∧ Below w.heap.size w w' := by
  have HS := Lib.hid hs
  clear hs
  rcases field_cases s b l with ⟨hf, hn, h1, h2, h3, h4⟩ | ⟨hf, hn | ⟨hn, h1⟩ | ⟨hn, h1, h2⟩ | ⟨hn, h1, h2, h3⟩ | ⟨hn, h1, h2, h3, h4⟩⟩
  all_goals
    rw [hf]
    have C := fun W => kind_Name s HS.out W
    rw [hn] at C
    have C := Lib.hid C
    clear hf hn
    go_enter Try.func76, Try.ntmps76
    go_wp2_with fail
    refine (C.out _).mono ?_
    rintro e w1 ⟨rfl, rfl⟩
    go_wp2_with fail
    go_ret
    exact ⟨rfl, (Below.refl _ _).alloc (Nat.le_refl _) _⟩
end Go.Proofs.Ytpilpkbblkhnaaa
end
/- Fields and kinds as they lie in memory; the errors of a kind, as the document has them. -/
section
namespace Go.Proofs.Ytpilpkbblkhnaaa
open Go.RowKit Go.ChangeShapes Go.WideShapes Go.Deep Go.Mem Go.Nm
set_option linter.unusedVariables false
structure FieldV where
  name : ByteArray
  bits : Int
  low : Int
instance : Inhabited FieldV := ⟨⟨ByteArray.empty, 0, 0⟩⟩
structure KindV where
  name : ByteArray
  fields : List FieldV
instance : Inhabited KindV := ⟨⟨ByteArray.empty, []⟩⟩
def FieldAt (w : World) (p : Addr) (y : FieldV) : Prop := w.cell? p = some (.string y.name) ∧ w.cell? ⟨p.block, p.off + 1, none⟩ = some (.int .i64 y.bits) ∧ w.cell? ⟨p.block, p.off + 2, none⟩ = some (.int .i64 y.low) ∧ y.name.size ≤ 9223372036854775807
theorem FieldAt.abides : Abides FieldAt := fun w w' p y h hb => ⟨cell_abides h.1 hb, cell_abides h.2.1 hb, cell_abides h.2.2.1 hb, h.2.2.2⟩
def KindAt (w : World) (p : Addr) (y : KindV) : Prop := w.cell? p = some (.string y.name) ∧ y.name.size ≤ 9223372036854775807 ∧ ∃ a c, w.cell? ⟨p.block, p.off + 1, none⟩ = some (.slice a y.fields.length c) ∧ y.fields.length ≤ c ∧ c ≤ 9223372036854775807 ∧ SlAt 3 FieldAt w a y.fields
theorem KindAt.abides : Abides KindAt := fun w w' p y h hb => by
  obtain ⟨h1, h2, a, c, h3, h4, h5, h6⟩ := h
  exact ⟨cell_abides h1 hb, h2, a, c, cell_abides h3 hb, h4, h5, h6.below FieldAt.abides hb⟩
def costField (y : FieldV) : Nat := y.name.size + 1
def costKind (y : KindV) : Nat := y.name.size + (y.fields.map costField).sum + 1
section
variable {H : Type} {enc : TypeId × Value → H} {w : World} {base : Nat} {spare : Nat → Bool} {held : Bool}
end
/-- is one of the first i names the one of place i? -/
def okF (f : FieldV) : Bool := fieldB f.name f.bits f.low
def dupAt (names : List ByteArray) (i : Nat) : Bool := (names.take i).any fun s => s.toList == (names.getD i ByteArray.empty).toList
/-- the error of the first k fields -/
def fldErr (l : List FieldV) : Nat → Int
  | 0 => 0
  | k + 1 => if fldErr l k ≠ 0 then fldErr l k else if okF (l.getD k default) = false then 3 else if dupAt (l.map (·.name)) k = true then 5 else 0
def kindE (k : KindV) : Int := if nameB k.name.data.toList = false then 3 else if 8 < k.fields.length then 2 else fldErr k.fields k.fields.length
def kndErr (l : List KindV) : Nat → Int
  | 0 => 0
  | k + 1 => if kndErr l k ≠ 0 then kndErr l k else if kindE (l.getD k default) ≠ 0 then kindE (l.getD k default) else if dupAt (l.map (·.name)) k = true then 5 else 0
def kindsE (l : List KindV) : Int := if 16 < l.length then 2 else kndErr l l.length
/-- an error stays -/
theorem fldErr_stays (l : List FieldV) (k m : Nat) (h : k ≤ m) (h0 : fldErr l k ≠ 0) : fldErr l m = fldErr l k := by
  induction m with
  | zero => obtain rfl : k = 0 := by omega
            rfl
  | succ m ih =>
    by_cases hk : k = m + 1
    · rw [hk]
    · have := ih (by omega)
      show (if fldErr l m ≠ 0 then _ else _) = _
      rw [if_pos (by rw [this]; exact h0), this]
theorem kndErr_stays (l : List KindV) (k m : Nat) (h : k ≤ m) (h0 : kndErr l k ≠ 0) : kndErr l m = kndErr l k := by
  induction m with
  | zero => obtain rfl : k = 0 := by omega
            rfl
  | succ m ih =>
    by_cases hk : k = m + 1
    · rw [hk]
    · have := ih (by omega)
      show (if kndErr l m ≠ 0 then _ else _) = _
      rw [if_pos (by rw [this]; exact h0), this]
end Go.Proofs.Ytpilpkbblkhnaaa
end
/- Components as they lie in memory. -/
section
namespace Go.Proofs.Ytpilpkbblkhnaaa
open Go.RowKit Go.ChangeShapes Go.WideShapes Go.Deep Go.Mem
set_option linter.unusedVariables false
structure CompV where
  kind : Int
  vals : List Int
  deriving Inhabited, DecidableEq
/-- a component at an address: its cells, and its numbers -/
def CompAt (w : World) (p : Addr) (y : CompV) : Prop := w.cell? p = some (.int .i64 y.kind) ∧ ∃ a c, w.cell? ⟨p.block, p.off + 1, none⟩ = some (.slice a y.vals.length c) ∧ IntsAt .i64 w a y.vals
theorem CompAt.abides : Abides CompAt := fun w w' p y h hb => by
  obtain ⟨h1, a, c, h2, h3⟩ := h
  exact ⟨cell_abides h1 hb, a, c, cell_abides h2 hb, h3.below hb⟩
def costComp (y : CompV) : Nat := y.vals.length + 1
section
variable {H : Type} {enc : TypeId × Value → H} {w : World} {base : Nat} {spare : Nat → Bool} {held : Bool}
end
end Go.Proofs.Ytpilpkbblkhnaaa
end
/- Items as they lie in memory. -/
section
namespace Go.Proofs.Ytpilpkbblkhnaaa
open Go.RowKit Go.ChangeShapes Go.WideShapes Go.Deep Go.Mem
set_option linter.unusedVariables false
structure ItemV where
  n : Int
  gen : Int
  comps : List CompV
  deriving Inhabited, DecidableEq
def ItemAt (w : World) (p : Addr) (y : ItemV) : Prop := w.cell? p = some (.int .i64 y.n) ∧ w.cell? ⟨p.block, p.off + 1, none⟩ = some (.int .i64 y.gen) ∧
  ∃ a c, w.cell? ⟨p.block, p.off + 2, none⟩ = some (.slice a y.comps.length c) ∧ SlAt 2 CompAt w a y.comps
theorem ItemAt.abides : Abides ItemAt := fun w w' p y h hb => by
  obtain ⟨h1, h2, a, c, h5, h6⟩ := h
  exact ⟨cell_abides h1 hb, cell_abides h2 hb, a, c, cell_abides h5 hb, h6.below CompAt.abides hb⟩
def costItem (y : ItemV) : Nat := (y.comps.map costComp).sum + 1
section
variable {H : Type} {enc : TypeId × Value → H} {w : World} {base : Nat} {spare : Nat → Bool} {held : Bool}
end
end Go.Proofs.Ytpilpkbblkhnaaa
end
/- Worlds as they lie in memory. -/
section
namespace Go.Proofs.Ytpilpkbblkhnaaa
open Go.RowKit Go.ChangeShapes Go.WideShapes Go.Deep Go.Mem
set_option linter.unusedVariables false
structure WorldV where
  kinds : List KindV
  gens : List Int
  items : List ItemV
  deriving Inhabited
/-- a world, as a value -/
def WorldIn (w : World) (v : Value) (y : WorldV) : Prop := ∃ ak ck ag cg ai ci, v = .agg #[.slice ak y.kinds.length ck, .slice ag y.gens.length cg, .slice ai y.items.length ci] ∧ SlAt 2 KindAt w ak y.kinds ∧ IntsAt .i64 w ag y.gens ∧ SlAt 3 ItemAt w ai y.items ∧ y.kinds.length ≤ ck ∧ ck ≤ 9223372036854775807
theorem WorldIn.below {w w' : World} {v : Value} {y : WorldV} (h : WorldIn w v y) (hb : Below w.heap.size w w') : WorldIn w' v y := by
  obtain ⟨ak, ck, ag, cg, ai, ci, rfl, h1, h2, h3, h4⟩ := h
  exact ⟨ak, ck, ag, cg, ai, ci, rfl, h1.below KindAt.abides hb, h2.below hb, h3.below ItemAt.abides hb, h4⟩
def costWorld (y : WorldV) : Nat := (y.kinds.map costKind).sum + y.gens.length + (y.items.map costItem).sum
section
variable {H : Type} {enc : TypeId × Value → H} {w : World} {base : Nat} {spare : Nat → Bool} {held : Bool}
end
end Go.Proofs.Ytpilpkbblkhnaaa
end
/- A list of fields as the cells of a row. -/
section
namespace Go.Proofs.Ytpilpkbblkhnaaa
open Go.RowKit Go.ChangeShapes Go.WideShapes Go.Deep Go.Mem Go.Nm
set_option linter.unusedVariables false
def fval (l : List FieldV) (j : Nat) : Value := if j % 3 = 0 then .string (l.getD (j / 3) default).name else if j % 3 = 1 then .int .i64 (l.getD (j / 3) default).bits else .int .i64 (l.getD (j / 3) default).low
def fvals (l : List FieldV) : List Value := (List.range (l.length * 3)).map (fval l)
theorem fvals_len (l : List FieldV) : (fvals l).length = l.length * 3 := by unfold fvals; simp
theorem fvals_get (l : List FieldV) (j : Nat) (u : Value) : (fvals l)[j]? = some u ↔ j < l.length * 3 ∧ u = fval l j := by
  unfold fvals
  rw [List.getElem?_map]
  by_cases h : j < l.length * 3
  · rw [List.getElem?_range h]; simp [h, eq_comm]
  · rw [List.getElem?_eq_none (by simpa using h)]; simp [h]
theorem fvals_one (l : List FieldV) : ∀ u ∈ fvals l, u.oneCell' = true := by
  intro u hu
  unfold fvals at hu
  obtain ⟨j, _, rfl⟩ := List.mem_map.1 hu
  unfold fval
  split
  · rfl
  · split <;> rfl
theorem fval_parts (l : List FieldV) (q : Nat) (h : q < l.length) : fval l (q * 3) = .string l[q].name ∧ fval l (q * 3 + 1) = .int .i64 l[q].bits ∧ fval l (q * 3 + 2) = .int .i64 l[q].low := by
  have hd : l.getD q default = l[q] := by rw [List.getD_eq_getElem?_getD, List.getElem?_eq_getElem h]; rfl
  unfold fval
  refine ⟨?_, ?_, ?_⟩
  · rw [if_pos (by omega), show q * 3 / 3 = q by omega, hd]
  · rw [if_neg (by omega), if_pos (by omega), show (q * 3 + 1) / 3 = q by omega, hd]
  · rw [if_neg (by omega), if_neg (by omega), show (q * 3 + 2) / 3 = q by omega, hd]
theorem cells_flds {w : World} {a : Option Addr} {l : List FieldV} (h : SlAt 3 FieldAt w a l) : CellsAt w a (fvals l) := fun h0 => by
  rw [fvals_len] at h0
  obtain ⟨x, e, hx, hi⟩ := h (by omega)
  refine ⟨x, e, hx, fun j u hu => ?_⟩
  obtain ⟨hj, rfl⟩ := (fvals_get l j u).1 hu
  have hq : j / 3 < l.length := by omega
  obtain ⟨k0, k1, k2, _⟩ := hi (j / 3) hq
  obtain ⟨p0, p1, p2⟩ := fval_parts l (j / 3) hq
  rcases (show j = j / 3 * 3 ∨ j = j / 3 * 3 + 1 ∨ j = j / 3 * 3 + 2 by omega) with e | e | e
  · rw [show fval l j = fval l (j / 3 * 3) by rw [← e], p0, show x.add j = x.add (j / 3 * 3) by rw [← e]]; exact k0
  · rw [show fval l j = fval l (j / 3 * 3 + 1) by rw [← e], p1, show x.add j = x.add (j / 3 * 3 + 1) by rw [← e], add_nextN _ _ 1 (by decide)]; exact k1
  · rw [show fval l j = fval l (j / 3 * 3 + 2) by rw [← e], p2, show x.add j = x.add (j / 3 * 3 + 2) by rw [← e], add_nextN _ _ 2 (by decide)]; exact k2
theorem flds_own {w : World} {base e n : Nat} {v : Value} {l : List FieldV} (hn : l.length = n) (h : w.ownsRow base e 3 v n (fvals l)) (hs : ∀ y ∈ l, y.name.size ≤ 9223372036854775807) :
    ∃ a c, v = .slice a n c ∧ n ≤ c ∧ c ≤ 9223372036854775807 ∧ SlAt 3 FieldAt w a l ∧ (∀ x, a = some x → base ≤ x.block) := by
  subst hn
  obtain ⟨_, ⟨hv, h0⟩ | ⟨g, cap, cur, hv, hb, hg, hc1, hc2, hc3, hc4⟩⟩ := h
  · exact ⟨none, 0, by rw [hv, h0], by omega, by omega, fun h => by omega, fun x hx => by cases hx⟩
  · refine ⟨some ⟨g, 0, none⟩, cap, hv, hc1, by unfold maxLen at hc2; omega, fun _ => ⟨_, rfl, lt_of_heap hg, fun q hq => ?_⟩, fun x hx => by injection hx with hx; rw [← hx]; exact hb⟩
    have cell : ∀ j, j < l.length * 3 → w.cell? ⟨g, j, none⟩ = some (fval l j) := by
      intro j hj
      rw [cell_of_row _ _ _ _ _ _ hg]
      have := (fvals_get l j (fval l j)).2 ⟨hj, rfl⟩
      rw [← hc4, List.getElem?_take, if_pos hj] at this
      simpa using this
    obtain ⟨p0, p1, p2⟩ := fval_parts l q hq
    rw [add_zero_block]
    exact ⟨by rw [cell _ (by omega), p0], by show w.cell? ⟨g, q * 3 + 1, none⟩ = _; rw [cell _ (by omega), p1], by show w.cell? ⟨g, q * 3 + 2, none⟩ = _; rw [cell _ (by omega), p2], hs _ (List.getElem_mem _)⟩
theorem flds_names {w : World} {a : Option Addr} {l : List FieldV} (h : SlAt 3 FieldAt w a l) : ∀ y ∈ l, y.name.size ≤ 9223372036854775807 := by
  intro y hy
  obtain ⟨j, hj, rfl⟩ := List.mem_iff_getElem.1 hy
  obtain ⟨x, e, hx, hi⟩ := h (by omega)
  exact (hi j hj).2.2.2
end Go.Proofs.Ytpilpkbblkhnaaa
end
