/- Lemmas for the law MigrateBack: ApiMove, MovP, MovV, RefMovP, MigInvP, ApiComp. No conditions. -/
import Derived.Test.YtijeninfmjhbnaaDoorM07
import Derived.Test.YtijeninfmjhbnaaDoorM03
import Derived.Test.YtijeninfmjhbnaaDoorM05
import Derived.Test.YtijeninfmjhbnaaDoorM02
/- Moves of kinds as they lie in memory. -/
section
namespace Go.Proofs.YtijeninfmjhbnaaDoor
open Go.RowKit Go.ChangeShapes Go.WideShapes Go.Deep Go.Mem
set_option linter.unusedVariables false
structure MoveV where
  do_ : Int
  kind : ByteArray
  field : ByteArray
  name : ByteArray
  value : Int
  new : FieldV
  whole : KindV
instance : Inhabited MoveV := ⟨⟨0, ByteArray.empty, ByteArray.empty, ByteArray.empty, 0, default, default⟩⟩
abbrev mvL (y : MoveV) (a : Option Addr) (c : Nat) : List Value := [.int .i64 y.do_, .string y.kind, .string y.field, .string y.name, .int .i64 y.value, .string y.new.name, .int .i64 y.new.bits, .int .i64 y.new.low, .string y.whole.name, .slice a y.whole.fields.length c]
/-- what a move's slice of fields leads to, and the sizes of its texts -/
structure MvFine (w : World) (y : MoveV) (a : Option Addr) (c : Nat) : Prop where
  fs : SlAt 3 FieldAt w a y.whole.fields
  le : y.whole.fields.length ≤ c
  max : c ≤ 9223372036854775807
  wn : y.whole.name.size ≤ 9223372036854775807
  nn : y.new.name.size ≤ 9223372036854775807
  k : y.kind.size ≤ 9223372036854775807
  f : y.field.size ≤ 9223372036854775807
  n : y.name.size ≤ 9223372036854775807
theorem MvFine.below {w w' : World} {y : MoveV} {a : Option Addr} {c : Nat} (h : MvFine w y a c) (hb : Below w.heap.size w w') : MvFine w' y a c := ⟨h.fs.below FieldAt.abides hb, h.le, h.max, h.wn, h.nn, h.k, h.f, h.n⟩
def MvAt (w : World) (p : Addr) (y : MoveV) : Prop := ∃ a c, (∀ j (v : Value), (mvL y a c)[j]? = some v → w.cell? ⟨p.block, p.off + j, none⟩ = some v) ∧ MvFine w y a c ∧ p.spot = none
theorem MvAt.abides : Abides MvAt := fun w w' p y h hb => by
  obtain ⟨a, c, h1, h2, h3⟩ := h
  exact ⟨a, c, fun j v hv => cell_abides (h1 j v hv) hb, h2.below hb, h3⟩
section
variable {H : Type} {enc : TypeId × Value → H} {w : World} {base : Nat} {spare : Nat → Bool} {held : Bool}
set_option maxRecDepth 100000 in
theorem read_move_w {B : Nat} (fuel : Nat) (cs : List Value) (x : DataW H × List MemPlace) (p : Addr) (hl : cs.length = 10) (hc : ∀ j, j < 10 → w.cell? (p.add j) = cs[j]?) (ht : DataW.trod enc Tryd.prog w base spare held fuel 45 cs = some x) (hw : ∀ n ∈ x.1.weights Tryd.prog 45, n ≤ B) :
    ∃ y, MvAt w p y ∧ y.whole.fields.length * 32 ≤ B := by
  obtain ⟨xs, n, _, rfl, _, hxl, hf⟩ := DataW.trod_struct Tryd.underlying45 ht
  match cs, hl with
  | [v0, v1, v2, v3, v4, v5, v6, v7, v8, v9], _ =>
    have g0 : DataW.trod enc Tryd.prog w base spare held n 3 (([v0, v1, v2, v3, v4, v5, v6, v7, v8, v9].drop 0).take (Tryd.prog.cellsOf 3)) = xs[0]? := hf 0 _ rfl
    have g1 : DataW.trod enc Tryd.prog w base spare held n 9 (([v0, v1, v2, v3, v4, v5, v6, v7, v8, v9].drop 1).take (Tryd.prog.cellsOf 9)) = xs[1]? := hf 1 _ rfl
    have g2 : DataW.trod enc Tryd.prog w base spare held n 9 (([v0, v1, v2, v3, v4, v5, v6, v7, v8, v9].drop 2).take (Tryd.prog.cellsOf 9)) = xs[2]? := hf 2 _ rfl
    have g3 : DataW.trod enc Tryd.prog w base spare held n 9 (([v0, v1, v2, v3, v4, v5, v6, v7, v8, v9].drop 3).take (Tryd.prog.cellsOf 9)) = xs[3]? := hf 3 _ rfl
    have g4 : DataW.trod enc Tryd.prog w base spare held n 3 (([v0, v1, v2, v3, v4, v5, v6, v7, v8, v9].drop 4).take (Tryd.prog.cellsOf 3)) = xs[4]? := hf 4 _ rfl
    have g5 : DataW.trod enc Tryd.prog w base spare held n 40 (([v0, v1, v2, v3, v4, v5, v6, v7, v8, v9].drop 5).take (Tryd.prog.cellsOf 40)) = xs[5]? := hf 5 _ rfl
    have g6 : DataW.trod enc Tryd.prog w base spare held n 43 (([v0, v1, v2, v3, v4, v5, v6, v7, v8, v9].drop 8).take (Tryd.prog.cellsOf 43)) = xs[6]? := hf 6 _ rfl
    rw [show Tryd.prog.cellsOf 3 = 1 by kernel_rfl] at g0 g4
    rw [show Tryd.prog.cellsOf 9 = 1 by kernel_rfl] at g1 g2 g3
    rw [show Tryd.prog.cellsOf 40 = 3 by kernel_rfl] at g5
    rw [show Tryd.prog.cellsOf 43 = 2 by kernel_rfl] at g6
    match xs, hxl with
    | [y0, y1, y2, y3, y4, y5, y6], _ =>
      obtain ⟨d, e0, _, _⟩ := DataW.trod_int Tryd.underlying3 (show DataW.trod enc Tryd.prog w base spare held n 3 [v0] = some y0 from g0)
      obtain ⟨s1, e1, _, z1⟩ := DataW.trod_string Tryd.underlying9 (show DataW.trod enc Tryd.prog w base spare held n 9 [v1] = some y1 from g1)
      obtain ⟨s2, e2, _, z2⟩ := DataW.trod_string Tryd.underlying9 (show DataW.trod enc Tryd.prog w base spare held n 9 [v2] = some y2 from g2)
      obtain ⟨s3, e3, _, z3⟩ := DataW.trod_string Tryd.underlying9 (show DataW.trod enc Tryd.prog w base spare held n 9 [v3] = some y3 from g3)
      obtain ⟨u, e4, _, _⟩ := DataW.trod_int Tryd.underlying3 (show DataW.trod enc Tryd.prog w base spare held n 3 [v4] = some y4 from g4)
      have C : ∀ j (v : Value), [v0, v1, v2, v3, v4, v5, v6, v7, v8, v9][j]? = some v → w.cell? (p.add j) = some v := fun j v hv => by
        rw [hc j (by have := (List.getElem?_eq_some_iff.1 hv).1; exact this), hv]
      obtain ⟨f, ⟨f0, f1, f2, f3⟩, _⟩ := read_field n [v5, v6, v7] y5 (p.add 5) rfl (fun j hj => by
        rcases (show j = 0 ∨ j = 1 ∨ j = 2 by omega) with rfl | rfl | rfl
        · have := C 5 v5 rfl; simpa [Addr.add] using this
        · have := C 6 v6 rfl; simpa [Addr.add] using this
        · have := C 7 v7 rfl; simpa [Addr.add] using this) (show DataW.trod enc Tryd.prog w base spare held n 40 [v5, v6, v7] = some y5 from g5)
      obtain ⟨k, ⟨k0, k1, ka, kc, k2, k3, k4, k5⟩, kb⟩ := read_kind_w (B := B) n [v8, v9] y6 (p.add 8) rfl (fun j hj => by
        rcases (show j = 0 ∨ j = 1 by omega) with rfl | rfl
        · have := C 8 v8 rfl; simpa [Addr.add] using this
        · have := C 9 v9 rfl; simpa [Addr.add] using this) (show DataW.trod enc Tryd.prog w base spare held n 43 [v8, v9] = some y6 from g6) (fun z hz => hw z (by
          simp only [DataW.weights, Tryd.underlying45, DataW.weightsEach, List.map_cons, List.map_nil, List.mem_append]
          exact .inr (.inr (.inr (.inr (.inr (.inr (.inl hz))))))))
      have hsp : p.spot = none := by
        have := C 0 v0 rfl
        obtain ⟨pb, po, ps⟩ := p
        simpa [Addr.add] using World.cell?_spot this
      obtain ⟨pb, po, ps⟩ := p
      simp only at hsp
      subst hsp
      have q5 := C 5 v5 rfl
      have q6 := C 6 v6 rfl
      have q7 := C 7 v7 rfl
      have q8 := C 8 v8 rfl
      have q9 := C 9 v9 rfl
      rw [Addr.add_lit] at q5 q6 q7 q8 q9 f0 f1 f2 k0 k2
      have e5 : v5 = .string f.name := by have := f0.symm.trans q5; injection this with this; exact this.symm
      have e6 : v6 = .int .i64 f.bits := by have := f1.symm.trans q6; injection this with this; exact this.symm
      have e7 : v7 = .int .i64 f.low := by have := f2.symm.trans q7; injection this with this; exact this.symm
      have e8 : v8 = .string k.name := by have := k0.symm.trans q8; injection this with this; exact this.symm
      have e9 : v9 = .slice ka k.fields.length kc := by have := k2.symm.trans q9; injection this with this; exact this.symm
      injection e0 with e0; injection e1 with e1; injection e2 with e2; injection e3 with e3; injection e4 with e4
      subst e0 e1 e2 e3 e4 e5 e6 e7 e8 e9
      unfold maxLen at z1 z2 z3
      refine ⟨⟨d, s1, s2, s3, u, f, k⟩, ⟨ka, kc, fun j v hv => ?_, ⟨k5, k3, k4, k1, f3, by simp only; omega, by simp only; omega, by simp only; omega⟩, rfl⟩, kb⟩
      have := C j v hv
      rw [Addr.add_lit] at this
      exact this
theorem read_moves_w {fuel : Nat} {cs : List Value} {x : DataW H × List MemPlace} {B : Nat} (h : DataW.trod enc Tryd.prog w base spare held fuel 33 cs = some x) (hw : ∀ n ∈ x.1.weights Tryd.prog 33, n ≤ B) :
    ∃ (a : Option Addr) (l : List MoveV) (cap : Nat), cs = [.slice a l.length cap] ∧ l.length ≤ cap ∧ cap ≤ maxLen ∧ SlAt 10 MvAt w a l ∧ (∀ y ∈ l, y.whole.fields.length * 32 ≤ B) := by
  obtain ⟨a, l, cap, h1, h2, h3, h4, h6, h5⟩ := read_slice_w (sz := 10) (E := MvAt) (Sz := fun y : MoveV => y.whole.fields.length * 32 ≤ B) Tryd.underlying33 (by kernel_rfl) (by decide) read_move_w h hw
  exact ⟨a, l, cap, h1, h2, h3, h4, h6⟩
end
end Go.Proofs.YtijeninfmjhbnaaDoor
end
/- What a move does to kinds: plain. -/
section
namespace Go.Proofs.YtijeninfmjhbnaaDoor
set_option linter.unusedVariables false
open Go.Nm
def modAt {α : Type} (f : α → α) : List α → Nat → List α
  | [], _ => []
  | x :: r, 0 => f x :: r
  | x :: r, i + 1 => x :: modAt f r i
theorem modAt_len {α : Type} (f : α → α) : ∀ (l : List α) (i : Nat), (modAt f l i).length = l.length
  | [], _ => rfl
  | x :: r, 0 => rfl
  | x :: r, i + 1 => by simp [modAt, modAt_len f r i]
theorem modAt_get {α : Type} (f : α → α) : ∀ (l : List α) (i j : Nat) (h : j < (modAt f l i).length) (h' : j < l.length), (modAt f l i)[j] = if j = i then f l[j] else l[j]
  | [], _, j, h, h' => by simp at h'
  | x :: r, 0, 0, h, h' => rfl
  | x :: r, 0, j + 1, h, h' => by simp [modAt]
  | x :: r, i + 1, 0, h, h' => by simp [modAt]
  | x :: r, i + 1, j + 1, h, h' => by
    have := modAt_get f r i j (by simpa [modAt] using h) (by simpa using h')
    simp only [modAt, List.getElem_cons_succ, this, Nat.add_right_cancel_iff]
def delAt {α : Type} (l : List α) (i : Nat) : List α := l.take i ++ l.drop (i + 1)
def iK (ks : List KindV) (m : MoveV) : Int := firstAt (ks.map (·.name)) m.kind 0
def jK (ks : List KindV) (m : MoveV) : Int := firstAt ((ks.getD (iK ks m).toNat default).fields.map (·.name)) m.field 0
def pE (ks : List KindV) (m : MoveV) : Int := if m.do_ < 0 ∨ 6 < m.do_ then 1 else if m.do_ = 0 then 0 else if iK ks m < 0 then 4 else if m.do_ ≤ 3 then 0 else if jK ks m < 0 then 4 else 0
def pI (ks : List KindV) (m : MoveV) : Int := if pE ks m ≠ 0 ∨ m.do_ = 0 then 0 else iK ks m
def pJ (ks : List KindV) (m : MoveV) : Int := if pE ks m ≠ 0 ∨ m.do_ ≤ 3 then 0 else jK ks m
def fldM (m : MoveV) (l : List FieldV) (j : Nat) : List FieldV :=
  if m.do_ = 3 then l ++ [m.new] else if m.do_ = 4 then delAt l j else if m.do_ = 5 then modAt (fun f => ⟨m.name, f.bits, f.low⟩) l j else modAt (fun f => ⟨f.name, m.new.bits, m.new.low⟩) l j
def movedK (ks : List KindV) (m : MoveV) (i j : Nat) : List KindV :=
  if m.do_ = 0 then ks ++ [m.whole] else if m.do_ = 1 then delAt ks i else if m.do_ = 2 then modAt (fun k => ⟨m.name, k.fields⟩) ks i else modAt (fun k => ⟨k.name, fldM m k.fields j⟩) ks i
def oneK (ks : List KindV) (m : MoveV) : List KindV := movedK ks m (pI ks m).toNat (pJ ks m).toNat
def oneE (ks : List KindV) (m : MoveV) : Int := if pE ks m ≠ 0 then pE ks m else kindsE (oneK ks m)
def movesE (ks : List KindV) : List MoveV → Int
  | [] => 0
  | m :: r => if oneE ks m ≠ 0 then oneE ks m else movesE (oneK ks m) r
def movesK (ks : List KindV) : List MoveV → List KindV
  | [] => ks
  | m :: r => movesK (oneK ks m) r
def afterE (ks : List KindV) (l : List MoveV) : Int := if kindsE ks ≠ 0 then kindsE ks else if 100 < l.length then 2 else movesE ks l
theorem firstAt_bound : ∀ (l : List ByteArray) (s : ByteArray) (k : Nat), firstAt l s k = -1 ∨ ((k : Int) ≤ firstAt l s k ∧ firstAt l s k < k + l.length)
  | [], s, k => Or.inl rfl
  | a :: r, s, k => by
    unfold firstAt
    split
    · right; simp only [List.length_cons]; omega
    · have := firstAt_bound r s (k + 1)
      simp only [List.length_cons]
      omega
theorem iK_bound (ks : List KindV) (m : MoveV) : iK ks m = -1 ∨ (0 ≤ iK ks m ∧ iK ks m < ks.length) := by
  have := firstAt_bound (ks.map (·.name)) m.kind 0
  rw [List.length_map] at this
  unfold iK
  omega
theorem jK_bound (ks : List KindV) (m : MoveV) : jK ks m = -1 ∨ (0 ≤ jK ks m ∧ jK ks m < (ks.getD (iK ks m).toNat default).fields.length) := by
  have := firstAt_bound ((ks.getD (iK ks m).toNat default).fields.map (·.name)) m.field 0
  rw [List.length_map] at this
  unfold jK
  omega
theorem pE_zero {ks : List KindV} {m : MoveV} (h : pE ks m = 0) : ¬ (m.do_ < 0 ∨ 6 < m.do_) ∧ (m.do_ ≠ 0 → ¬ iK ks m < 0) ∧ (3 < m.do_ → ¬ jK ks m < 0) := by
  unfold pE at h
  by_cases h1 : m.do_ < 0 ∨ 6 < m.do_
  · rw [if_pos h1] at h; cases h
  · rw [if_neg h1] at h
    refine ⟨h1, fun h2 h3 => ?_, fun h2 h3 => ?_⟩
    · rw [if_neg h2, if_pos h3] at h; cases h
    · rw [if_neg (by omega)] at h
      by_cases h4 : iK ks m < 0
      · rw [if_pos h4] at h; cases h
      · rw [if_neg h4, if_neg (by omega), if_pos h3] at h; cases h
theorem pI_bound {ks : List KindV} {m : MoveV} (h : pE ks m = 0) (h0 : m.do_ ≠ 0) : 0 ≤ pI ks m ∧ pI ks m < ks.length := by
  unfold pI
  rw [if_neg (by rw [h]; simp; exact h0)]
  have := iK_bound ks m
  have := (pE_zero h).2.1 h0
  omega
theorem pJ_bound {ks : List KindV} {m : MoveV} (h : pE ks m = 0) (h0 : 3 < m.do_) : 0 ≤ pJ ks m ∧ pJ ks m < (ks.getD (pI ks m).toNat default).fields.length := by
  unfold pJ pI
  rw [if_neg (by rw [h]; simp; omega), if_neg (by rw [h]; simp; omega)]
  have := jK_bound ks m
  have := (pE_zero h).2.2 h0
  omega
theorem oneE_kinds {ks : List KindV} {m : MoveV} (h : oneE ks m = 0) : pE ks m = 0 ∧ kindsE (oneK ks m) = 0 := by
  unfold oneE at h
  split at h
  · exact absurd h (by assumption)
  · rename_i hx
    exact ⟨Decidable.not_not.1 hx, h⟩
end Go.Proofs.YtijeninfmjhbnaaDoor
end
/- What valid kinds promise: plain. -/
section
namespace Go.Proofs.YtijeninfmjhbnaaDoor
set_option linter.unusedVariables false
open Go.Nm
theorem kindsE_bound {l : List KindV} (h : kindsE l = 0) : l.length ≤ 16 ∧ ∀ k ∈ l, kindE k = 0 := by
  unfold kindsE at h
  split at h
  · cases h
  · refine ⟨by omega, fun k hk => ?_⟩
    obtain ⟨i, hi, rfl⟩ := List.mem_iff_getElem.1 hk
    have key : ∀ m, kndErr l m = 0 → ∀ j, j < m → kindE (l.getD j default) = 0 := by
      intro m
      induction m with
      | zero => intro _ j hj; omega
      | succ m ih =>
        intro hm j hj
        unfold kndErr at hm
        by_cases h1 : kndErr l m ≠ 0
        · rw [if_pos h1] at hm; exact absurd hm h1
        · rw [if_neg h1] at hm
          by_cases h2 : kindE (l.getD m default) ≠ 0
          · rw [if_pos h2] at hm; exact absurd hm h2
          · by_cases e : j = m
            · subst e; exact Decidable.not_not.1 h2
            · exact ih (Decidable.not_not.1 h1) j (by omega)
    have := key _ h i hi
    rw [List.getD_eq_getElem?_getD, List.getElem?_eq_getElem hi] at this
    exact this
theorem kindE_bound {k : KindV} (h : kindE k = 0) : k.fields.length ≤ 8 ∧ fldErr k.fields k.fields.length = 0 := by
  unfold kindE at h
  split at h
  · cases h
  · split at h
    · cases h
    · exact ⟨by omega, h⟩
theorem kinds_small {l : List KindV} (h : kindsE l = 0) : l.length ≤ 16 ∧ ∀ k ∈ l, k.fields.length ≤ 8 := ⟨(kindsE_bound h).1, fun k hk => (kindE_bound ((kindsE_bound h).2 k hk)).1⟩
theorem fldErr_fields {l : List FieldV} : ∀ {m : Nat}, fldErr l m = 0 → ∀ j, j < m → okF (l.getD j default) = true
  | 0, _, j, hj => by omega
  | m + 1, h, j, hj => by
    unfold fldErr at h
    by_cases h1 : fldErr l m ≠ 0
    · rw [if_pos h1] at h; exact absurd h h1
    · rw [if_neg h1] at h
      by_cases e : j = m
      · subst e
        by_cases h2 : okF (l.getD j default) = true
        · exact h2
        · rw [Bool.not_eq_true] at h2
          rw [h2] at h
          simp at h
      · exact fldErr_fields (Decidable.not_not.1 h1) j (by omega)
theorem field_valid {ks : List KindV} (h : kindsE ks = 0) {k : KindV} (hk : k ∈ ks) {f : FieldV} (hf : f ∈ k.fields) : okF f = true := by
  obtain ⟨j, hj, rfl⟩ := List.mem_iff_getElem.1 hf
  have := fldErr_fields (kindE_bound ((kindsE_bound h).2 k hk)).2 j hj
  rw [List.getD_eq_getElem?_getD, List.getElem?_eq_getElem hj] at this
  exact this
end Go.Proofs.YtijeninfmjhbnaaDoor
end
/- What tourref3.KindsAfter computes: plain; it is what a move does. -/
section
namespace Go.Proofs.YtijeninfmjhbnaaDoor
set_option linter.unusedVariables false
open Go.Nm
def idxF {α : Type} [Inhabited α] (g : Nat → α → List α) (l : List α) : Nat → List α
  | 0 => []
  | n + 1 => idxF g l n ++ g n (l.getD n default)
theorem getD_is {α : Type} [Inhabited α] {l : List α} {n : Nat} (h : n < l.length) : l.getD n default = l[n] := by
  rw [List.getD_eq_getElem?_getD, List.getElem?_eq_getElem h]; rfl
theorem idx_mod {α : Type} [Inhabited α] {g : Nat → α → List α} {l : List α} {i : Nat} {f : α → α} (hg : ∀ p, ∀ x ∈ l, g p x = [if p = i then f x else x]) : idxF g l l.length = modAt f l i := by
  have key : ∀ n, n ≤ l.length → idxF g l n = (modAt f l i).take n := by
    intro n
    induction n with
    | zero => intro _; rfl
    | succ n ih =>
      intro hn
      have h1 : n < (modAt f l i).length := by rw [modAt_len]; omega
      rw [idxF, ih (by omega), List.take_add_one, List.getElem?_eq_getElem h1, getD_is (by omega), hg n _ (List.getElem_mem _), modAt_get f l i n h1 (by omega)]
      rfl
  rw [key _ (Nat.le_refl _), List.take_of_length_le (by rw [modAt_len]; exact Nat.le_refl _)]
theorem idx_id {α : Type} [Inhabited α] {g : Nat → α → List α} {l : List α} (hg : ∀ p, ∀ x ∈ l, g p x = [x]) : idxF g l l.length = l := by
  have key : ∀ n, n ≤ l.length → idxF g l n = l.take n := by
    intro n
    induction n with
    | zero => intro _; rfl
    | succ n ih =>
      intro hn
      rw [idxF, ih (by omega), List.take_add_one, List.getElem?_eq_getElem (by omega), getD_is (by omega), hg n _ (List.getElem_mem _)]
      rfl
  rw [key _ (Nat.le_refl _), List.take_of_length_le (Nat.le_refl _)]
theorem idx_del {α : Type} [Inhabited α] {g : Nat → α → List α} {l : List α} {i : Nat} (hi : i < l.length) (hg : ∀ p, ∀ x ∈ l, g p x = if p = i then [] else [x]) : idxF g l l.length = delAt l i := by
  have key : ∀ n, n ≤ l.length → idxF g l n = if n ≤ i then l.take n else l.take i ++ (l.take n).drop (i + 1) := by
    intro n
    induction n with
    | zero => intro _; rw [if_pos (Nat.zero_le _)]; rfl
    | succ n ih =>
      intro hn
      rw [idxF, ih (by omega), getD_is (by omega), hg n _ (List.getElem_mem _)]
      have ht : l.take (n + 1) = l.take n ++ [l[n]] := by rw [List.take_add_one, List.getElem?_eq_getElem (by omega)]; rfl
      by_cases h1 : n < i
      · rw [if_pos (show n ≤ i by omega), if_neg (show ¬ n = i by omega), if_pos (show n + 1 ≤ i by omega), ht]
      · by_cases h2 : n = i
        · subst h2
          rw [if_pos (Nat.le_refl _), if_pos rfl, if_neg (by omega), List.append_nil, List.drop_eq_nil_of_le (by rw [List.length_take]; omega), List.append_nil]
        · rw [if_neg (by omega), if_neg h2, if_neg (by omega), ht, List.drop_append_of_le_length (by rw [List.length_take]; omega), List.append_assoc]
  rw [key _ (Nat.le_refl _), if_neg (by omega), List.take_of_length_le (Nat.le_refl _)]
  rfl
def fld1 (m : MoveV) (h : Bool) (f : FieldV) : List FieldV := if (h && decide (m.do_ = 4)) = true then [] else [if (h && decide (m.do_ = 5)) = true then ⟨m.name, f.bits, f.low⟩ else if (h && decide (m.do_ = 6)) = true then ⟨f.name, m.new.bits, m.new.low⟩ else f]
def fldsR (m : MoveV) (I J : Int) (p : Nat) (l : List FieldV) : Nat → List FieldV := idxF (fun q => fld1 m (decide ((p : Int) = I) && decide ((q : Int) = J))) l
def knd1 (m : MoveV) (I J : Int) (p : Nat) (k : KindV) : List KindV :=
  if (decide ((p : Int) = I) && decide (m.do_ = 1)) = true then [] else [⟨if (decide ((p : Int) = I) && decide (m.do_ = 2)) = true then m.name else k.name, fldsR m I J p k.fields k.fields.length ++ (if (decide ((p : Int) = I) && decide (m.do_ = 3)) = true then [m.new] else [])⟩]
def kindsR (m : MoveV) (I J : Int) (ks : List KindV) : Nat → List KindV := idxF (knd1 m I J) ks
def refK (ks : List KindV) (m : MoveV) (I J : Int) : List KindV := kindsR m I J ks ks.length ++ (if m.do_ = 0 then [m.whole] else [])
def jW (ks : List KindV) (m : MoveV) : Int := if iK ks m < 0 then -1 else jK ks m
theorem flds_same {m : MoveV} {I J : Int} {p : Nat} {l : List FieldV} (h : ((p : Int) ≠ I) ∨ (m.do_ ≠ 4 ∧ m.do_ ≠ 5 ∧ m.do_ ≠ 6)) : fldsR m I J p l l.length = l := by
  refine idx_id fun q x _ => ?_
  unfold fld1
  rcases h with h | ⟨h4, h5, h6⟩
  · simp [h]
  · simp [h4, h5, h6]
theorem refK_eq {ks : List KindV} {m : MoveV} (hp : pE ks m = 0) : refK ks m (iK ks m) (jW ks m) = oneK ks m := by
  unfold refK kindsR oneK movedK
  have hz := pE_zero hp
  by_cases d0 : m.do_ = 0
  · rw [if_pos d0, if_pos d0, idx_id]
    intro p k _
    unfold knd1
    rw [flds_same (Or.inr ⟨by omega, by omega, by omega⟩)]
    simp [d0]
  · have hI := pI_bound hp d0
    have hIe : pI ks m = iK ks m := by unfold pI; rw [if_neg (by rw [hp]; simp; exact d0)]
    obtain ⟨q, hq⟩ : ∃ q : Nat, pI ks m = (q : Int) := ⟨(pI ks m).toNat, by omega⟩
    have hqI : iK ks m = (q : Int) := by rw [← hIe, hq]
    have hqn : q < ks.length := by rw [hq] at hI; omega
    have hjw : jW ks m = jK ks m := by unfold jW; rw [if_neg (by rw [hqI]; omega)]
    rw [if_neg d0, if_neg d0, hq, hqI, Int.toNat_natCast, List.append_nil]
    have hpq : ∀ p : Nat, decide ((p : Int) = (q : Int)) = decide (p = q) := fun p => decide_eq_decide.2 ⟨fun h => by omega, fun h => by omega⟩
    by_cases d1 : m.do_ = 1
    · rw [if_pos d1]
      refine idx_del hqn fun p k _ => ?_
      unfold knd1
      rw [flds_same (Or.inr ⟨by omega, by omega, by omega⟩), hpq]
      by_cases h : p = q <;> simp [h, d1]
    · rw [if_neg d1]
      by_cases d2 : m.do_ = 2
      · rw [if_pos d2]
        refine idx_mod fun p k _ => ?_
        unfold knd1
        rw [flds_same (Or.inr ⟨by omega, by omega, by omega⟩), hpq]
        by_cases h : p = q <;> simp [h, d2]
      · rw [if_neg d2]
        by_cases d3 : m.do_ = 3
        · refine idx_mod fun p k _ => ?_
          unfold knd1
          rw [flds_same (Or.inr ⟨by omega, by omega, by omega⟩), hpq]
          unfold fldM
          by_cases h : p = q <;> simp [h, d3]
        · have hJ := pJ_bound hp (by have := hz.1; omega)
          have hJe : pJ ks m = jK ks m := by unfold pJ; rw [if_neg (by rw [hp]; simp; have := hz.1; omega)]
          obtain ⟨j, hj⟩ : ∃ j : Nat, pJ ks m = (j : Int) := ⟨(pJ ks m).toNat, by omega⟩
          have hjJ : jW ks m = (j : Int) := by rw [hjw, ← hJe, hj]
          rw [hq, hj, Int.toNat_natCast, getD_is hqn] at hJ
          rw [hj, hjJ, Int.toNat_natCast]
          have hrj : ∀ r : Nat, decide ((r : Int) = (j : Int)) = decide (r = j) := fun r => decide_eq_decide.2 ⟨fun h => by omega, fun h => by omega⟩
          -- the field list of kind q
          have hfq : ∀ l : List FieldV, j < l.length → fldsR m (q : Int) (j : Int) q l l.length = fldM m l j := by
            intro l hl
            unfold fldsR fldM
            rw [if_neg d3]
            by_cases d4 : m.do_ = 4
            · rw [if_pos d4]
              refine idx_del hl fun r f _ => ?_
              unfold fld1
              rw [hrj]
              by_cases h : r = j <;> simp [h, d4]
            · rw [if_neg d4]
              by_cases d5 : m.do_ = 5
              · rw [if_pos d5]
                refine idx_mod fun r f _ => ?_
                unfold fld1
                rw [hrj]
                by_cases h : r = j <;> simp [h, d5]
              · have d6 : m.do_ = 6 := by have := hz.1; omega
                rw [if_neg d5]
                refine idx_mod fun r f _ => ?_
                unfold fld1
                rw [hrj]
                by_cases h : r = j <;> simp [h, d6]
          have key : ∀ n, n ≤ ks.length → idxF (knd1 m (q : Int) (j : Int)) ks n = (modAt (fun k => (⟨k.name, fldM m k.fields j⟩ : KindV)) ks q).take n := by
            intro n
            induction n with
            | zero => intro _; rfl
            | succ n ih =>
              intro hn
              have h1 : n < (modAt (fun k => (⟨k.name, fldM m k.fields j⟩ : KindV)) ks q).length := by rw [modAt_len]; omega
              rw [idxF, ih (by omega), List.take_add_one, List.getElem?_eq_getElem h1, getD_is (by omega), modAt_get _ ks q n h1 (by omega)]
              congr 1
              unfold knd1
              rw [hpq]
              by_cases h : n = q
              · subst h
                rw [hfq _ (by omega)]
                simp [d1, d2, d3]
              · rw [flds_same (Or.inl (by omega))]
                simp [h]
          rw [key _ (Nat.le_refl _), List.take_of_length_le (by rw [modAt_len]; exact Nat.le_refl _)]
end Go.Proofs.YtijeninfmjhbnaaDoor
end
/- What undoes a move: plain. -/
section
namespace Go.Proofs.YtijeninfmjhbnaaDoor
set_option linter.unusedVariables false
open Go.Nm
def zF : FieldV := ⟨(⟨#[]⟩ : ByteArray), 0, 0⟩
def zK : KindV := ⟨(⟨#[]⟩ : ByteArray), []⟩
def fieldAt (ks : List KindV) (m : MoveV) : FieldV := ((ks.getD (pI ks m).toNat default).fields).getD (pJ ks m).toNat default
def hiF (f : FieldV) : Int := topF f.bits.toNat f.low
def invV (ks : List KindV) (m : MoveV) : MoveV :=
  if m.do_ = 0 then ⟨1, m.whole.name, (⟨#[]⟩ : ByteArray), (⟨#[]⟩ : ByteArray), 0, zF, zK⟩
  else if m.do_ = 2 then ⟨2, m.name, (⟨#[]⟩ : ByteArray), m.kind, 0, zF, zK⟩
  else if m.do_ = 3 then ⟨4, m.kind, m.new.name, (⟨#[]⟩ : ByteArray), 0, zF, zK⟩
  else if m.do_ = 5 then ⟨5, m.kind, m.name, m.field, 0, zF, zK⟩
  else if m.do_ = 6 then ⟨6, m.kind, m.field, (⟨#[]⟩ : ByteArray), 0, ⟨(⟨#[]⟩ : ByteArray), (fieldAt ks m).bits, (fieldAt ks m).low⟩, zK⟩
  else ⟨0, (⟨#[]⟩ : ByteArray), (⟨#[]⟩ : ByteArray), (⟨#[]⟩ : ByteArray), 0, zF, zK⟩
def invB (ks : List KindV) (m : MoveV) : Bool :=
  if m.do_ = 1 ∨ m.do_ = 4 then false else if m.do_ = 6 then decide (m.new.low ≤ (fieldAt ks m).low) && decide (hiF (fieldAt ks m) ≤ topF m.new.bits.toNat m.new.low) else true
theorem ok_bounds {f : FieldV} (h : okF f = true) : fieldB f.name f.bits f.low = true ∧ 1 ≤ f.bits ∧ f.bits ≤ 32 ∧ -4294967296 ≤ f.low ∧ f.low ≤ 4294967296 := by
  unfold okF at h
  rcases field_cases f.name f.bits f.low with ⟨h0, _, h1, h2, h3, h4⟩ | ⟨h0, _⟩
  · exact ⟨h0, h1, h2, h3, h4⟩
  · rw [h0] at h; cases h
theorem top_ge {n : Nat} {l : Int} (h : n ≤ 32) : l ≤ topF n l := by
  unfold topF
  have := pow_bd n h
  omega
/-- what the program asks is what the reference asks -/
theorem inv_same {nf ng : Nat} {lf lg : Int} (hf : nf ≤ 32) (hg : ng ≤ 32) : ((nearF ng lg lf == lf) && (nearF ng lg (topF nf lf) == topF nf lf)) = (decide (lg ≤ lf) && decide (topF nf lf ≤ topF ng lg)) := by
  have h1 := top_ge (l := lf) hf
  have h2 := top_ge (l := lg) hg
  rw [Bool.eq_iff_iff]
  simp only [Bool.and_eq_true, beq_iff_eq, decide_eq_true_eq]
  unfold nearF
  omega
theorem retype_ok {ks : List KindV} {m : MoveV} (hk : kindsE ks = 0) (he : oneE ks m = 0) (hd : m.do_ = 6) : okF (fieldAt ks m) = true ∧ okF ⟨(fieldAt ks m).name, m.new.bits, m.new.low⟩ = true := by
  have hp := (oneE_kinds he).1
  have hI := pI_bound hp (by rw [hd]; decide)
  have hJ := pJ_bound hp (by rw [hd]; decide)
  obtain ⟨q, hq⟩ : ∃ q : Nat, pI ks m = (q : Int) := ⟨(pI ks m).toNat, by omega⟩
  obtain ⟨j, hj⟩ : ∃ j : Nat, pJ ks m = (j : Int) := ⟨(pJ ks m).toNat, by omega⟩
  have hqn : q < ks.length := by rw [hq] at hI; omega
  rw [hq, hj, Int.toNat_natCast, getD_is hqn] at hJ
  have hjn : j < ks[q].fields.length := by omega
  have hf : fieldAt ks m = ks[q].fields[j] := by
    unfold fieldAt
    rw [hq, hj, Int.toNat_natCast, Int.toNat_natCast, getD_is hqn, getD_is hjn]
  rw [hf]
  refine ⟨field_valid hk (List.getElem_mem hqn) (List.getElem_mem hjn), ?_⟩
  have h2 := (oneE_kinds he).2
  have hko : oneK ks m = modAt (fun k => ⟨k.name, fldM m k.fields j⟩) ks q := by
    unfold oneK movedK
    rw [hq, hj, Int.toNat_natCast, Int.toNat_natCast, if_neg (by rw [hd]; decide), if_neg (by rw [hd]; decide), if_neg (by rw [hd]; decide)]
  rw [hko] at h2
  have hl : q < (modAt (fun k => (⟨k.name, fldM m k.fields j⟩ : KindV)) ks q).length := by rw [modAt_len]; exact hqn
  have hg := modAt_get (fun k => (⟨k.name, fldM m k.fields j⟩ : KindV)) ks q q hl hqn
  rw [if_pos rfl] at hg
  have hm := List.getElem_mem hl
  rw [hg] at hm
  have hfm : fldM m ks[q].fields j = modAt (fun f => ⟨f.name, m.new.bits, m.new.low⟩) ks[q].fields j := by
    unfold fldM
    rw [if_neg (by rw [hd]; decide), if_neg (by rw [hd]; decide), if_neg (by rw [hd]; decide)]
  have hl2 : j < (modAt (fun f => (⟨f.name, m.new.bits, m.new.low⟩ : FieldV)) ks[q].fields j).length := by rw [modAt_len]; exact hjn
  have hg2 := modAt_get (fun f => (⟨f.name, m.new.bits, m.new.low⟩ : FieldV)) ks[q].fields j j hl2 hjn
  rw [if_pos rfl] at hg2
  have hm2 := List.getElem_mem hl2
  rw [hg2] at hm2
  exact field_valid h2 hm (f := ⟨ks[q].fields[j].name, m.new.bits, m.new.low⟩) (by rw [hfm]; exact hm2)
end Go.Proofs.YtijeninfmjhbnaaDoor
end
/- Components as they lie in memory. -/
section
namespace Go.Proofs.YtijeninfmjhbnaaDoor
open Go.RowKit Go.ChangeShapes Go.WideShapes Go.Deep Go.Mem
set_option linter.unusedVariables false
structure CompV where
  kind : Int
  vals : List Int
  deriving Inhabited, DecidableEq
/-- a component at an address: its cells, and its numbers -/
def CompAt (w : World) (p : Addr) (y : CompV) : Prop := w.cell? p = some (.int .i64 y.kind) ∧ ∃ a c, w.cell? ⟨p.block, p.off + 1, none⟩ = some (.slice a y.vals.length c) ∧ IntsAt .i64 w a y.vals
theorem CompAt.abides : Abides CompAt := fun w w' p y h hb => by
  obtain ⟨h1, a, c, h2, h3⟩ := h
  exact ⟨cell_abides h1 hb, a, c, cell_abides h2 hb, h3.below hb⟩
def costComp (y : CompV) : Nat := y.vals.length + 1
section
variable {H : Type} {enc : TypeId × Value → H} {w : World} {base : Nat} {spare : Nat → Bool} {held : Bool}
theorem int_cost : ∀ l : List Int, (l.map fun _ => 1).sum = l.length := fun l => by induction l with | nil => rfl | cons a l ih => simp [ih]; omega
/-- a slice of ints, as a list and a bulk -/
theorem read_ints {fuel : Nat} {cs : List Value} {x : DataW H × List MemPlace} (h : DataW.trod enc Tryd.prog w base spare held fuel 23 cs = some x) :
    ∃ (a : Option Addr) (l : List Int) (cap : Nat), cs = [.slice a l.length cap] ∧ l.length ≤ cap ∧ cap ≤ maxLen ∧ IntsAt .i64 w a l ∧ l.length + 1 ≤ Rows.uptoBulk x.1 := by
  obtain ⟨a, l, cap, h1, h2, h3, h4, h5⟩ := read_slice (E := fun w p (z : Int) => w.cell? p = some (.int .i64 z)) (cost := fun _ => 1) Tryd.underlying23 (show Tryd.prog.cellsOf 3 = 1 by kernel_rfl) (by decide) (fun fuel cs x p hl hc ht => by
    obtain ⟨z, rfl, rfl, _⟩ := DataW.trod_int Tryd.underlying3 ht
    refine ⟨z, by have := hc 0 (by decide); simpa [Addr.add] using this, by simp [Rows.uptoBulk]⟩) h
  refine ⟨a, l, cap, h1, h2, h3, ?_, by rw [int_cost] at h5; exact h5⟩
  intro h0
  obtain ⟨x, e, hx, hi⟩ := h4 h0
  refine ⟨x, e, hx, fun i hi' => ?_⟩
  have := hi i hi'
  rw [Nat.mul_one] at this
  rw [this, List.getD_eq_getElem?_getD, List.getElem?_eq_getElem hi']; rfl
set_option maxRecDepth 100000 in
theorem read_comp (fuel : Nat) (cs : List Value) (x : DataW H × List MemPlace) (p : Addr) (hl : cs.length = 2) (hc : ∀ j, j < 2 → w.cell? (p.add j) = cs[j]?) (ht : DataW.trod enc Tryd.prog w base spare held fuel 87 cs = some x) : ∃ y, CompAt w p y ∧ costComp y ≤ Rows.uptoBulk x.1 := by
  obtain ⟨xs, n, _, rfl, _, hxl, hf⟩ := DataW.trod_struct Tryd.underlying87 ht
  match cs, hl with
  | [v0, v1], _ =>
    have g0 : DataW.trod enc Tryd.prog w base spare held n 3 (([v0, v1].drop 0).take (Tryd.prog.cellsOf 3)) = xs[0]? := hf 0 _ rfl
    have g1 : DataW.trod enc Tryd.prog w base spare held n 23 (([v0, v1].drop 1).take (Tryd.prog.cellsOf 23)) = xs[1]? := hf 1 _ rfl
    rw [show Tryd.prog.cellsOf 3 = 1 by kernel_rfl] at g0
    rw [show Tryd.prog.cellsOf 23 = 1 by kernel_rfl] at g1
    match xs, hxl with
    | [y0, y1], _ =>
      obtain ⟨z, e0, _, _⟩ := DataW.trod_int Tryd.underlying3 (show DataW.trod enc Tryd.prog w base spare held n 3 [v0] = some y0 from g0)
      obtain ⟨a, l, cap, e1, _, _, h4, h5⟩ := read_ints (show DataW.trod enc Tryd.prog w base spare held n 23 [v1] = some y1 from g1)
      injection e0 with e0; injection e1 with e1
      subst e0 e1
      have c0 := hc 0 (by decide)
      have c1 := hc 1 (by decide)
      have hb : Rows.uptoBulk y1.1 + 1 ≤ Rows.uptoBulk (.agg ([y0, y1].map (·.1))) := agg_bulk (xs := [y0, y1]) (i := 1) (y := y1) rfl
      exact ⟨⟨z, l⟩, ⟨by simpa [Addr.add] using c0, a, cap, by simpa [Addr.add] using c1, h4⟩, by unfold costComp; simp only at hb ⊢; omega⟩
set_option maxRecDepth 100000 in
theorem read_comps {fuel : Nat} {cs : List Value} {x : DataW H × List MemPlace} (h : DataW.trod enc Tryd.prog w base spare held fuel 25 cs = some x) :
    ∃ (a : Option Addr) (l : List CompV) (cap : Nat), cs = [.slice a l.length cap] ∧ l.length ≤ cap ∧ cap ≤ maxLen ∧ SlAt 2 CompAt w a l ∧ (l.map costComp).sum + 1 ≤ Rows.uptoBulk x.1 :=
  read_slice Tryd.underlying25 (by kernel_rfl) (by decide) read_comp h
end
end Go.Proofs.YtijeninfmjhbnaaDoor
end
