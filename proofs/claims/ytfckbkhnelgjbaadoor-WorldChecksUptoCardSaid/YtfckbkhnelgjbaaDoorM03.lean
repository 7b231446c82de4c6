/- Lemmas for the law WorldChecks: Rd, AggB, NameP, NameW, TrimL, IsNameW. No conditions. -/
import Derived.Test.YtfckbkhnelgjbaaDoorM02
import Derived.Deep.Slices
import Derived.OpenShut
import Derived.ChangeArms
import Derived.Lib.SlTrimSet
import Derived.Test.YtfckbkhnelgjbaaDoorRows
import Derived.WalkKit
import Derived.ProofKit
import Derived.Lib.Hide
import Derived.Deep.LoopGhost
import Derived.Ground.NamesProg
import Derived.Shelf.Strings.SlTrimAscii
import Derived.Test.YtfckbkhnelgjbaaDoorProg
import Derived.Below
/- Arguments of nested slices and structs, read whole. No function of the program is named here. -/
section
namespace Go.Proofs.YtfckbkhnelgjbaaDoor
open Go.RowKit Go.ChangeShapes Go.WideShapes Go.Deep Go.Mem
set_option linter.unusedVariables false
/-- The elements of a slice whose elements take sz cells each; E says what lies at an element's address. -/
def SlAt {α : Type} (sz : Nat) (E : World → Addr → α → Prop) (w : World) (a : Option Addr) (l : List α) : Prop :=
  0 < l.length → ∃ x, a = some x ∧ x.block < w.heap.size ∧ ∀ i (h : i < l.length), E w (x.add (i * sz)) l[i]
/-- a fact that abides what lies beyond -/
def Abides {α : Type} (E : World → Addr → α → Prop) : Prop := ∀ w w' p y, E w p y → Below w.heap.size w w' → E w' p y
theorem SlAt.below {α : Type} {sz : Nat} {E : World → Addr → α → Prop} (hE : Abides E) {w w' : World} {a : Option Addr} {l : List α} (h : SlAt sz E w a l) (hb : Below w.heap.size w w') : SlAt sz E w' a l := fun h0 => by
  obtain ⟨x, h1, h2, h3⟩ := h h0
  exact ⟨x, h1, Nat.lt_of_lt_of_le h2 hb.size, fun i hi => hE _ _ _ _ (h3 i hi) hb⟩
theorem cell_abides {w w' : World} {p : Addr} {v : Value} (h : w.cell? p = some v) (hb : Below w.heap.size w w') : w'.cell? p = some v :=
  (hb.cell (World.block_lt_of_cell? _ _ h)).trans h
/-- the blocks from B on are as they were -/
def SameUp (B : Nat) (w w2 : World) : Prop := w.heap.size ≤ w2.heap.size ∧ ∀ g, B ≤ g → g < w.heap.size → w2.heap[g]? = w.heap[g]?
/-- R holds, and leans on the blocks from B on alone -/
def Up (B : Nat) (R : World → Prop) (w : World) : Prop := ∀ w2, SameUp B w w2 → R w2
theorem Up.now {B : Nat} {R : World → Prop} {w : World} (h : Up B R w) : R w := h w ⟨Nat.le_refl _, fun _ _ _ => rfl⟩
theorem Up.below {B : Nat} {R : World → Prop} {w w' : World} (h : Up B R w) (hb : Below w.heap.size w w') : Up B R w' := fun w2 hs => h w2 ⟨Nat.le_trans hb.size hs.1, fun g h1 h2 => (hs.2 g h1 (Nat.lt_of_lt_of_le h2 hb.size)).trans (hb.block g h2)⟩
theorem Up.lower {B C : Nat} {R : World → Prop} {w : World} (h : Up B R w) (hc : C ≤ B) : Up C R w := fun w2 hs => h w2 ⟨hs.1, fun g h1 h2 => hs.2 g (Nat.le_trans hc h1) h2⟩
theorem Up.set {B : Nat} {R : World → Prop} {w : World} (h : Up B R w) (p : Addr) (v : Value) (hp : p.block < B) : Up B R (w.setCell p v) := fun w2 hs => h w2 ⟨by simpa using hs.1, fun g h1 h2 => (hs.2 g h1 (by simpa using h2)).trans (Below.heap_setCell w p v g (by omega))⟩
theorem Up.grown {B : Nat} {R : World → Prop} {w w' : World} {row : Option Nat} (h : Up B R w) (hg : w.grownBy w' row) (hr : ∀ r, row = some r → r < B) : Up B R w' := fun w2 hs => h w2 ⟨Nat.le_trans hg.size hs.1, fun g h1 h2 => (hs.2 g h1 (Nat.lt_of_lt_of_le h2 hg.size)).trans (hg.block g h2 (fun e => by have := hr g e.symm; omega))⟩
theorem cell_same {w w2 : World} {p : Addr} (h : w2.heap[p.block]? = w.heap[p.block]?) : w2.cell? p = w.cell? p := by
  unfold World.cell?; rw [h]
theorem cell_up {B : Nat} {w w2 : World} {p : Addr} {v : Value} (hs : SameUp B w w2) (hp : B ≤ p.block) (h : w.cell? p = some v) : w2.cell? p = some v :=
  (cell_same (hs.2 _ hp (World.block_lt_of_cell? _ _ h))).trans h
theorem ints_up {B : Nat} {w w2 : World} {k : IntKind} {a : Option Addr} {zs : List Int} (hs : SameUp B w w2) (hp : ∀ x, a = some x → B ≤ x.block) (h : IntsAt k w a zs) : IntsAt k w2 a zs := fun h0 => by
  obtain ⟨x, e, h1, h2⟩ := h h0
  exact ⟨x, e, Nat.lt_of_lt_of_le h1 hs.1, fun i hi => cell_up hs (by rw [block_of_add]; exact hp x e) (h2 i hi)⟩
section
variable {H : Type} {enc : TypeId × Value → H} {P : Program} {w : World} {base : Nat} {spare : Nat → Bool} {held : Bool}
theorem bulk_range {D : Nat → DataW H} {α : Type} {cost : α → Nat} (n : Nat) (Y : Nat → α) (h : ∀ i, i < n → cost (Y i) ≤ Rows.uptoBulk (D i)) : (((List.range n).map Y).map cost).sum ≤ Rows.uptoBulkAll ((List.range n).map D) := by
  have key : ∀ l : List Nat, (∀ i ∈ l, i < n) → ((l.map Y).map cost).sum ≤ Rows.uptoBulkAll (l.map D) := by
    intro l
    induction l with
    | nil => intro _; simp [Rows.uptoBulkAll]
    | cons i r ih =>
      intro hl
      have h1 := h i (hl i List.mem_cons_self)
      have h2 := ih (fun j hj => hl j (List.mem_cons_of_mem _ hj))
      simp only [List.map_cons, List.sum_cons, Rows.uptoBulkAll]
      omega
  exact key _ fun i hi => List.mem_range.1 hi
theorem read_slice {α : Type} [Inhabited α] {t e : TypeId} {sz : Nat} {E : World → Addr → α → Prop} {cost : α → Nat} (ht : P.underlying t = some (.slice e)) (hs : P.cellsOf e = sz) (h0 : 0 < sz)
    (hE : ∀ (fuel : Nat) (cs : List Value) (x : DataW H × List MemPlace) (p : Addr), cs.length = sz → (∀ j, j < sz → w.cell? (p.add j) = cs[j]?) → DataW.trod enc P w base spare held fuel e cs = some x → ∃ y, E w p y ∧ cost y ≤ Rows.uptoBulk x.1)
    {fuel : Nat} {cs : List Value} {x : DataW H × List MemPlace} (h : DataW.trod enc P w base spare held fuel t cs = some x) :
    ∃ (a : Option Addr) (l : List α) (cap : Nat), cs = [.slice a l.length cap] ∧ l.length ≤ cap ∧ cap ≤ maxLen ∧ SlAt sz E w a l ∧ (l.map cost).sum + 1 ≤ Rows.uptoBulk x.1 := by
  rcases open_slice ht h with ⟨rfl, rfl⟩ | ⟨a, n, cap, m, n2, D, Pl, rfl, _, hl, hm, hmm, rfl, hi⟩
  · exact ⟨none, [], 0, rfl, Nat.le_refl _, Nat.zero_le _, fun hh => by simp at hh, by simp [Rows.uptoBulk]⟩
  · have hnm : n ≤ m := by rw [hmm]; split <;> omega
    have key : ∀ i, i < n → ∃ y, E w (a.add (i * sz)) y ∧ cost y ≤ Rows.uptoBulk (D i) := by
      intro i hin
      obtain ⟨cs', hc, htr⟩ := hi i (by omega)
      obtain ⟨_, hcl, hat⟩ := World.cells?_some hc
      rw [hs] at hcl hat
      exact hE _ cs' _ (a.add (i * sz)) hcl (fun j hj => hat j hj) htr
    obtain ⟨Y, hY⟩ := choose_lt key
    refine ⟨some a, (List.range n).map Y, cap, by simp, by simpa using hl, hm, fun hh => ?_, ?_⟩
    · rw [List.length_map, List.length_range] at hh
      refine ⟨a, rfl, ?_, fun i hi' => ?_⟩
      · obtain ⟨cs', hc, _⟩ := hi 0 (by omega)
        obtain ⟨_, hcl, hat⟩ := World.cells?_some hc
        have h1 := hat 0 (by rw [hs]; exact h0)
        rw [List.getElem?_eq_getElem (by rw [hcl, hs]; exact h0)] at h1
        have := World.block_lt_of_cell? _ _ h1
        simpa [block_of_add] using this
      · rw [List.length_map, List.length_range] at hi'
        simpa using (hY i hi').1
    · have := bulk_range n Y (fun i hi => (hY i hi).2)
      simp only [Rows.uptoBulk]
      omega
end
end Go.Proofs.YtfckbkhnelgjbaaDoor
end
/- The bulk of a part of a struct. -/
section
namespace Go.Proofs.YtfckbkhnelgjbaaDoor
open Go.RowKit Go.ChangeShapes Go.WideShapes Go.Deep Go.Mem
set_option linter.unusedVariables false
section
variable {H : Type} {enc : TypeId × Value → H} {w : World} {base : Nat} {spare : Nat → Bool} {held : Bool}
theorem agg_bulk {xs : List (DataW H × List MemPlace)} {i : Nat} {y : DataW H × List MemPlace} (h : xs[i]? = some y) : Rows.uptoBulk y.1 + 1 ≤ Rows.uptoBulk (.agg (xs.map (·.1))) := by
  have hm : y.1 ∈ xs.map (·.1) := List.mem_map.2 ⟨y, List.mem_of_getElem? h, rfl⟩
  have := Bulk.mem hm
  simp only [Rows.uptoBulk]
  omega
end
end Go.Proofs.YtfckbkhnelgjbaaDoor
end
/- Names: what kind.Name and the reference's IsName say of a string. No program is named here. -/
section
namespace Go.Nm
set_option linter.unusedVariables false
def alpha : List UInt8 := [97, 98, 99, 100, 101, 102, 103, 104, 105, 106, 107, 108, 109, 110, 111, 112, 113, 114, 115, 116, 117, 118, 119, 120, 121, 122, 48, 49, 50, 51, 52, 53, 54, 55, 56, 57]
def lowB (c : UInt8) : Bool := decide (97 ≤ c.toNat) && decide (c.toNat ≤ 122)
def digB (c : UInt8) : Bool := decide (48 ≤ c.toNat) && decide (c.toNat ≤ 57)
def nameB (l : List UInt8) : Bool := decide (0 < l.length) && (decide (l.length ≤ 16) && (lowB (l.getD 0 0) && l.all (fun c => lowB c || digB c)))
theorem alpha_fin : ∀ n : Fin 256, alpha.contains (UInt8.ofNat n.val) = (lowB (UInt8.ofNat n.val) || digB (UInt8.ofNat n.val)) := by decide +kernel
theorem alpha_iff (c : UInt8) : alpha.contains c = (lowB c || digB c) := by
  have := alpha_fin ⟨c.toNat, c.toNat_lt⟩
  simpa using this
theorem dropWhile_nil {α : Type} (p : α → Bool) (l : List α) : l.dropWhile p = [] ↔ l.all p = true := by
  induction l with
  | nil => simp
  | cons a l ih =>
    rw [List.dropWhile_cons]
    by_cases h : p a = true
    · rw [if_pos h, ih]; simp [h]
    · rw [if_neg h]; simp [h]
theorem trim_nil (l cs : List UInt8) : Lib.trimS l cs = [] ↔ l.all (cs.contains ·) = true := by
  unfold Lib.trimS Lib.trimLeftS
  rw [dropWhile_nil]
  unfold Lib.trimRightS
  constructor
  · intro h
    by_cases hr : l.reverse.dropWhile (cs.contains ·) = []
    · have := (dropWhile_nil _ _).1 hr
      simpa using this
    · exfalso
      obtain ⟨b, t, hbt⟩ := List.exists_cons_of_ne_nil hr
      have h1 : cs.contains b = false := by
        have := List.head?_dropWhile_not (p := (cs.contains ·)) (l := l.reverse)
        rw [hbt] at this
        simpa using this
      rw [hbt] at h
      simp at h
      have := h.2
      simp at h1
      exact h1 this
  · intro h
    have : l.reverse.dropWhile (cs.contains ·) = [] := (dropWhile_nil _ _).2 (by simpa using h)
    rw [this]; rfl
theorem name_ref (l : List UInt8) (h0 : 0 < l.length) (h1 : l.length ≤ 16) (h2 : Lib.trimS l alpha = []) : nameB l = decide (57 < (l.getD 0 0).toNat) := by
  have ha := (trim_nil l alpha).1 h2
  have hb : l.all (fun c => lowB c || digB c) = true := by
    rw [List.all_eq_true] at ha ⊢
    intro c hc
    rw [← alpha_iff]; exact ha c hc
  unfold nameB
  rw [hb, decide_eq_true h0, decide_eq_true h1, Bool.true_and, Bool.true_and, Bool.and_true]
  have hm : l.getD 0 0 ∈ l := by
    rw [List.getD_eq_getElem?_getD, List.getElem?_eq_getElem h0]; exact List.getElem_mem h0
  have hc := List.all_eq_true.1 hb _ hm
  generalize l.getD 0 0 = c at hc ⊢
  unfold lowB digB at *
  rw [Bool.eq_iff_iff]
  simp only [Bool.or_eq_true, Bool.and_eq_true, decide_eq_true_eq] at hc ⊢
  omega
theorem name_trim (l : List UInt8) (h2 : Lib.trimS l alpha ≠ []) : nameB l = false := by
  have : l.all (fun c => lowB c || digB c) = false := by
    rw [Bool.eq_false_iff]
    intro hb
    refine h2 ((trim_nil l alpha).2 ?_)
    rw [List.all_eq_true] at hb ⊢
    intro c hc
    rw [alpha_iff]; exact hb c hc
  unfold nameB
  rw [this]; simp
theorem name_long (l : List UInt8) (h : 16 < l.length) : nameB l = false := by unfold nameB; rw [decide_eq_false (show ¬ l.length ≤ 16 by omega)]; simp
theorem name_nil (l : List UInt8) (h : l.length = 0) : nameB l = false := by unfold nameB; rw [decide_eq_false (show ¬ 0 < l.length by omega)]; simp
/-- the code's test at place i -/
def okAt (l : List UInt8) (i : Nat) : Bool := lowB (l.getD i 0) || (decide (0 < i) && digB (l.getD i 0))
theorem name_bad (l : List UInt8) (i : Nat) (h : i < l.length) (hb : okAt l i = false) : nameB l = false := by
  have hm : l.getD i 0 ∈ l := by
    rw [List.getD_eq_getElem?_getD, List.getElem?_eq_getElem h]; exact List.getElem_mem h
  unfold okAt at hb
  by_cases hi : 0 < i
  · rw [decide_eq_true hi, Bool.true_and] at hb
    have : l.all (fun c => lowB c || digB c) = false := by
      rw [Bool.eq_false_iff]
      intro ha
      have := List.all_eq_true.1 ha _ hm
      rw [hb] at this
      exact absurd this (by decide)
    unfold nameB; rw [this]; simp
  · have h0 : i = 0 := by omega
    subst h0
    rw [decide_eq_false (by omega), Bool.false_and, Bool.or_false] at hb
    unfold nameB; rw [hb]; simp
theorem name_good (l : List UInt8) (h0 : 0 < l.length) (h1 : l.length ≤ 16) (h : ∀ i, i < l.length → okAt l i = true) : nameB l = true := by
  unfold nameB
  rw [decide_eq_true h0, decide_eq_true h1, Bool.true_and, Bool.true_and, Bool.and_eq_true]
  constructor
  · have := h 0 h0
    unfold okAt at this
    rw [decide_eq_false (by omega), Bool.false_and, Bool.or_false] at this
    exact this
  · rw [List.all_eq_true]
    intro c hc
    obtain ⟨i, hi, rfl⟩ := List.mem_iff_getElem.1 hc
    have := h i hi
    unfold okAt at this
    rw [List.getD_eq_getElem?_getD, List.getElem?_eq_getElem hi] at this
    simp only [Option.getD_some, Bool.or_eq_true, Bool.and_eq_true] at this ⊢
    rcases this with h | h
    · exact .inl h
    · exact .inr h.2
end Go.Nm
end
/- kind.Name. -/
section
namespace Go.Proofs.YtfckbkhnelgjbaaDoor
open Go.ChangeShapes Go.WideShapes Go.ChangeAt Go.RowKit Go.Nm
set_option linter.unusedVariables false
theorem dle_t {a b : Int} (h : a ≤ b) : decide (a ≤ b) = true := decide_eq_true h
theorem dle_f {a b : Int} (h : ¬ a ≤ b) : decide (a ≤ b) = false := decide_eq_false h
theorem len_data (s : ByteArray) : s.data.toList.length = s.size := rfl
set_option maxHeartbeats 1000000 in
theorem kind_Name (s : ByteArray) (hs : s.size ≤ 9223372036854775807) (w : World) : Calls Tryd.prog 51 #[.string s] w fun e w' => e = .returned (.bool (nameB s.data.toList)) ∧ w = w' := by
  obtain ⟨R, hR⟩ : ∃ R, R = nameB s.data.toList := ⟨_, rfl⟩
  rw [← hR]
  have HR := Lib.hid hR
  clear hR
  by_cases h0 : s.size = 0
  · have t0 : ((s.size : Int) == 0) = true := by rw [h0]; rfl
    have HF := Lib.hid (name_nil _ ((len_data s).trans h0))
    clear h0 hs
    go_enter Tryd.func51, Tryd.ntmps51
    go_wp2_with fail
    go_ret
    exact ⟨by rw [HR.out, HF.out]; rfl, rfl⟩
  · by_cases h1 : 16 < s.size
    · have t0 : ((s.size : Int) == 0) = false := by rw [beq_eq_false_iff_ne]; omega
      have HF := Lib.hid (name_long _ (by rw [len_data]; exact h1))
      go_enter Tryd.func51, Tryd.ntmps51
      go_wp2_with fail
      go_ret
      exact ⟨by rw [HR.out, HF.out]; rfl, rfl⟩
    · have t0 : ((s.size : Int) == 0) = false := by rw [beq_eq_false_iff_ne]; omega
      have h2 : s.size ≤ 16 := by omega
      go_enter Tryd.func51, Tryd.ntmps51
      go_wp2_with fail
      go_loopg [3, 4, 15] s.size (fun gk v3 v4 vi wx => ∃ k : Nat, k ≤ s.size ∧ gk = s.size - k ∧ vi = .int .i64 k ∧ (∀ j, j < k → okAt s.data.toList j = true) ∧ wx = w)
      case atStart => exact ⟨0, Nat.zero_le _, rfl, rfl, fun j h => by omega, rfl⟩
      case round =>
        obtain ⟨k, hk, g2, rfl, hok, rfl⟩ := hrel
        have G2 := Lib.hid g2
        have HOK := Lib.hid hok
        clear g2 hok
        by_cases hlt : k < s.size
        · have hb : s.data.toList.getD k 0 = s[k] := by
            rw [List.getD_eq_getElem?_getD, List.getElem?_eq_getElem hlt]; rfl
          have hn : s[k].toNat < 256 := s[k].toNat_lt
          have HB := Lib.hid hb
          clear hb
          have good : okAt s.data.toList k = true → ∀ j, j < k + 1 → okAt s.data.toList j = true := fun h j hj => by
            by_cases hj2 : j < k
            · exact HOK.out j hj2
            · rw [show j = k by omega]; exact h
          have GOOD := Lib.hid good
          clear good
          by_cases c1 : 97 ≤ s[k].toNat ∧ s[k].toNat ≤ 122
          · obtain ⟨a1, a2⟩ := c1
            have HO := Lib.hid (show okAt s.data.toList k = true by unfold okAt lowB; rw [HB.out, decide_eq_true a1, decide_eq_true a2]; rfl)
            go_wp2_with fail
            go_roundg (s.size - (k + 1))
            case measure => rw [G2.out]; omega
            case rel => exact ⟨k + 1, hlt, rfl, by go_num, GOOD.out HO.out, rfl⟩
          · by_cases c2 : 0 < k ∧ 48 ≤ s[k].toNat ∧ s[k].toNat ≤ 57
            · obtain ⟨a0, a1, a2⟩ := c2
              have HO := Lib.hid (show okAt s.data.toList k = true by unfold okAt digB; rw [HB.out, decide_eq_true a1, decide_eq_true a2, decide_eq_true a0]; simp)
              clear c1
              have t97 : decide ((97 : Int) ≤ (s[k].toNat : Int)) = false := dle_f (by omega)
              have t122 : decide ((s[k].toNat : Int) ≤ 122) = true := dle_t (by omega)
              have t48 : decide ((48 : Int) ≤ (s[k].toNat : Int)) = true := dle_t (by omega)
              have t57 : decide ((s[k].toNat : Int) ≤ 57) = true := dle_t (by omega)
              go_wp2_with fail
              go_roundg (s.size - (k + 1))
              case measure => rw [G2.out]; omega
              case rel => exact ⟨k + 1, hlt, rfl, by go_num, GOOD.out HO.out, rfl⟩
            · have HO := Lib.hid (show okAt s.data.toList k = false by
                unfold okAt lowB digB
                rw [HB.out, Bool.eq_false_iff]
                intro h
                simp only [Bool.or_eq_true, Bool.and_eq_true, decide_eq_true_eq] at h
                rcases h with h | h
                · exact c1 h
                · exact c2 h)
              have HF := Lib.hid (name_bad _ k (by rw [len_data]; exact hlt) HO.out)
              rcases (show (s[k].toNat < 48) ∨ (57 < s[k].toNat ∧ s[k].toNat < 97) ∨ 122 < s[k].toNat ∨ (k = 0 ∧ 48 ≤ s[k].toNat ∧ s[k].toNat ≤ 57) by omega) with c | ⟨c, c'⟩ | c | ⟨c0, c, c'⟩
              · clear c1 c2
                have t97 : decide ((97 : Int) ≤ (s[k].toNat : Int)) = false := dle_f (by omega)
                have t122 : decide ((s[k].toNat : Int) ≤ 122) = true := dle_t (by omega)
                have t48 : decide ((48 : Int) ≤ (s[k].toNat : Int)) = false := dle_f (by omega)
                have t57 : decide ((s[k].toNat : Int) ≤ 57) = true := dle_t (by omega)
                go_wp2_with fail
                all_goals
                  go_ret
                  exact ⟨by rw [HR.out, HF.out]; rfl, rfl⟩
              · clear c1 c2
                have t97 : decide ((97 : Int) ≤ (s[k].toNat : Int)) = false := dle_f (by omega)
                have t122 : decide ((s[k].toNat : Int) ≤ 122) = true := dle_t (by omega)
                have t48 : decide ((48 : Int) ≤ (s[k].toNat : Int)) = true := dle_t (by omega)
                have t57 : decide ((s[k].toNat : Int) ≤ 57) = false := dle_f (by omega)
                go_wp2_with fail
                all_goals
                  go_ret
                  exact ⟨by rw [HR.out, HF.out]; rfl, rfl⟩
              · clear c1 c2
                have t97 : decide ((97 : Int) ≤ (s[k].toNat : Int)) = true := dle_t (by omega)
                have t122 : decide ((s[k].toNat : Int) ≤ 122) = false := dle_f (by omega)
                have t48 : decide ((48 : Int) ≤ (s[k].toNat : Int)) = true := dle_t (by omega)
                have t57 : decide ((s[k].toNat : Int) ≤ 57) = false := dle_f (by omega)
                go_wp2_with fail
                all_goals
                  go_ret
                  exact ⟨by rw [HR.out, HF.out]; rfl, rfl⟩
              · clear c1 c2
                have t97 : decide ((97 : Int) ≤ (s[k].toNat : Int)) = false := dle_f (by omega)
                have t122 : decide ((s[k].toNat : Int) ≤ 122) = true := dle_t (by omega)
                have t48 : decide ((48 : Int) ≤ (s[k].toNat : Int)) = true := dle_t (by omega)
                have t57 : decide ((s[k].toNat : Int) ≤ 57) = true := dle_t (by omega)
                have ck : k ≤ 0 := by omega
                clear c0
                go_wp2_with fail
                all_goals
                  go_ret
                  exact ⟨by rw [HR.out, HF.out]; rfl, rfl⟩
        · have hke : k = s.size := by omega
          have HF := Lib.hid (name_good s.data.toList (by rw [len_data]; omega) (by rw [len_data]; exact h2) (fun i hi => HOK.out i (by rw [len_data] at hi; omega)))
          clear hke
          go_wp2_with fail
          go_ret
          exact ⟨by rw [HR.out, HF.out]; rfl, rfl⟩
end Go.Proofs.YtfckbkhnelgjbaaDoor
end
/- Layings of the kit's shelf at this translation, in plain words. -/
section
namespace Go.Proofs
open Go.Shelf
def Tryd.lays160_ren : Go.Shelf.Ren := ⟨fun | 160 => 55 | 232 => 61 | 231 => 60 | 227 => 62 | 234 => 64 | 233 => 63 | 236 => 66 | 235 => 65 | 228 => 68 | 271 => 71 | 151 => 70 | 197 => 69 | 120 => 74 | 152 => 73 | 260 => 72 | 137 => 75 | 119 => 76 | 224 => 77 | 225 => 78 | 217 => 79 | 266 => 80 | n => n, fun | 9 => 9 | 4 => 4 | 3 => 3 | 5 => 5 | 117 => 101 | 116 => 100 | 0 => 0 | 124 => 104 | 21 => 21 | 105 => 107 | 46 => 105 | 119 => 111 | 139 => 114 | 138 => 113 | n => n, fun | 3 => 0 | 4 => 1 | n => n⟩
theorem Tryd.lays160 : Go.Proofs.Lays.n160 Tryd.prog Tryd.lays160_ren := {
  mixed := by kernel_rfl
  f119 := Tryd.func76.trans (congrArg some (by kernel_rfl))
  f120 := Tryd.func74.trans (congrArg some (by kernel_rfl))
  f137 := Tryd.func75.trans (congrArg some (by kernel_rfl))
  f151 := Tryd.func70.trans (congrArg some (by kernel_rfl))
  f152 := Tryd.func73.trans (congrArg some (by kernel_rfl))
  f160 := Tryd.func55.trans (congrArg some (by kernel_rfl))
  f197 := Tryd.func69.trans (congrArg some (by kernel_rfl))
  f217 := Tryd.func79.trans (congrArg some (by kernel_rfl))
  f224 := Tryd.func77.trans (congrArg some (by kernel_rfl))
  f225 := Tryd.func78.trans (congrArg some (by kernel_rfl))
  f227 := Tryd.func62.trans (congrArg some (by kernel_rfl))
  f228 := Tryd.func68.trans (congrArg some (by kernel_rfl))
  f231 := Tryd.func60.trans (congrArg some (by kernel_rfl))
  f232 := Tryd.func61.trans (congrArg some (by kernel_rfl))
  f233 := Tryd.func63.trans (congrArg some (by kernel_rfl))
  f234 := Tryd.func64.trans (congrArg some (by kernel_rfl))
  f235 := Tryd.func65.trans (congrArg some (by kernel_rfl))
  f236 := Tryd.func66.trans (congrArg some (by kernel_rfl))
  f260 := Tryd.func72.trans (congrArg some (by kernel_rfl))
  f266 := Tryd.func80.trans (congrArg some (by kernel_rfl))
  f271 := Tryd.func71.trans (congrArg some (by kernel_rfl))
  t0 := Tryd.underlying0
  a0 := Tryd.isAgg0
  z0 := Tryd.sizeOf0
  v0 := Tryd.zeroValue0
  t3 := Tryd.underlying3
  a3 := Tryd.isAgg3
  z3 := Tryd.sizeOf3
  v3 := Tryd.zeroValue3
  t4 := Tryd.underlying4
  a4 := Tryd.isAgg4
  z4 := Tryd.sizeOf4
  v4 := Tryd.zeroValue4
  t5 := Tryd.underlying5
  a5 := Tryd.isAgg5
  z5 := Tryd.sizeOf5
  v5 := Tryd.zeroValue5
  t9 := Tryd.underlying9
  a9 := Tryd.isAgg9
  z9 := Tryd.sizeOf9
  v9 := Tryd.zeroValue9
  t21 := Tryd.underlying21
  a21 := Tryd.isAgg21
  z21 := Tryd.sizeOf21
  v21 := Tryd.zeroValue21
  t46 := Tryd.underlying105
  a46 := Tryd.isAgg105
  z46 := Tryd.sizeOf105
  v46 := Tryd.zeroValue105
  t105 := Tryd.underlying107
  a105 := Tryd.isAgg107
  z105 := Tryd.sizeOf107
  v105 := Tryd.zeroValue107
  t116 := Tryd.underlying100
  a116 := Tryd.isAgg100
  z116 := Tryd.sizeOf100
  t117 := Tryd.underlying101
  a117 := Tryd.isAgg101
  z117 := Tryd.sizeOf101
  v117 := Tryd.zeroValue101
  t119 := Tryd.underlying111
  a119 := Tryd.isAgg111
  z119 := Tryd.sizeOf111
  t124 := Tryd.underlying104
  a124 := Tryd.isAgg104
  z124 := Tryd.sizeOf104
  v124 := Tryd.zeroValue104
  t138 := Tryd.underlying113
  a138 := Tryd.isAgg113
  z138 := Tryd.sizeOf113
  v138 := Tryd.zeroValue113
  t139 := Tryd.underlying114
  a139 := Tryd.isAgg114
  z139 := Tryd.sizeOf114
  v139 := Tryd.zeroValue114
  g3 := by kernel_rfl
  g4 := by kernel_rfl }
end Go.Proofs
end
/- ref IsName. -/
section
namespace Go.Proofs.YtfckbkhnelgjbaaDoor
open Go.ChangeShapes Go.WideShapes Go.ChangeAt Go.RowKit Go.Nm Go.Shelf Go.Lib
set_option linter.unusedVariables false
def alphaB : ByteArray := ⟨#[97, 98, 99, 100, 101, 102, 103, 104, 105, 106, 107, 108, 109, 110, 111, 112, 113, 114, 115, 116, 117, 118, 119, 120, 121, 122, 48, 49, 50, 51, 52, 53, 54, 55, 56, 57]⟩
theorem Trim_alpha (s : ByteArray) (hs : s.size ≤ 9223372036854775807) (w : World) : Calls Tryd.prog 55 #[.string s, .string ⟨#[97, 98, 99, 100, 101, 102, 103, 104, 105, 106, 107, 108, 109, 110, 111, 112, 113, 114, 115, 116, 117, 118, 119, 120, 121, 122, 48, 49, 50, 51, 52, 53, 54, 55, 56, 57]⟩] w fun e w' => e = .returned (.string ⟨(Lib.trimS s.data.toList alpha).toArray⟩) ∧ Below w.heap.size w w' :=
  Any.strings_Trim_laid Tryd.lays160 (by kernel_rfl) s alphaB w hs (by decide) (ascii_of_all (by decide))
set_option maxHeartbeats 1000000 in
theorem ref_IsName (s : ByteArray) (hs : s.size ≤ 9223372036854775807) (w : World) : Calls Tryd.prog 43 #[.string s] w fun e w' => e = .returned (.bool (nameB s.data.toList)) ∧ Below w.heap.size w w' := by
  obtain ⟨R, hR⟩ : ∃ R, R = nameB s.data.toList := ⟨_, rfl⟩
  rw [← hR]
  have HR := Lib.hid hR
  have HT := Lib.hid (Trim_alpha s hs)
  clear hR
  by_cases h0 : s.size = 0
  · have HF := Lib.hid (name_nil _ ((len_data s).trans h0))
    have e0 : s.toList = [] := by
      rw [Lib.toList_data]; exact List.eq_nil_of_length_eq_zero h0
    have e1 : s.toList.isEmpty = true := by rw [e0]; rfl
    go_enter Tryd.func43, Tryd.ntmps43
    go_wp2_with fail
    go_ret
    exact ⟨by rw [HR.out, HF.out]; rfl, Below.refl _ _⟩
  · have e0 : s.toList ≠ [] := by
      rw [Lib.toList_data]; intro h; have := congrArg List.length h; rw [len_data] at this; exact h0 this
    have e1 : s.toList.isEmpty = false := by simpa using e0
    have hpos : 0 < s.size := by omega
    by_cases h1 : 16 < s.size
    · have HF := Lib.hid (name_long _ (by rw [len_data]; exact h1))
      go_enter Tryd.func43, Tryd.ntmps43
      go_wp2_with fail
      go_ret
      exact ⟨by rw [HR.out, HF.out]; rfl, Below.refl _ _⟩
    · have h2 : s.size ≤ 16 := by omega
      clear h1
      obtain ⟨r, hr⟩ : ∃ r : ByteArray, r = ⟨(Lib.trimS s.data.toList alpha).toArray⟩ := ⟨_, rfl⟩
      have hrl : r.toList = Lib.trimS s.data.toList alpha := by rw [hr, Lib.toList_data]
      rw [← hr] at HT
      have HRL := Lib.hid hrl
      clear hr hrl
      by_cases h3 : Lib.trimS s.data.toList alpha = []
      · have r0 : r.toList = [] := by rw [HRL.out, h3]
        have r1 : r.toList.isEmpty = true := by rw [r0]; rfl
        have hn := name_ref s.data.toList (by rw [len_data]; exact hpos) (by rw [len_data]; exact h2) h3
        have hg : s.data.toList.getD 0 0 = s[0] := by
          rw [List.getD_eq_getElem?_getD, List.getElem?_eq_getElem hpos]; rfl
        rw [hg] at hn
        by_cases h4 : 57 < s[0].toNat
        · have HF := Lib.hid (hn.trans (decide_eq_true h4))
          have t4 : decide ((57 : Int) < (s[0].toNat : Int)) = true := decide_eq_true (by omega)
          clear hn hg h3
          go_enter Tryd.func43, Tryd.ntmps43
          go_wp2_with fail
          refine (HT.out _).mono ?_
          rintro e w1 ⟨rfl, hb1⟩
          go_wp2_with fail
          go_ret
          exact ⟨by rw [HR.out, HF.out]; rfl, hb1⟩
        · have HF := Lib.hid (hn.trans (decide_eq_false h4))
          have t4 : decide ((57 : Int) < (s[0].toNat : Int)) = false := decide_eq_false (by omega)
          clear hn hg h3
          go_enter Tryd.func43, Tryd.ntmps43
          go_wp2_with fail
          refine (HT.out _).mono ?_
          rintro e w1 ⟨rfl, hb1⟩
          go_wp2_with fail
          go_ret
          exact ⟨by rw [HR.out, HF.out]; rfl, hb1⟩
      · have HF := Lib.hid (name_trim s.data.toList h3)
        have r0 : r.toList ≠ [] := by rw [HRL.out]; exact h3
        have r1 : r.toList.isEmpty = false := by simpa using r0
        clear h3
        go_enter Tryd.func43, Tryd.ntmps43
        go_wp2_with fail
        refine (HT.out _).mono ?_
        rintro e w1 ⟨rfl, hb1⟩
        go_wp2_with fail
        go_ret
        exact ⟨by rw [HR.out, HF.out]; rfl, hb1⟩
end Go.Proofs.YtfckbkhnelgjbaaDoor
end
