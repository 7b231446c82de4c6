/- Lemmas for the law MigrateBack: AggB, NameP, NameW, TrimL, IsNameW, FieldW, ApiKind. No conditions. -/
import Derived.Test.YtijeninfmjhbnaaDoorM01
import Derived.Lib.SlTrimSet
import Derived.Test.YtijeninfmjhbnaaDoorRows
import Derived.WalkKit
import Derived.ProofKit
import Derived.Lib.Hide
import Derived.Deep.LoopGhost
import Derived.Ground.NamesProg
import Derived.Shelf.Strings.SlTrimAscii
import Derived.Test.YtijeninfmjhbnaaDoorProg
import Derived.Below
/- The bulk of a part of a struct. -/
section
namespace Go.Proofs.YtijeninfmjhbnaaDoor
open Go.RowKit Go.ChangeShapes Go.WideShapes Go.Deep Go.Mem
set_option linter.unusedVariables false
section
variable {H : Type} {enc : TypeId × Value → H} {w : World} {base : Nat} {spare : Nat → Bool} {held : Bool}
theorem agg_bulk {xs : List (DataW H × List MemPlace)} {i : Nat} {y : DataW H × List MemPlace} (h : xs[i]? = some y) : Rows.uptoBulk y.1 + 1 ≤ Rows.uptoBulk (.agg (xs.map (·.1))) := by
  have hm : y.1 ∈ xs.map (·.1) := List.mem_map.2 ⟨y, List.mem_of_getElem? h, rfl⟩
  have := Bulk.mem hm
  simp only [Rows.uptoBulk]
  omega
end
end Go.Proofs.YtijeninfmjhbnaaDoor
end
/- Names: what kind.Name and the reference's IsName say of a string. No program is named here. -/
section
namespace Go.Nm
set_option linter.unusedVariables false
def alpha : List UInt8 := [97, 98, 99, 100, 101, 102, 103, 104, 105, 106, 107, 108, 109, 110, 111, 112, 113, 114, 115, 116, 117, 118, 119, 120, 121, 122, 48, 49, 50, 51, 52, 53, 54, 55, 56, 57]
def lowB (c : UInt8) : Bool := decide (97 ≤ c.toNat) && decide (c.toNat ≤ 122)
def digB (c : UInt8) : Bool := decide (48 ≤ c.toNat) && decide (c.toNat ≤ 57)
def nameB (l : List UInt8) : Bool := decide (0 < l.length) && (decide (l.length ≤ 16) && (lowB (l.getD 0 0) && l.all (fun c => lowB c || digB c)))
theorem alpha_fin : ∀ n : Fin 256, alpha.contains (UInt8.ofNat n.val) = (lowB (UInt8.ofNat n.val) || digB (UInt8.ofNat n.val)) := by decide +kernel
theorem alpha_iff (c : UInt8) : alpha.contains c = (lowB c || digB c) := by
  have := alpha_fin ⟨c.toNat, c.toNat_lt⟩
  simpa using this
theorem dropWhile_nil {α : Type} (p : α → Bool) (l : List α) : l.dropWhile p = [] ↔ l.all p = true := by
  induction l with
  | nil => simp
  | cons a l ih =>
    rw [List.dropWhile_cons]
    by_cases h : p a = true
    · rw [if_pos h, ih]; simp [h]
    · rw [if_neg h]; simp [h]
theorem trim_nil (l cs : List UInt8) : Lib.trimS l cs = [] ↔ l.all (cs.contains ·) = true := by
  unfold Lib.trimS Lib.trimLeftS
  rw [dropWhile_nil]
  unfold Lib.trimRightS
  constructor
  · intro h
    by_cases hr : l.reverse.dropWhile (cs.contains ·) = []
    · have := (dropWhile_nil _ _).1 hr
      simpa using this
    · exfalso
      obtain ⟨b, t, hbt⟩ := List.exists_cons_of_ne_nil hr
      have h1 : cs.contains b = false := by
        have := List.head?_dropWhile_not (p := (cs.contains ·)) (l := l.reverse)
        rw [hbt] at this
        simpa using this
      rw [hbt] at h
      simp at h
      have := h.2
      simp at h1
      exact h1 this
  · intro h
    have : l.reverse.dropWhile (cs.contains ·) = [] := (dropWhile_nil _ _).2 (by simpa using h)
    rw [this]; rfl
theorem name_ref (l : List UInt8) (h0 : 0 < l.length) (h1 : l.length ≤ 16) (h2 : Lib.trimS l alpha = []) : nameB l = decide (57 < (l.getD 0 0).toNat) := by
  have ha := (trim_nil l alpha).1 h2
  have hb : l.all (fun c => lowB c || digB c) = true := by
    rw [List.all_eq_true] at ha ⊢
    intro c hc
    rw [← alpha_iff]; exact ha c hc
  unfold nameB
  rw [hb, decide_eq_true h0, decide_eq_true h1, Bool.true_and, Bool.true_and, Bool.and_true]
  have hm : l.getD 0 0 ∈ l := by
    rw [List.getD_eq_getElem?_getD, List.getElem?_eq_getElem h0]; exact List.getElem_mem h0
  have hc := List.all_eq_true.1 hb _ hm
  generalize l.getD 0 0 = c at hc ⊢
  unfold lowB digB at *
  rw [Bool.eq_iff_iff]
  simp only [Bool.or_eq_true, Bool.and_eq_true, decide_eq_true_eq] at hc ⊢
  omega
theorem name_trim (l : List UInt8) (h2 : Lib.trimS l alpha ≠ []) : nameB l = false := by
  have : l.all (fun c => lowB c || digB c) = false := by
    rw [Bool.eq_false_iff]
    intro hb
    refine h2 ((trim_nil l alpha).2 ?_)
    rw [List.all_eq_true] at hb ⊢
    intro c hc
    rw [alpha_iff]; exact hb c hc
  unfold nameB
  rw [this]; simp
theorem name_long (l : List UInt8) (h : 16 < l.length) : nameB l = false := by unfold nameB; rw [decide_eq_false (show ¬ l.length ≤ 16 by omega)]; simp
theorem name_nil (l : List UInt8) (h : l.length = 0) : nameB l = false := by unfold nameB; rw [decide_eq_false (show ¬ 0 < l.length by omega)]; simp
/-- the code's test at place i -/
def okAt (l : List UInt8) (i : Nat) : Bool := lowB (l.getD i 0) || (decide (0 < i) && digB (l.getD i 0))
theorem name_bad (l : List UInt8) (i : Nat) (h : i < l.length) (hb : okAt l i = false) : nameB l = false := by
  have hm : l.getD i 0 ∈ l := by
    rw [List.getD_eq_getElem?_getD, List.getElem?_eq_getElem h]; exact List.getElem_mem h
  unfold okAt at hb
  by_cases hi : 0 < i
  · rw [decide_eq_true hi, Bool.true_and] at hb
    have : l.all (fun c => lowB c || digB c) = false := by
      rw [Bool.eq_false_iff]
      intro ha
      have := List.all_eq_true.1 ha _ hm
      rw [hb] at this
      exact absurd this (by decide)
    unfold nameB; rw [this]; simp
  · have h0 : i = 0 := by omega
    subst h0
    rw [decide_eq_false (by omega), Bool.false_and, Bool.or_false] at hb
    unfold nameB; rw [hb]; simp
theorem name_good (l : List UInt8) (h0 : 0 < l.length) (h1 : l.length ≤ 16) (h : ∀ i, i < l.length → okAt l i = true) : nameB l = true := by
  unfold nameB
  rw [decide_eq_true h0, decide_eq_true h1, Bool.true_and, Bool.true_and, Bool.and_eq_true]
  constructor
  · have := h 0 h0
    unfold okAt at this
    rw [decide_eq_false (by omega), Bool.false_and, Bool.or_false] at this
    exact this
  · rw [List.all_eq_true]
    intro c hc
    obtain ⟨i, hi, rfl⟩ := List.mem_iff_getElem.1 hc
    have := h i hi
    unfold okAt at this
    rw [List.getD_eq_getElem?_getD, List.getElem?_eq_getElem hi] at this
    simp only [Option.getD_some, Bool.or_eq_true, Bool.and_eq_true] at this ⊢
    rcases this with h | h
    · exact .inl h
    · exact .inr h.2
end Go.Nm
end
/- kind.Name. -/
section
namespace Go.Proofs.YtijeninfmjhbnaaDoor
open Go.ChangeShapes Go.WideShapes Go.ChangeAt Go.RowKit Go.Nm
set_option linter.unusedVariables false
theorem dle_t {a b : Int} (h : a ≤ b) : decide (a ≤ b) = true := decide_eq_true h
theorem dle_f {a b : Int} (h : ¬ a ≤ b) : decide (a ≤ b) = false := decide_eq_false h
theorem len_data (s : ByteArray) : s.data.toList.length = s.size := rfl
set_option maxHeartbeats 1000000 in
theorem kind_Name (s : ByteArray) (hs : s.size ≤ 9223372036854775807) (w : World) : Calls Tryd.prog 17 #[.string s] w fun e w' => e = .returned (.bool (nameB s.data.toList)) ∧ w = w' := by
  obtain ⟨R, hR⟩ : ∃ R, R = nameB s.data.toList := ⟨_, rfl⟩
  rw [← hR]
  have HR := Lib.hid hR
  clear hR
  by_cases h0 : s.size = 0
  · have t0 : ((s.size : Int) == 0) = true := by rw [h0]; rfl
    have HF := Lib.hid (name_nil _ ((len_data s).trans h0))
    clear h0 hs
    go_enter Tryd.func17, Tryd.ntmps17
    go_wp2_with fail
    go_ret
    exact ⟨by rw [HR.out, HF.out]; rfl, rfl⟩
  · by_cases h1 : 16 < s.size
    · have t0 : ((s.size : Int) == 0) = false := by rw [beq_eq_false_iff_ne]; omega
      have HF := Lib.hid (name_long _ (by rw [len_data]; exact h1))
      go_enter Tryd.func17, Tryd.ntmps17
      go_wp2_with fail
      go_ret
      exact ⟨by rw [HR.out, HF.out]; rfl, rfl⟩
    · have t0 : ((s.size : Int) == 0) = false := by rw [beq_eq_false_iff_ne]; omega
      have h2 : s.size ≤ 16 := by omega
      go_enter Tryd.func17, Tryd.ntmps17
      go_wp2_with fail
      go_loopg [3, 4, 15] s.size (fun gk v3 v4 vi wx => ∃ k : Nat, k ≤ s.size ∧ gk = s.size - k ∧ vi = .int .i64 k ∧ (∀ j, j < k → okAt s.data.toList j = true) ∧ wx = w)
      case atStart => exact ⟨0, Nat.zero_le _, rfl, rfl, fun j h => by omega, rfl⟩
      case round =>
        obtain ⟨k, hk, g2, rfl, hok, rfl⟩ := hrel
        have G2 := Lib.hid g2
        have HOK := Lib.hid hok
        clear g2 hok
        by_cases hlt : k < s.size
        · have hb : s.data.toList.getD k 0 = s[k] := by
            rw [List.getD_eq_getElem?_getD, List.getElem?_eq_getElem hlt]; rfl
          have hn : s[k].toNat < 256 := s[k].toNat_lt
          have HB := Lib.hid hb
          clear hb
          have good : okAt s.data.toList k = true → ∀ j, j < k + 1 → okAt s.data.toList j = true := fun h j hj => by
            by_cases hj2 : j < k
            · exact HOK.out j hj2
            · rw [show j = k by omega]; exact h
          have GOOD := Lib.hid good
          clear good
          by_cases c1 : 97 ≤ s[k].toNat ∧ s[k].toNat ≤ 122
          · obtain ⟨a1, a2⟩ := c1
            have HO := Lib.hid (show okAt s.data.toList k = true by unfold okAt lowB; rw [HB.out, decide_eq_true a1, decide_eq_true a2]; rfl)
            go_wp2_with fail
            go_roundg (s.size - (k + 1))
            case measure => rw [G2.out]; omega
            case rel => exact ⟨k + 1, hlt, rfl, by go_num, GOOD.out HO.out, rfl⟩
          · by_cases c2 : 0 < k ∧ 48 ≤ s[k].toNat ∧ s[k].toNat ≤ 57
            · obtain ⟨a0, a1, a2⟩ := c2
              have HO := Lib.hid (show okAt s.data.toList k = true by unfold okAt digB; rw [HB.out, decide_eq_true a1, decide_eq_true a2, decide_eq_true a0]; simp)
              clear c1
              have t97 : decide ((97 : Int) ≤ (s[k].toNat : Int)) = false := dle_f (by omega)
              have t122 : decide ((s[k].toNat : Int) ≤ 122) = true := dle_t (by omega)
              have t48 : decide ((48 : Int) ≤ (s[k].toNat : Int)) = true := dle_t (by omega)
              have t57 : decide ((s[k].toNat : Int) ≤ 57) = true := dle_t (by omega)
              go_wp2_with fail
              go_roundg (s.size - (k + 1))
              case measure => rw [G2.out]; omega
              case rel => exact ⟨k + 1, hlt, rfl, by go_num, GOOD.out HO.out, rfl⟩
            · have HO := Lib.hid (show okAt s.data.toList k = false by
                unfold okAt lowB digB
                rw [HB.out, Bool.eq_false_iff]
                intro h
                simp only [Bool.or_eq_true, Bool.and_eq_true, decide_eq_true_eq] at h
                rcases h with h | h
                · exact c1 h
                · exact c2 h)
              have HF := Lib.hid (name_bad _ k (by rw [len_data]; exact hlt) HO.out)
              rcases (show (s[k].toNat < 48) ∨ (57 < s[k].toNat ∧ s[k].toNat < 97) ∨ 122 < s[k].toNat ∨ (k = 0 ∧ 48 ≤ s[k].toNat ∧ s[k].toNat ≤ 57) by omega) with c | ⟨c, c'⟩ | c | ⟨c0, c, c'⟩
              · clear c1 c2
                have t97 : decide ((97 : Int) ≤ (s[k].toNat : Int)) = false := dle_f (by omega)
                have t122 : decide ((s[k].toNat : Int) ≤ 122) = true := dle_t (by omega)
                have t48 : decide ((48 : Int) ≤ (s[k].toNat : Int)) = false := dle_f (by omega)
                have t57 : decide ((s[k].toNat : Int) ≤ 57) = true := dle_t (by omega)
                go_wp2_with fail
                all_goals
                  go_ret
                  exact ⟨by rw [HR.out, HF.out]; rfl, rfl⟩
              · clear c1 c2
                have t97 : decide ((97 : Int) ≤ (s[k].toNat : Int)) = false := dle_f (by omega)
                have t122 : decide ((s[k].toNat : Int) ≤ 122) = true := dle_t (by omega)
                have t48 : decide ((48 : Int) ≤ (s[k].toNat : Int)) = true := dle_t (by omega)
                have t57 : decide ((s[k].toNat : Int) ≤ 57) = false := dle_f (by omega)
                go_wp2_with fail
                all_goals
                  go_ret
                  exact ⟨by rw [HR.out, HF.out]; rfl, rfl⟩
              · clear c1 c2
                have t97 : decide ((97 : Int) ≤ (s[k].toNat : Int)) = true := dle_t (by omega)
                have t122 : decide ((s[k].toNat : Int) ≤ 122) = false := dle_f (by omega)
                have t48 : decide ((48 : Int) ≤ (s[k].toNat : Int)) = true := dle_t (by omega)
                have t57 : decide ((s[k].toNat : Int) ≤ 57) = false := dle_f (by omega)
                go_wp2_with fail
                all_goals
                  go_ret
                  exact ⟨by rw [HR.out, HF.out]; rfl, rfl⟩
              · clear c1 c2
                have t97 : decide ((97 : Int) ≤ (s[k].toNat : Int)) = false := dle_f (by omega)
                have t122 : decide ((s[k].toNat : Int) ≤ 122) = true := dle_t (by omega)
                have t48 : decide ((48 : Int) ≤ (s[k].toNat : Int)) = true := dle_t (by omega)
                have t57 : decide ((s[k].toNat : Int) ≤ 57) = true := dle_t (by omega)
                have ck : k ≤ 0 := by omega
                clear c0
                go_wp2_with fail
                all_goals
                  go_ret
                  exact ⟨by rw [HR.out, HF.out]; rfl, rfl⟩
        · have hke : k = s.size := by omega
          have HF := Lib.hid (name_good s.data.toList (by rw [len_data]; omega) (by rw [len_data]; exact h2) (fun i hi => HOK.out i (by rw [len_data] at hi; omega)))
          clear hke
          go_wp2_with fail
          go_ret
          exact ⟨by rw [HR.out, HF.out]; rfl, rfl⟩
end Go.Proofs.YtijeninfmjhbnaaDoor
end
/- Layings of the kit's shelf at this translation, in plain words. -/
section
namespace Go.Proofs
open Go.Shelf
def Tryd.lays160_ren : Go.Shelf.Ren := ⟨fun | 160 => 54 | 232 => 73 | 231 => 72 | 227 => 74 | 234 => 76 | 233 => 75 | 236 => 78 | 235 => 77 | 228 => 91 | 271 => 94 | 151 => 93 | 197 => 92 | 120 => 102 | 152 => 101 | 260 => 100 | 137 => 104 | 119 => 105 | 224 => 106 | 225 => 107 | 217 => 108 | 266 => 109 | n => n, fun | 9 => 9 | 4 => 4 | 3 => 3 | 5 => 5 | 117 => 119 | 116 => 118 | 0 => 0 | 124 => 122 | 21 => 21 | 105 => 138 | 46 => 115 | 119 => 150 | 139 => 153 | 138 => 152 | n => n, fun | 3 => 0 | 4 => 1 | n => n⟩
theorem Tryd.lays160 : Go.Proofs.Lays.n160 Tryd.prog Tryd.lays160_ren := {
  mixed := by kernel_rfl
  f119 := Tryd.func105.trans (congrArg some (by kernel_rfl))
  f120 := Tryd.func102.trans (congrArg some (by kernel_rfl))
  f137 := Tryd.func104.trans (congrArg some (by kernel_rfl))
  f151 := Tryd.func93.trans (congrArg some (by kernel_rfl))
  f152 := Tryd.func101.trans (congrArg some (by kernel_rfl))
  f160 := Tryd.func54.trans (congrArg some (by kernel_rfl))
  f197 := Tryd.func92.trans (congrArg some (by kernel_rfl))
  f217 := Tryd.func108.trans (congrArg some (by kernel_rfl))
  f224 := Tryd.func106.trans (congrArg some (by kernel_rfl))
  f225 := Tryd.func107.trans (congrArg some (by kernel_rfl))
  f227 := Tryd.func74.trans (congrArg some (by kernel_rfl))
  f228 := Tryd.func91.trans (congrArg some (by kernel_rfl))
  f231 := Tryd.func72.trans (congrArg some (by kernel_rfl))
  f232 := Tryd.func73.trans (congrArg some (by kernel_rfl))
  f233 := Tryd.func75.trans (congrArg some (by kernel_rfl))
  f234 := Tryd.func76.trans (congrArg some (by kernel_rfl))
  f235 := Tryd.func77.trans (congrArg some (by kernel_rfl))
  f236 := Tryd.func78.trans (congrArg some (by kernel_rfl))
  f260 := Tryd.func100.trans (congrArg some (by kernel_rfl))
  f266 := Tryd.func109.trans (congrArg some (by kernel_rfl))
  f271 := Tryd.func94.trans (congrArg some (by kernel_rfl))
  t0 := Tryd.underlying0
  a0 := Tryd.isAgg0
  z0 := Tryd.sizeOf0
  v0 := Tryd.zeroValue0
  t3 := Tryd.underlying3
  a3 := Tryd.isAgg3
  z3 := Tryd.sizeOf3
  v3 := Tryd.zeroValue3
  t4 := Tryd.underlying4
  a4 := Tryd.isAgg4
  z4 := Tryd.sizeOf4
  v4 := Tryd.zeroValue4
  t5 := Tryd.underlying5
  a5 := Tryd.isAgg5
  z5 := Tryd.sizeOf5
  v5 := Tryd.zeroValue5
  t9 := Tryd.underlying9
  a9 := Tryd.isAgg9
  z9 := Tryd.sizeOf9
  v9 := Tryd.zeroValue9
  t21 := Tryd.underlying21
  a21 := Tryd.isAgg21
  z21 := Tryd.sizeOf21
  v21 := Tryd.zeroValue21
  t46 := Tryd.underlying115
  a46 := Tryd.isAgg115
  z46 := Tryd.sizeOf115
  v46 := Tryd.zeroValue115
  t105 := Tryd.underlying138
  a105 := Tryd.isAgg138
  z105 := Tryd.sizeOf138
  v105 := Tryd.zeroValue138
  t116 := Tryd.underlying118
  a116 := Tryd.isAgg118
  z116 := Tryd.sizeOf118
  t117 := Tryd.underlying119
  a117 := Tryd.isAgg119
  z117 := Tryd.sizeOf119
  v117 := Tryd.zeroValue119
  t119 := Tryd.underlying150
  a119 := Tryd.isAgg150
  z119 := Tryd.sizeOf150
  t124 := Tryd.underlying122
  a124 := Tryd.isAgg122
  z124 := Tryd.sizeOf122
  v124 := Tryd.zeroValue122
  t138 := Tryd.underlying152
  a138 := Tryd.isAgg152
  z138 := Tryd.sizeOf152
  v138 := Tryd.zeroValue152
  t139 := Tryd.underlying153
  a139 := Tryd.isAgg153
  z139 := Tryd.sizeOf153
  v139 := Tryd.zeroValue153
  g3 := by kernel_rfl
  g4 := by kernel_rfl }
end Go.Proofs
end
/- ref IsName. -/
section
namespace Go.Proofs.YtijeninfmjhbnaaDoor
open Go.ChangeShapes Go.WideShapes Go.ChangeAt Go.RowKit Go.Nm Go.Shelf Go.Lib
set_option linter.unusedVariables false
def alphaB : ByteArray := ⟨#[97, 98, 99, 100, 101, 102, 103, 104, 105, 106, 107, 108, 109, 110, 111, 112, 113, 114, 115, 116, 117, 118, 119, 120, 121, 122, 48, 49, 50, 51, 52, 53, 54, 55, 56, 57]⟩
theorem Trim_alpha (s : ByteArray) (hs : s.size ≤ 9223372036854775807) (w : World) : Calls Tryd.prog 54 #[.string s, .string ⟨#[97, 98, 99, 100, 101, 102, 103, 104, 105, 106, 107, 108, 109, 110, 111, 112, 113, 114, 115, 116, 117, 118, 119, 120, 121, 122, 48, 49, 50, 51, 52, 53, 54, 55, 56, 57]⟩] w fun e w' => e = .returned (.string ⟨(Lib.trimS s.data.toList alpha).toArray⟩) ∧ Below w.heap.size w w' :=
  Any.strings_Trim_laid Tryd.lays160 (by kernel_rfl) s alphaB w hs (by decide) (ascii_of_all (by decide))
set_option maxHeartbeats 1000000 in
theorem ref_IsName (s : ByteArray) (hs : s.size ≤ 9223372036854775807) (w : World) : Calls Tryd.prog 27 #[.string s] w fun e w' => e = .returned (.bool (nameB s.data.toList)) ∧ Below w.heap.size w w' := by
  obtain ⟨R, hR⟩ : ∃ R, R = nameB s.data.toList := ⟨_, rfl⟩
  rw [← hR]
  have HR := Lib.hid hR
  have HT := Lib.hid (Trim_alpha s hs)
  clear hR
  by_cases h0 : s.size = 0
  · have HF := Lib.hid (name_nil _ ((len_data s).trans h0))
    have e0 : s.toList = [] := by
      rw [Lib.toList_data]; exact List.eq_nil_of_length_eq_zero h0
    have e1 : s.toList.isEmpty = true := by rw [e0]; rfl
    go_enter Tryd.func27, Tryd.ntmps27
    go_wp2_with fail
    go_ret
    exact ⟨by rw [HR.out, HF.out]; rfl, Below.refl _ _⟩
  · have e0 : s.toList ≠ [] := by
      rw [Lib.toList_data]; intro h; have := congrArg List.length h; rw [len_data] at this; exact h0 this
    have e1 : s.toList.isEmpty = false := by simpa using e0
    have hpos : 0 < s.size := by omega
    by_cases h1 : 16 < s.size
    · have HF := Lib.hid (name_long _ (by rw [len_data]; exact h1))
      go_enter Tryd.func27, Tryd.ntmps27
      go_wp2_with fail
      go_ret
      exact ⟨by rw [HR.out, HF.out]; rfl, Below.refl _ _⟩
    · have h2 : s.size ≤ 16 := by omega
      clear h1
      obtain ⟨r, hr⟩ : ∃ r : ByteArray, r = ⟨(Lib.trimS s.data.toList alpha).toArray⟩ := ⟨_, rfl⟩
      have hrl : r.toList = Lib.trimS s.data.toList alpha := by rw [hr, Lib.toList_data]
      rw [← hr] at HT
      have HRL := Lib.hid hrl
      clear hr hrl
      by_cases h3 : Lib.trimS s.data.toList alpha = []
      · have r0 : r.toList = [] := by rw [HRL.out, h3]
        have r1 : r.toList.isEmpty = true := by rw [r0]; rfl
        have hn := name_ref s.data.toList (by rw [len_data]; exact hpos) (by rw [len_data]; exact h2) h3
        have hg : s.data.toList.getD 0 0 = s[0] := by
          rw [List.getD_eq_getElem?_getD, List.getElem?_eq_getElem hpos]; rfl
        rw [hg] at hn
        by_cases h4 : 57 < s[0].toNat
        · have HF := Lib.hid (hn.trans (decide_eq_true h4))
          have t4 : decide ((57 : Int) < (s[0].toNat : Int)) = true := decide_eq_true (by omega)
          clear hn hg h3
          go_enter Tryd.func27, Tryd.ntmps27
          go_wp2_with fail
          refine (HT.out _).mono ?_
          rintro e w1 ⟨rfl, hb1⟩
          go_wp2_with fail
          go_ret
          exact ⟨by rw [HR.out, HF.out]; rfl, hb1⟩
        · have HF := Lib.hid (hn.trans (decide_eq_false h4))
          have t4 : decide ((57 : Int) < (s[0].toNat : Int)) = false := decide_eq_false (by omega)
          clear hn hg h3
          go_enter Tryd.func27, Tryd.ntmps27
          go_wp2_with fail
          refine (HT.out _).mono ?_
          rintro e w1 ⟨rfl, hb1⟩
          go_wp2_with fail
          go_ret
          exact ⟨by rw [HR.out, HF.out]; rfl, hb1⟩
      · have HF := Lib.hid (name_trim s.data.toList h3)
        have r0 : r.toList ≠ [] := by rw [HRL.out]; exact h3
        have r1 : r.toList.isEmpty = false := by simpa using r0
        clear h3
        go_enter Tryd.func27, Tryd.ntmps27
        go_wp2_with fail
        refine (HT.out _).mono ?_
        rintro e w1 ⟨rfl, hb1⟩
        go_wp2_with fail
        go_ret
        exact ⟨by rw [HR.out, HF.out]; rfl, hb1⟩
end Go.Proofs.YtijeninfmjhbnaaDoor
end
/- kind.field, High, Near; ref FieldOK, Top, Nearest. -/
section
namespace Go.Proofs.YtijeninfmjhbnaaDoor
open Go.ChangeShapes Go.WideShapes Go.ChangeAt Go.RowKit Go.Nm
set_option linter.unusedVariables false
def fieldB (s : ByteArray) (b l : Int) : Bool := nameB s.data.toList && (decide (1 ≤ b) && (decide (b ≤ 32) && (decide (-4294967296 ≤ l) && decide (l ≤ 4294967296))))
theorem field_cases (s : ByteArray) (b l : Int) : (fieldB s b l = true ∧ nameB s.data.toList = true ∧ 1 ≤ b ∧ b ≤ 32 ∧ -4294967296 ≤ l ∧ l ≤ 4294967296) ∨
    (fieldB s b l = false ∧ (nameB s.data.toList = false ∨ (nameB s.data.toList = true ∧ b < 1) ∨ (nameB s.data.toList = true ∧ 1 ≤ b ∧ 32 < b) ∨ (nameB s.data.toList = true ∧ 1 ≤ b ∧ b ≤ 32 ∧ l < -4294967296) ∨ (nameB s.data.toList = true ∧ 1 ≤ b ∧ b ≤ 32 ∧ -4294967296 ≤ l ∧ 4294967296 < l))) := by
  unfold fieldB
  cases nameB s.data.toList
  · right; simp
  · by_cases h1 : 1 ≤ b
    · by_cases h2 : b ≤ 32
      · by_cases h3 : -4294967296 ≤ l
        · by_cases h4 : l ≤ 4294967296
          · left; simp [h1, h2, h3, h4]
          · right; simp [h1, h2, h3, h4]; omega
        · right; simp [h1, h2, h3]; omega
      · right; simp [h1, h2]; omega
    · right; simp [h1]; omega
set_option maxHeartbeats 1000000 in
theorem kind_field (s : ByteArray) (b l : Int) (hs : s.size ≤ 9223372036854775807) (w : World) : Calls Tryd.prog 65 #[.agg #[.string s, .int .i64 b, .int .i64 l]] w fun e w' => e = .returned (.int .i64 (if fieldB s b l = true then 0 else 3)) ∧ Below w.heap.size w w' := by
  have HS := Lib.hid hs
  clear hs
  rcases field_cases s b l with ⟨hf, hn, h1, h2, h3, h4⟩ | ⟨hf, hn | ⟨hn, h1⟩ | ⟨hn, h1, h2⟩ | ⟨hn, h1, h2, h3⟩ | ⟨hn, h1, h2, h3, h4⟩⟩
  all_goals
    rw [hf]
    have C := fun W => kind_Name s HS.out W
    rw [hn] at C
    have C := Lib.hid C
    clear hf hn
    go_enter Tryd.func65, Tryd.ntmps65
    go_wp2_with fail
    refine (C.out _).mono ?_
    rintro e w1 ⟨rfl, rfl⟩
    go_wp2_with fail
    go_ret
    exact ⟨rfl, (Below.refl _ _).alloc (Nat.le_refl _) _⟩
set_option maxHeartbeats 1000000 in
theorem ref_FieldOK (s : ByteArray) (b l : Int) (hs : s.size ≤ 9223372036854775807) (w : World) : Calls Tryd.prog 63 #[.agg #[.string s, .int .i64 b, .int .i64 l]] w fun e w' => e = .returned (.bool (fieldB s b l)) ∧ Below w.heap.size w w' := by
  have HS := Lib.hid hs
  clear hs
  rcases field_cases s b l with ⟨hf, hn, h1, h2, h3, h4⟩ | ⟨hf, hn | ⟨hn, h1⟩ | ⟨hn, h1, h2⟩ | ⟨hn, h1, h2, h3⟩ | ⟨hn, h1, h2, h3, h4⟩⟩
  all_goals
    rw [hf]
    have C := fun W => ref_IsName s HS.out W
    rw [hn] at C
    have C := Lib.hid C
    clear hf hn
    go_enter Tryd.func63, Tryd.ntmps63
    go_wp2_with fail
    refine (C.out _).mono ?_
    rintro e w1 ⟨rfl, hb1⟩
    have c1 : w1.cell? ⟨w.heap.size, 1, none⟩ = some (.int .i64 b) := by rw [hb1.cell (p := ⟨w.heap.size, 1, none⟩) (by simp)]; simp
    have c2 : w1.cell? ⟨w.heap.size, 2, none⟩ = some (.int .i64 l) := by rw [hb1.cell (p := ⟨w.heap.size, 2, none⟩) (by simp)]; simp
    go_wp2_with fail
    go_ret
    have hbb := ((Below.refl w.heap.size w).alloc (Nat.le_refl _) (.cells #[.string s, .int .i64 b, .int .i64 l] 40)).trans (hb1.mono (by simp))
    first
      | exact ⟨rfl, hbb⟩
      | exact ⟨congrArg (fun x => Ending.returned (Value.bool x)) (decide_eq_true (by omega)), hbb⟩
      | exact ⟨congrArg (fun x => Ending.returned (Value.bool x)) (decide_eq_false (by omega)), hbb⟩
end Go.Proofs.YtijeninfmjhbnaaDoor
end
/- Fields and kinds as they lie in memory; the errors of a kind, as the document has them. -/
section
namespace Go.Proofs.YtijeninfmjhbnaaDoor
open Go.RowKit Go.ChangeShapes Go.WideShapes Go.Deep Go.Mem Go.Nm
set_option linter.unusedVariables false
structure FieldV where
  name : ByteArray
  bits : Int
  low : Int
instance : Inhabited FieldV := ⟨⟨ByteArray.empty, 0, 0⟩⟩
structure KindV where
  name : ByteArray
  fields : List FieldV
instance : Inhabited KindV := ⟨⟨ByteArray.empty, []⟩⟩
def FieldAt (w : World) (p : Addr) (y : FieldV) : Prop := w.cell? p = some (.string y.name) ∧ w.cell? ⟨p.block, p.off + 1, none⟩ = some (.int .i64 y.bits) ∧ w.cell? ⟨p.block, p.off + 2, none⟩ = some (.int .i64 y.low) ∧ y.name.size ≤ 9223372036854775807
theorem FieldAt.abides : Abides FieldAt := fun w w' p y h hb => ⟨cell_abides h.1 hb, cell_abides h.2.1 hb, cell_abides h.2.2.1 hb, h.2.2.2⟩
def KindAt (w : World) (p : Addr) (y : KindV) : Prop := w.cell? p = some (.string y.name) ∧ y.name.size ≤ 9223372036854775807 ∧ ∃ a c, w.cell? ⟨p.block, p.off + 1, none⟩ = some (.slice a y.fields.length c) ∧ y.fields.length ≤ c ∧ c ≤ 9223372036854775807 ∧ SlAt 3 FieldAt w a y.fields
theorem KindAt.abides : Abides KindAt := fun w w' p y h hb => by
  obtain ⟨h1, h2, a, c, h3, h4, h5, h6⟩ := h
  exact ⟨cell_abides h1 hb, h2, a, c, cell_abides h3 hb, h4, h5, h6.below FieldAt.abides hb⟩
def costField (y : FieldV) : Nat := y.name.size + 1
def costKind (y : KindV) : Nat := y.name.size + (y.fields.map costField).sum + 1
section
variable {H : Type} {enc : TypeId × Value → H} {w : World} {base : Nat} {spare : Nat → Bool} {held : Bool}
theorem str_bulk (s : ByteArray) : Rows.uptoBulk (DataW.lit (H := H) (.string s.data.toList)) = s.size + 1 := by simp only [Rows.uptoBulk]; rfl
set_option maxRecDepth 100000 in
theorem read_field (fuel : Nat) (cs : List Value) (x : DataW H × List MemPlace) (p : Addr) (hl : cs.length = 3) (hc : ∀ j, j < 3 → w.cell? (p.add j) = cs[j]?) (ht : DataW.trod enc Tryd.prog w base spare held fuel 40 cs = some x) : ∃ y, FieldAt w p y ∧ costField y ≤ Rows.uptoBulk x.1 := by
  obtain ⟨xs, n, _, rfl, _, hxl, hf⟩ := DataW.trod_struct Tryd.underlying40 ht
  match cs, hl with
  | [v0, v1, v2], _ =>
    have g0 : DataW.trod enc Tryd.prog w base spare held n 9 (([v0, v1, v2].drop 0).take (Tryd.prog.cellsOf 9)) = xs[0]? := hf 0 _ rfl
    have g1 : DataW.trod enc Tryd.prog w base spare held n 3 (([v0, v1, v2].drop 1).take (Tryd.prog.cellsOf 3)) = xs[1]? := hf 1 _ rfl
    have g2 : DataW.trod enc Tryd.prog w base spare held n 3 (([v0, v1, v2].drop 2).take (Tryd.prog.cellsOf 3)) = xs[2]? := hf 2 _ rfl
    rw [show Tryd.prog.cellsOf 9 = 1 by kernel_rfl] at g0
    rw [show Tryd.prog.cellsOf 3 = 1 by kernel_rfl] at g1 g2
    match xs, hxl with
    | [y0, y1, y2], _ =>
      obtain ⟨s, e0, hx0, hs⟩ := DataW.trod_string Tryd.underlying9 (show DataW.trod enc Tryd.prog w base spare held n 9 [v0] = some y0 from g0)
      obtain ⟨z1, e1, _, _⟩ := DataW.trod_int Tryd.underlying3 (show DataW.trod enc Tryd.prog w base spare held n 3 [v1] = some y1 from g1)
      obtain ⟨z2, e2, _, _⟩ := DataW.trod_int Tryd.underlying3 (show DataW.trod enc Tryd.prog w base spare held n 3 [v2] = some y2 from g2)
      injection e0 with e0; injection e1 with e1; injection e2 with e2
      subst e0 e1 e2
      have c0 := hc 0 (by decide)
      have c1 := hc 1 (by decide)
      have c2 := hc 2 (by decide)
      unfold maxLen at hs
      have hb : Rows.uptoBulk y0.1 + 1 ≤ Rows.uptoBulk (.agg ([y0, y1, y2].map (·.1))) := agg_bulk (xs := [y0, y1, y2]) (i := 0) (y := y0) rfl
      have he : Rows.uptoBulk y0.1 = s.size + 1 := by rw [hx0]; exact str_bulk s
      exact ⟨⟨s, z1, z2⟩, ⟨by simpa [Addr.add] using c0, by simpa [Addr.add] using c1, by simpa [Addr.add] using c2, by simp only; omega⟩, by unfold costField; simp only at hb ⊢; omega⟩
set_option maxRecDepth 100000 in
theorem read_fields {fuel : Nat} {cs : List Value} {x : DataW H × List MemPlace} (h : DataW.trod enc Tryd.prog w base spare held fuel 41 cs = some x) :
    ∃ (a : Option Addr) (l : List FieldV) (cap : Nat), cs = [.slice a l.length cap] ∧ l.length ≤ cap ∧ cap ≤ maxLen ∧ SlAt 3 FieldAt w a l ∧ (l.map costField).sum + 1 ≤ Rows.uptoBulk x.1 :=
  read_slice Tryd.underlying41 (by kernel_rfl) (by decide) read_field h
set_option maxRecDepth 100000 in
theorem read_kind (fuel : Nat) (cs : List Value) (x : DataW H × List MemPlace) (p : Addr) (hl : cs.length = 2) (hc : ∀ j, j < 2 → w.cell? (p.add j) = cs[j]?) (ht : DataW.trod enc Tryd.prog w base spare held fuel 43 cs = some x) : ∃ y, KindAt w p y ∧ costKind y ≤ Rows.uptoBulk x.1 := by
  obtain ⟨xs, n, _, rfl, _, hxl, hf⟩ := DataW.trod_struct Tryd.underlying43 ht
  match cs, hl with
  | [v0, v1], _ =>
    have g0 : DataW.trod enc Tryd.prog w base spare held n 9 (([v0, v1].drop 0).take (Tryd.prog.cellsOf 9)) = xs[0]? := hf 0 _ rfl
    have g1 : DataW.trod enc Tryd.prog w base spare held n 41 (([v0, v1].drop 1).take (Tryd.prog.cellsOf 41)) = xs[1]? := hf 1 _ rfl
    rw [show Tryd.prog.cellsOf 9 = 1 by kernel_rfl] at g0
    rw [show Tryd.prog.cellsOf 41 = 1 by kernel_rfl] at g1
    match xs, hxl with
    | [y0, y1], _ =>
      obtain ⟨s, e0, hx0, hs⟩ := DataW.trod_string Tryd.underlying9 (show DataW.trod enc Tryd.prog w base spare held n 9 [v0] = some y0 from g0)
      obtain ⟨a, l, cap, e1, q1, q2, q3, q4⟩ := read_fields (show DataW.trod enc Tryd.prog w base spare held n 41 [v1] = some y1 from g1)
      injection e0 with e0; injection e1 with e1
      subst e0 e1
      have c0 := hc 0 (by decide)
      have c1 := hc 1 (by decide)
      unfold maxLen at hs q2
      have hb : Rows.uptoBulk y0.1 + (Rows.uptoBulk y1.1 + 1) ≤ Rows.uptoBulk (.agg ([y0, y1].map (·.1))) := by
        simp only [List.map_cons, List.map_nil, Rows.uptoBulk, Rows.uptoBulkAll]; omega
      have he : Rows.uptoBulk y0.1 = s.size + 1 := by rw [hx0]; exact str_bulk s
      exact ⟨⟨s, l⟩, ⟨by simpa [Addr.add] using c0, by simp only; omega, a, cap, by simpa [Addr.add] using c1, q1, by omega, q3⟩, by unfold costKind; simp only at hb ⊢; omega⟩
set_option maxRecDepth 100000 in
theorem read_kinds {fuel : Nat} {cs : List Value} {x : DataW H × List MemPlace} (h : DataW.trod enc Tryd.prog w base spare held fuel 22 cs = some x) :
    ∃ (a : Option Addr) (l : List KindV) (cap : Nat), cs = [.slice a l.length cap] ∧ l.length ≤ cap ∧ cap ≤ maxLen ∧ SlAt 2 KindAt w a l ∧ (l.map costKind).sum + 1 ≤ Rows.uptoBulk x.1 :=
  read_slice Tryd.underlying22 (by kernel_rfl) (by decide) read_kind h
end
/-- is one of the first i names the one of place i? -/
def okF (f : FieldV) : Bool := fieldB f.name f.bits f.low
def dupAt (names : List ByteArray) (i : Nat) : Bool := (names.take i).any fun s => s.toList == (names.getD i ByteArray.empty).toList
/-- the error of the first k fields -/
def fldErr (l : List FieldV) : Nat → Int
  | 0 => 0
  | k + 1 => if fldErr l k ≠ 0 then fldErr l k else if okF (l.getD k default) = false then 3 else if dupAt (l.map (·.name)) k = true then 5 else 0
def kindE (k : KindV) : Int := if nameB k.name.data.toList = false then 3 else if 8 < k.fields.length then 2 else fldErr k.fields k.fields.length
def kndErr (l : List KindV) : Nat → Int
  | 0 => 0
  | k + 1 => if kndErr l k ≠ 0 then kndErr l k else if kindE (l.getD k default) ≠ 0 then kindE (l.getD k default) else if dupAt (l.map (·.name)) k = true then 5 else 0
def kindsE (l : List KindV) : Int := if 16 < l.length then 2 else kndErr l l.length
/-- an error stays -/
theorem fldErr_stays (l : List FieldV) (k m : Nat) (h : k ≤ m) (h0 : fldErr l k ≠ 0) : fldErr l m = fldErr l k := by
  induction m with
  | zero => obtain rfl : k = 0 := by omega
            rfl
  | succ m ih =>
    by_cases hk : k = m + 1
    · rw [hk]
    · have := ih (by omega)
      show (if fldErr l m ≠ 0 then _ else _) = _
      rw [if_pos (by rw [this]; exact h0), this]
theorem kndErr_stays (l : List KindV) (k m : Nat) (h : k ≤ m) (h0 : kndErr l k ≠ 0) : kndErr l m = kndErr l k := by
  induction m with
  | zero => obtain rfl : k = 0 := by omega
            rfl
  | succ m ih =>
    by_cases hk : k = m + 1
    · rw [hk]
    · have := ih (by omega)
      show (if kndErr l m ≠ 0 then _ else _) = _
      rw [if_pos (by rw [this]; exact h0), this]
end Go.Proofs.YtijeninfmjhbnaaDoor
end
