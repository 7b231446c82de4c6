/- The contracts of strings and strconv that the reference's Decimal and Number use, in plain words. -/
import Derived.Test.YtgkmiobabojfiaaDoorTrimsL
import Derived.Test.YtgkmiobabojfiaaDoorFixReadP
import Derived.Test.YtgkmiobabojfiaaDoorNameP
import Derived.Stop.LaidErr
import Derived.MakeChecks
import Derived.Shelf.Strings.SlTrimAscii
import Derived.Shelf.Small.Wraps
import Derived.Shelf.Strings.Shaped
import Derived.Shelf.Strings.Repeat
import Derived.Shelf.Strconv.Itoa3
import Derived.Shelf.Strconv.Atoi
import Derived.Lib.SmallJoins
import Derived.Lib.AppendIntMem
import Derived.Lib.LaidTab
import Derived.Test.YtgkmiobabojfiaaDoorRows
import Derived.Test.YtgkmiobabojfiaaDoorMem
namespace Go.Proofs.YtgkmiobabojfiaaDoor
open Go.ChangeShapes Go.WideShapes Go.ChangeAt Go.RowKit Go.Nm Go.Shelf Go.Lib
set_option linter.unusedVariables false
def ten : List UInt8 := [48, 49, 50, 51, 52, 53, 54, 55, 56, 57]
def tenB : ByteArray := ⟨#[48, 49, 50, 51, 52, 53, 54, 55, 56, 57]⟩
def zeroB : ByteArray := ⟨#[48]⟩
theorem Trim_ten (s : ByteArray) (hs : s.size ≤ 9223372036854775807) (w : World) : Calls Tryd.prog 14 #[.string s, .string ⟨#[48, 49, 50, 51, 52, 53, 54, 55, 56, 57]⟩] w fun e w' => e = .returned (.string ⟨(Lib.trimS s.data.toList ten).toArray⟩) ∧ Below w.heap.size w w' :=
  Any.strings_Trim_laid Tryd.lays160 (by kernel_rfl) s tenB w hs (by decide) (ascii_of_all (by decide))
theorem Trim_zero (s : ByteArray) (hs : s.size ≤ 9223372036854775807) (w : World) : Calls Tryd.prog 14 #[.string s, .string ⟨#[48]⟩] w fun e w' => e = .returned (.string ⟨(Lib.trimS s.data.toList [48]).toArray⟩) ∧ Below w.heap.size w w' :=
  Any.strings_Trim_laid Tryd.lays160 (by kernel_rfl) s zeroB w hs (by decide) (ascii_of_all (by decide))
theorem TrimLeft_zero (s : ByteArray) (w : World) : Calls Tryd.prog 17 #[.string s, .string ⟨#[48]⟩] w fun e w' => e = .returned (.string ⟨(Lib.trimLeftS s.data.toList [48]).toArray⟩) ∧ Below w.heap.size w w' :=
  Any.strings_TrimLeft_laid Tryd.lays161 (by kernel_rfl) s zeroB w (by decide) (ascii_of_all (by decide))
theorem TrimRight_zero (s : ByteArray) (hs : s.size ≤ 9223372036854775807) (w : World) : Calls Tryd.prog 20 #[.string s, .string ⟨#[48]⟩] w fun e w' => e = .returned (.string ⟨(Lib.trimRightS s.data.toList [48]).toArray⟩) ∧ Below w.heap.size w w' :=
  Any.strings_TrimRight_laid Tryd.lays162 (by kernel_rfl) s zeroB w hs (by decide) (ascii_of_all (by decide))
theorem CutPrefix_minus (s : ByteArray) (w : World) : Calls Tryd.prog 12 #[.string s, .string ⟨#[45]⟩] w fun e w' => e = .returned (.tuple #[.string ⟨(Lib.trimPrefix s.data.toList [45]).toArray⟩, .bool (Lib.hasPrefix s.data.toList [45])]) ∧ w' = w :=
  Any.strings_CutPrefix Tryd.lays103 s ⟨#[45]⟩ w
/-- the block of internal/bytealg.MaxLen -/
def MaxAt (w : World) : Prop := ∃ m, w.cell? ⟨Tryd.lays145_ren.g 1, 0, none⟩ = some (.int .i64 m)
theorem maxAt_of (w : World) (h : w.ShapedOpen Tryd.prog) : MaxAt w := Tryd.lays145.s1_3 w h
theorem MaxAt.below {w w' : World} {B : Nat} (h : MaxAt w) (hb : Below B w w') (hB : w.heap.size ≤ B) : MaxAt w' := by
  obtain ⟨m, hm⟩ := h
  exact ⟨m, (hb.cell (p := ⟨Tryd.lays145_ren.g 1, 0, none⟩) (Nat.lt_of_lt_of_le (World.block_lt_of_cell? w _ hm) hB)).trans hm⟩
theorem Cut_point (s : ByteArray) (hs : s.size < 4294967281) (w : World) (hm : MaxAt w) : Calls Tryd.prog 13 #[.string s, .string ⟨#[46]⟩] w fun e w' => e = .returned (.tuple #[.string ⟨(cutD s.data.toList).1.toArray⟩, .string ⟨(cutD s.data.toList).2.1.toArray⟩, .bool (cutD s.data.toList).2.2]) ∧ Below w.heap.size w w' := by
  obtain ⟨m, hm⟩ := hm
  have h := Any.strings_Cut { Tryd.lays145 with } s ⟨#[46]⟩ m w hs hm
  refine h.mono ?_
  rintro e w' ⟨rfl, n, rfl⟩
  refine ⟨?_, Mem.below_drewN (Below.refl _ _) n⟩
  rw [show (⟨#[46]⟩ : ByteArray).data.toList = [46] from rfl, cut_eq]
theorem extra105 : Builder.Extra Tryd.prog Tryd.lays105_ren where
  sizeBuilder := by kernel_rfl
  liesBuilder := by kernel_rfl
  t5 := Tryd.underlying5
  a5 := Tryd.isAgg5
  z5 := Tryd.sizeOf5
  v5 := Tryd.zeroValue5
  infoByte := by kernel_rfl
  cellsByte := by kernel_rfl
  sizeByte := by kernel_rfl
  neB5 := by decide
theorem Repeat_zero (c : Nat) (hc : c ≤ 1000) (z : Int) (hz : z = (c : Int)) (w : World) : Calls Tryd.prog 15 #[.string ⟨#[48]⟩, .int .i64 z] w fun e w' => e = .returned (.string ⟨(Lib.repeatL [48] c).toArray⟩) ∧ Below w.heap.size w w' := by
  subst hz
  exact Any.strings_Repeat Tryd.lays105 extra105 zeroB c w (by omega) (by show 1 * c ≤ _; omega)
def PowAt (w : World) : Prop := Lib.TabIs Tryd.prog w "internal/strconv.uint64pow10" .u64 Lib.pow10Tab
theorem PowAt.below {w w' : World} {B : Nat} (h : PowAt w) (hb : Below B w w') (hB : w.heap.size ≤ B) : PowAt w' := by
  unfold PowAt Lib.TabIs World.var? at h ⊢
  cases hg : Tryd.prog.globalNamed "internal/strconv.uint64pow10" with
  | none => rw [hg] at h; cases h
  | some g =>
    rw [hg] at h
    simp only [Option.bind_some] at h ⊢
    have hlt : g < w.heap.size := by
      rcases Nat.lt_or_ge g w.heap.size with h' | h'
      · exact h'
      · rw [Array.getElem?_eq_none h'] at h; cases h
    rw [hb.block g (Nat.lt_of_lt_of_le hlt hB)]
    exact h
theorem Itoa_at (n : Int) (h0 : -9223372036854775808 ≤ n) (h1 : n ≤ 9223372036854775807) (w : World) (h : PowAt w) : Calls Tryd.prog 19 #[.int .i64 n] w fun e w' => e = .returned (.string ⟨(Lib.itoa n).toArray⟩) ∧ Below w.heap.size w w' := by
  refine (Any.strconv_Itoa Tryd.lays171 n h0 h1 w h).mono ?_
  rintro e w' ⟨rfl, k, os, rfl⟩
  exact ⟨rfl, Lib.below_grow _ _ (Nat.le_refl _) _ _⟩
theorem Atoi_at (s : ByteArray) (n : Int) (hl : s.size ≤ 18) (h : Lib.atoi s.data.toList = some n) (w : World) : Calls Tryd.prog 16 #[.string s] w fun e w' => e = .returned (.tuple #[.int .i64 n, .nilIface]) ∧ Below w.heap.size w w' := by
  refine (Any.strconv_Atoi Tryd.lays172 s n hl h w).mono ?_
  rintro e w' ⟨rfl, t, rfl⟩
  exact ⟨rfl, Joins.below_bytesWorld _ _ _ _ (Nat.le_refl _)⟩
theorem trim_zero (l : List UInt8) : Lib.trimS l [48] = [] ↔ l.all (fun c => c == 48) = true := by
  rw [trim_nil]
  have : (fun x : UInt8 => [(48 : UInt8)].contains x) = fun c => c == 48 := by funext x; by_cases h : x = 48 <;> simp [h]
  rw [this]
theorem trimL_zero (l : List UInt8) : Lib.trimLeftS l [48] = l.dropWhile (fun c => c == 48) := by
  unfold Lib.trimLeftS
  have : (fun x : UInt8 => [(48 : UInt8)].contains x) = fun c => c == 48 := by funext x; by_cases h : x = 48 <;> simp [h]
  rw [this]
set_option maxRecDepth 20000 in
theorem ten_has (c : UInt8) : ten.contains c = dgB c := by
  have h : ∀ n : Fin 256, ten.contains (UInt8.ofNat n.val) = dgB (UInt8.ofNat n.val) := by decide
  have := h ⟨c.toNat, c.toNat_lt⟩
  simpa using this
theorem trim_ten (l : List UInt8) : Lib.trimS l ten = [] ↔ l.all dgB = true := by
  rw [trim_nil]
  have : (fun x : UInt8 => ten.contains x) = dgB := by funext x; exact ten_has x
  rw [this]
theorem prefix_minus (l : List UInt8) : Lib.hasPrefix l [45] = decide (l.head? = some 45) := by
  cases l with
  | nil => rfl
  | cons c r =>
    show ((45 == c) && List.isPrefixOf [] r) = _
    by_cases h : c = 45
    · subst h; rfl
    · rw [beq_eq_false_iff_ne.2 (fun h2 => h h2.symm)]
      simp [h]
theorem rest_minus (l : List UInt8) : Lib.trimPrefix l [45] = restL l := by
  unfold Lib.trimPrefix restL
  rw [prefix_minus]
  by_cases h : l.head? = some 45
  · rw [if_pos (decide_eq_true h), if_pos h]; simp
  · rw [if_neg (by simpa using h), if_neg h]
end Go.Proofs.YtgkmiobabojfiaaDoor
