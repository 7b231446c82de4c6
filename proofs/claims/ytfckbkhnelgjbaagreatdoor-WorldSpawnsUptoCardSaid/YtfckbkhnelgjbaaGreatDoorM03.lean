/- Lemmas for the law WorldSpawns: TrimL, IsNameW, FieldW, ApiKind, ApiComp, ApiItem. No conditions. -/
import Derived.Ground.NamesProg
import Derived.Shelf.Strings.SlTrimAscii
import Derived.Test.YtfckbkhnelgjbaaGreatDoorProg
import Derived.Test.YtfckbkhnelgjbaaGreatDoorM02
import Derived.Below
/- Layings of the kit's shelf at this translation, in plain words. -/
section
namespace Go.Proofs
open Go.Shelf
def Tryz.lays160_ren : Go.Shelf.Ren := ⟨fun | 160 => 99 | 232 => 111 | 231 => 110 | 227 => 112 | 234 => 114 | 233 => 113 | 236 => 116 | 235 => 115 | 228 => 119 | 271 => 122 | 151 => 121 | 197 => 120 | 120 => 125 | 152 => 124 | 260 => 123 | 137 => 126 | 119 => 127 | 224 => 128 | 225 => 129 | 217 => 130 | 266 => 131 | n => n, fun | 9 => 9 | 4 => 4 | 3 => 3 | 5 => 5 | 117 => 159 | 116 => 158 | 0 => 0 | 124 => 162 | 21 => 21 | 105 => 168 | 46 => 113 | 119 => 172 | 139 => 175 | 138 => 174 | n => n, fun | 3 => 0 | 4 => 1 | n => n⟩
theorem Tryz.lays160 : Go.Proofs.Lays.n160 Tryz.prog Tryz.lays160_ren := {
  mixed := by kernel_rfl
  f119 := Tryz.func127.trans (congrArg some (by kernel_rfl))
  f120 := Tryz.func125.trans (congrArg some (by kernel_rfl))
  f137 := Tryz.func126.trans (congrArg some (by kernel_rfl))
  f151 := Tryz.func121.trans (congrArg some (by kernel_rfl))
  f152 := Tryz.func124.trans (congrArg some (by kernel_rfl))
  f160 := Tryz.func99.trans (congrArg some (by kernel_rfl))
  f197 := Tryz.func120.trans (congrArg some (by kernel_rfl))
  f217 := Tryz.func130.trans (congrArg some (by kernel_rfl))
  f224 := Tryz.func128.trans (congrArg some (by kernel_rfl))
  f225 := Tryz.func129.trans (congrArg some (by kernel_rfl))
  f227 := Tryz.func112.trans (congrArg some (by kernel_rfl))
  f228 := Tryz.func119.trans (congrArg some (by kernel_rfl))
  f231 := Tryz.func110.trans (congrArg some (by kernel_rfl))
  f232 := Tryz.func111.trans (congrArg some (by kernel_rfl))
  f233 := Tryz.func113.trans (congrArg some (by kernel_rfl))
  f234 := Tryz.func114.trans (congrArg some (by kernel_rfl))
  f235 := Tryz.func115.trans (congrArg some (by kernel_rfl))
  f236 := Tryz.func116.trans (congrArg some (by kernel_rfl))
  f260 := Tryz.func123.trans (congrArg some (by kernel_rfl))
  f266 := Tryz.func131.trans (congrArg some (by kernel_rfl))
  f271 := Tryz.func122.trans (congrArg some (by kernel_rfl))
  t0 := Tryz.underlying0
  a0 := Tryz.isAgg0
  z0 := Tryz.sizeOf0
  v0 := Tryz.zeroValue0
  t3 := Tryz.underlying3
  a3 := Tryz.isAgg3
  z3 := Tryz.sizeOf3
  v3 := Tryz.zeroValue3
  t4 := Tryz.underlying4
  a4 := Tryz.isAgg4
  z4 := Tryz.sizeOf4
  v4 := Tryz.zeroValue4
  t5 := Tryz.underlying5
  a5 := Tryz.isAgg5
  z5 := Tryz.sizeOf5
  v5 := Tryz.zeroValue5
  t9 := Tryz.underlying9
  a9 := Tryz.isAgg9
  z9 := Tryz.sizeOf9
  v9 := Tryz.zeroValue9
  t21 := Tryz.underlying21
  a21 := Tryz.isAgg21
  z21 := Tryz.sizeOf21
  v21 := Tryz.zeroValue21
  t46 := Tryz.underlying113
  a46 := Tryz.isAgg113
  z46 := Tryz.sizeOf113
  v46 := Tryz.zeroValue113
  t105 := Tryz.underlying168
  a105 := Tryz.isAgg168
  z105 := Tryz.sizeOf168
  v105 := Tryz.zeroValue168
  t116 := Tryz.underlying158
  a116 := Tryz.isAgg158
  z116 := Tryz.sizeOf158
  t117 := Tryz.underlying159
  a117 := Tryz.isAgg159
  z117 := Tryz.sizeOf159
  v117 := Tryz.zeroValue159
  t119 := Tryz.underlying172
  a119 := Tryz.isAgg172
  z119 := Tryz.sizeOf172
  t124 := Tryz.underlying162
  a124 := Tryz.isAgg162
  z124 := Tryz.sizeOf162
  v124 := Tryz.zeroValue162
  t138 := Tryz.underlying174
  a138 := Tryz.isAgg174
  z138 := Tryz.sizeOf174
  v138 := Tryz.zeroValue174
  t139 := Tryz.underlying175
  a139 := Tryz.isAgg175
  z139 := Tryz.sizeOf175
  v139 := Tryz.zeroValue175
  g3 := by kernel_rfl
  g4 := by kernel_rfl }
end Go.Proofs
end
/- ref IsName. -/
section
namespace Go.Proofs.YtfckbkhnelgjbaaGreatDoor
open Go.ChangeShapes Go.WideShapes Go.ChangeAt Go.RowKit Go.Nm Go.Shelf Go.Lib
set_option linter.unusedVariables false
def alphaB : ByteArray := ⟨#[97, 98, 99, 100, 101, 102, 103, 104, 105, 106, 107, 108, 109, 110, 111, 112, 113, 114, 115, 116, 117, 118, 119, 120, 121, 122, 48, 49, 50, 51, 52, 53, 54, 55, 56, 57]⟩
theorem Trim_alpha (s : ByteArray) (hs : s.size ≤ 9223372036854775807) (w : World) : Calls Tryz.prog 99 #[.string s, .string ⟨#[97, 98, 99, 100, 101, 102, 103, 104, 105, 106, 107, 108, 109, 110, 111, 112, 113, 114, 115, 116, 117, 118, 119, 120, 121, 122, 48, 49, 50, 51, 52, 53, 54, 55, 56, 57]⟩] w fun e w' => e = .returned (.string ⟨(Lib.trimS s.data.toList alpha).toArray⟩) ∧ Below w.heap.size w w' :=
  Any.strings_Trim_laid Tryz.lays160 (by kernel_rfl) s alphaB w hs (by decide) (ascii_of_all (by decide))
set_option maxHeartbeats 1000000 in
theorem ref_IsName (s : ByteArray) (hs : s.size ≤ 9223372036854775807) (w : World) : Calls Tryz.prog 72 #[.string s] w fun e w' => e = .returned (.bool (nameB s.data.toList)) ∧ Below w.heap.size w w' := by
  obtain ⟨R, hR⟩ : ∃ R, R = nameB s.data.toList := ⟨_, rfl⟩
  rw [← hR]
  have HR := Lib.hid hR
  have HT := Lib.hid (Trim_alpha s hs)
  clear hR
  by_cases h0 : s.size = 0
  · have HF := Lib.hid (name_nil _ ((len_data s).trans h0))
    have e0 : s.toList = [] := by
      rw [Lib.toList_data]; exact List.eq_nil_of_length_eq_zero h0
    have e1 : s.toList.isEmpty = true := by rw [e0]; rfl
    go_enter Tryz.func72, Tryz.ntmps72
    go_wp2_with fail
    go_ret
    exact ⟨by rw [HR.out, HF.out]; rfl, Below.refl _ _⟩
  · have e0 : s.toList ≠ [] := by
      rw [Lib.toList_data]; intro h; have := congrArg List.length h; rw [len_data] at this; exact h0 this
    have e1 : s.toList.isEmpty = false := by simpa using e0
    have hpos : 0 < s.size := by omega
    by_cases h1 : 16 < s.size
    · have HF := Lib.hid (name_long _ (by rw [len_data]; exact h1))
      go_enter Tryz.func72, Tryz.ntmps72
      go_wp2_with fail
      go_ret
      exact ⟨by rw [HR.out, HF.out]; rfl, Below.refl _ _⟩
    · have h2 : s.size ≤ 16 := by omega
      clear h1
      obtain ⟨r, hr⟩ : ∃ r : ByteArray, r = ⟨(Lib.trimS s.data.toList alpha).toArray⟩ := ⟨_, rfl⟩
      have hrl : r.toList = Lib.trimS s.data.toList alpha := by rw [hr, Lib.toList_data]
      rw [← hr] at HT
      have HRL := Lib.hid hrl
      clear hr hrl
      by_cases h3 : Lib.trimS s.data.toList alpha = []
      · have r0 : r.toList = [] := by rw [HRL.out, h3]
        have r1 : r.toList.isEmpty = true := by rw [r0]; rfl
        have hn := name_ref s.data.toList (by rw [len_data]; exact hpos) (by rw [len_data]; exact h2) h3
        have hg : s.data.toList.getD 0 0 = s[0] := by
          rw [List.getD_eq_getElem?_getD, List.getElem?_eq_getElem hpos]; rfl
        rw [hg] at hn
        by_cases h4 : 57 < s[0].toNat
        · have HF := Lib.hid (hn.trans (decide_eq_true h4))
          have t4 : decide ((57 : Int) < (s[0].toNat : Int)) = true := decide_eq_true (by omega)
          clear hn hg h3
          go_enter Tryz.func72, Tryz.ntmps72
          go_wp2_with fail
          refine (HT.out _).mono ?_
          rintro e w1 ⟨rfl, hb1⟩
          go_wp2_with fail
          go_ret
          exact ⟨by rw [HR.out, HF.out]; rfl, hb1⟩
        · have HF := Lib.hid (hn.trans (decide_eq_false h4))
          have t4 : decide ((57 : Int) < (s[0].toNat : Int)) = false := decide_eq_false (by omega)
          clear hn hg h3
          go_enter Tryz.func72, Tryz.ntmps72
          go_wp2_with fail
          refine (HT.out _).mono ?_
          rintro e w1 ⟨rfl, hb1⟩
          go_wp2_with fail
          go_ret
          exact ⟨by rw [HR.out, HF.out]; rfl, hb1⟩
      · have HF := Lib.hid (name_trim s.data.toList h3)
        have r0 : r.toList ≠ [] := by rw [HRL.out]; exact h3
        have r1 : r.toList.isEmpty = false := by simpa using r0
        clear h3
        go_enter Tryz.func72, Tryz.ntmps72
        go_wp2_with fail
        refine (HT.out _).mono ?_
        rintro e w1 ⟨rfl, hb1⟩
        go_wp2_with fail
        go_ret
        exact ⟨by rw [HR.out, HF.out]; rfl, hb1⟩
end Go.Proofs.YtfckbkhnelgjbaaGreatDoor
end
/- kind.field, High, Near; ref FieldOK, Top, Nearest. -/
section
namespace Go.Proofs.YtfckbkhnelgjbaaGreatDoor
open Go.ChangeShapes Go.WideShapes Go.ChangeAt Go.RowKit Go.Nm
set_option linter.unusedVariables false
def fieldB (s : ByteArray) (b l : Int) : Bool := nameB s.data.toList && (decide (1 ≤ b) && (decide (b ≤ 32) && (decide (-4294967296 ≤ l) && decide (l ≤ 4294967296))))
theorem field_cases (s : ByteArray) (b l : Int) : (fieldB s b l = true ∧ nameB s.data.toList = true ∧ 1 ≤ b ∧ b ≤ 32 ∧ -4294967296 ≤ l ∧ l ≤ 4294967296) ∨
    (fieldB s b l = false ∧ (nameB s.data.toList = false ∨ (nameB s.data.toList = true ∧ b < 1) ∨ (nameB s.data.toList = true ∧ 1 ≤ b ∧ 32 < b) ∨ (nameB s.data.toList = true ∧ 1 ≤ b ∧ b ≤ 32 ∧ l < -4294967296) ∨ (nameB s.data.toList = true ∧ 1 ≤ b ∧ b ≤ 32 ∧ -4294967296 ≤ l ∧ 4294967296 < l))) := by
  unfold fieldB
  cases nameB s.data.toList
  · right; simp
  · by_cases h1 : 1 ≤ b
    · by_cases h2 : b ≤ 32
      · by_cases h3 : -4294967296 ≤ l
        · by_cases h4 : l ≤ 4294967296
          · left; simp [h1, h2, h3, h4]
          · right; simp [h1, h2, h3, h4]; omega
        · right; simp [h1, h2, h3]; omega
      · right; simp [h1, h2]; omega
    · right; simp [h1]; omega
set_option maxHeartbeats 1000000 in
theorem kind_field (s : ByteArray) (b l : Int) (hs : s.size ≤ 9223372036854775807) (w : World) : Calls Tryz.prog 87 #[.agg #[.string s, .int .i64 b, .int .i64 l]] w fun e w' => e = .returned (.int .i64 (if fieldB s b l = true then 0 else 3)) ∧ Below w.heap.size w w' := by
  have HS := Lib.hid hs
  clear hs
  rcases field_cases s b l with ⟨hf, hn, h1, h2, h3, h4⟩ | ⟨hf, hn | ⟨hn, h1⟩ | ⟨hn, h1, h2⟩ | ⟨hn, h1, h2, h3⟩ | ⟨hn, h1, h2, h3, h4⟩⟩
  all_goals
    rw [hf]
    have C := fun W => kind_Name s HS.out W
    rw [hn] at C
    have C := Lib.hid C
    clear hf hn
    go_enter Tryz.func87, Tryz.ntmps87
    go_wp2_with fail
    refine (C.out _).mono ?_
    rintro e w1 ⟨rfl, rfl⟩
    go_wp2_with fail
    go_ret
    exact ⟨rfl, (Below.refl _ _).alloc (Nat.le_refl _) _⟩
set_option maxHeartbeats 1000000 in
theorem ref_FieldOK (s : ByteArray) (b l : Int) (hs : s.size ≤ 9223372036854775807) (w : World) : Calls Tryz.prog 73 #[.agg #[.string s, .int .i64 b, .int .i64 l]] w fun e w' => e = .returned (.bool (fieldB s b l)) ∧ Below w.heap.size w w' := by
  have HS := Lib.hid hs
  clear hs
  rcases field_cases s b l with ⟨hf, hn, h1, h2, h3, h4⟩ | ⟨hf, hn | ⟨hn, h1⟩ | ⟨hn, h1, h2⟩ | ⟨hn, h1, h2, h3⟩ | ⟨hn, h1, h2, h3, h4⟩⟩
  all_goals
    rw [hf]
    have C := fun W => ref_IsName s HS.out W
    rw [hn] at C
    have C := Lib.hid C
    clear hf hn
    go_enter Tryz.func73, Tryz.ntmps73
    go_wp2_with fail
    refine (C.out _).mono ?_
    rintro e w1 ⟨rfl, hb1⟩
    have c1 : w1.cell? ⟨w.heap.size, 1, none⟩ = some (.int .i64 b) := by rw [hb1.cell (p := ⟨w.heap.size, 1, none⟩) (by simp)]; simp
    have c2 : w1.cell? ⟨w.heap.size, 2, none⟩ = some (.int .i64 l) := by rw [hb1.cell (p := ⟨w.heap.size, 2, none⟩) (by simp)]; simp
    go_wp2_with fail
    go_ret
    have hbb := ((Below.refl w.heap.size w).alloc (Nat.le_refl _) (.cells #[.string s, .int .i64 b, .int .i64 l] 99)).trans (hb1.mono (by simp))
    first
      | exact ⟨rfl, hbb⟩
      | exact ⟨congrArg (fun x => Ending.returned (Value.bool x)) (decide_eq_true (by omega)), hbb⟩
      | exact ⟨congrArg (fun x => Ending.returned (Value.bool x)) (decide_eq_false (by omega)), hbb⟩
end Go.Proofs.YtfckbkhnelgjbaaGreatDoor
end
/- Fields and kinds as they lie in memory; the errors of a kind, as the document has them. -/
section
namespace Go.Proofs.YtfckbkhnelgjbaaGreatDoor
open Go.RowKit Go.ChangeShapes Go.WideShapes Go.Deep Go.Mem Go.Nm
set_option linter.unusedVariables false
structure FieldV where
  name : ByteArray
  bits : Int
  low : Int
instance : Inhabited FieldV := ⟨⟨ByteArray.empty, 0, 0⟩⟩
structure KindV where
  name : ByteArray
  fields : List FieldV
instance : Inhabited KindV := ⟨⟨ByteArray.empty, []⟩⟩
def FieldAt (w : World) (p : Addr) (y : FieldV) : Prop := w.cell? p = some (.string y.name) ∧ w.cell? ⟨p.block, p.off + 1, none⟩ = some (.int .i64 y.bits) ∧ w.cell? ⟨p.block, p.off + 2, none⟩ = some (.int .i64 y.low) ∧ y.name.size ≤ 9223372036854775807
theorem FieldAt.abides : Abides FieldAt := fun w w' p y h hb => ⟨cell_abides h.1 hb, cell_abides h.2.1 hb, cell_abides h.2.2.1 hb, h.2.2.2⟩
def KindAt (w : World) (p : Addr) (y : KindV) : Prop := w.cell? p = some (.string y.name) ∧ y.name.size ≤ 9223372036854775807 ∧ ∃ a c, w.cell? ⟨p.block, p.off + 1, none⟩ = some (.slice a y.fields.length c) ∧ y.fields.length ≤ c ∧ c ≤ 9223372036854775807 ∧ SlAt 3 FieldAt w a y.fields
theorem KindAt.abides : Abides KindAt := fun w w' p y h hb => by
  obtain ⟨h1, h2, a, c, h3, h4, h5, h6⟩ := h
  exact ⟨cell_abides h1 hb, h2, a, c, cell_abides h3 hb, h4, h5, h6.below FieldAt.abides hb⟩
def costField (y : FieldV) : Nat := y.name.size + 1
def costKind (y : KindV) : Nat := y.name.size + (y.fields.map costField).sum + 1
section
variable {H : Type} {enc : TypeId × Value → H} {w : World} {base : Nat} {spare : Nat → Bool} {held : Bool}
theorem str_bulk (s : ByteArray) : Rows.uptoBulk (DataW.lit (H := H) (.string s.data.toList)) = s.size + 1 := by simp only [Rows.uptoBulk]; rfl
set_option maxRecDepth 100000 in
theorem read_field (fuel : Nat) (cs : List Value) (x : DataW H × List MemPlace) (p : Addr) (hl : cs.length = 3) (hc : ∀ j, j < 3 → w.cell? (p.add j) = cs[j]?) (ht : DataW.trod enc Tryz.prog w base spare held fuel 99 cs = some x) : ∃ y, FieldAt w p y ∧ costField y ≤ Rows.uptoBulk x.1 := by
  obtain ⟨xs, n, _, rfl, _, hxl, hf⟩ := DataW.trod_struct Tryz.underlying99 ht
  match cs, hl with
  | [v0, v1, v2], _ =>
    have g0 : DataW.trod enc Tryz.prog w base spare held n 9 (([v0, v1, v2].drop 0).take (Tryz.prog.cellsOf 9)) = xs[0]? := hf 0 _ rfl
    have g1 : DataW.trod enc Tryz.prog w base spare held n 3 (([v0, v1, v2].drop 1).take (Tryz.prog.cellsOf 3)) = xs[1]? := hf 1 _ rfl
    have g2 : DataW.trod enc Tryz.prog w base spare held n 3 (([v0, v1, v2].drop 2).take (Tryz.prog.cellsOf 3)) = xs[2]? := hf 2 _ rfl
    rw [show Tryz.prog.cellsOf 9 = 1 by kernel_rfl] at g0
    rw [show Tryz.prog.cellsOf 3 = 1 by kernel_rfl] at g1 g2
    match xs, hxl with
    | [y0, y1, y2], _ =>
      obtain ⟨s, e0, hx0, hs⟩ := DataW.trod_string Tryz.underlying9 (show DataW.trod enc Tryz.prog w base spare held n 9 [v0] = some y0 from g0)
      obtain ⟨z1, e1, _, _⟩ := DataW.trod_int Tryz.underlying3 (show DataW.trod enc Tryz.prog w base spare held n 3 [v1] = some y1 from g1)
      obtain ⟨z2, e2, _, _⟩ := DataW.trod_int Tryz.underlying3 (show DataW.trod enc Tryz.prog w base spare held n 3 [v2] = some y2 from g2)
      injection e0 with e0; injection e1 with e1; injection e2 with e2
      subst e0 e1 e2
      have c0 := hc 0 (by decide)
      have c1 := hc 1 (by decide)
      have c2 := hc 2 (by decide)
      unfold maxLen at hs
      have hb : Rows.uptoBulk y0.1 + 1 ≤ Rows.uptoBulk (.agg ([y0, y1, y2].map (·.1))) := agg_bulk (xs := [y0, y1, y2]) (i := 0) (y := y0) rfl
      have he : Rows.uptoBulk y0.1 = s.size + 1 := by rw [hx0]; exact str_bulk s
      exact ⟨⟨s, z1, z2⟩, ⟨by simpa [Addr.add] using c0, by simpa [Addr.add] using c1, by simpa [Addr.add] using c2, by simp only; omega⟩, by unfold costField; simp only at hb ⊢; omega⟩
set_option maxRecDepth 100000 in
theorem read_fields {fuel : Nat} {cs : List Value} {x : DataW H × List MemPlace} (h : DataW.trod enc Tryz.prog w base spare held fuel 84 cs = some x) :
    ∃ (a : Option Addr) (l : List FieldV) (cap : Nat), cs = [.slice a l.length cap] ∧ l.length ≤ cap ∧ cap ≤ maxLen ∧ SlAt 3 FieldAt w a l ∧ (l.map costField).sum + 1 ≤ Rows.uptoBulk x.1 :=
  read_slice Tryz.underlying84 (by kernel_rfl) (by decide) read_field h
set_option maxRecDepth 100000 in
theorem read_kind (fuel : Nat) (cs : List Value) (x : DataW H × List MemPlace) (p : Addr) (hl : cs.length = 2) (hc : ∀ j, j < 2 → w.cell? (p.add j) = cs[j]?) (ht : DataW.trod enc Tryz.prog w base spare held fuel 86 cs = some x) : ∃ y, KindAt w p y ∧ costKind y ≤ Rows.uptoBulk x.1 := by
  obtain ⟨xs, n, _, rfl, _, hxl, hf⟩ := DataW.trod_struct Tryz.underlying86 ht
  match cs, hl with
  | [v0, v1], _ =>
    have g0 : DataW.trod enc Tryz.prog w base spare held n 9 (([v0, v1].drop 0).take (Tryz.prog.cellsOf 9)) = xs[0]? := hf 0 _ rfl
    have g1 : DataW.trod enc Tryz.prog w base spare held n 84 (([v0, v1].drop 1).take (Tryz.prog.cellsOf 84)) = xs[1]? := hf 1 _ rfl
    rw [show Tryz.prog.cellsOf 9 = 1 by kernel_rfl] at g0
    rw [show Tryz.prog.cellsOf 84 = 1 by kernel_rfl] at g1
    match xs, hxl with
    | [y0, y1], _ =>
      obtain ⟨s, e0, hx0, hs⟩ := DataW.trod_string Tryz.underlying9 (show DataW.trod enc Tryz.prog w base spare held n 9 [v0] = some y0 from g0)
      obtain ⟨a, l, cap, e1, q1, q2, q3, q4⟩ := read_fields (show DataW.trod enc Tryz.prog w base spare held n 84 [v1] = some y1 from g1)
      injection e0 with e0; injection e1 with e1
      subst e0 e1
      have c0 := hc 0 (by decide)
      have c1 := hc 1 (by decide)
      unfold maxLen at hs q2
      have hb : Rows.uptoBulk y0.1 + (Rows.uptoBulk y1.1 + 1) ≤ Rows.uptoBulk (.agg ([y0, y1].map (·.1))) := by
        simp only [List.map_cons, List.map_nil, Rows.uptoBulk, Rows.uptoBulkAll]; omega
      have he : Rows.uptoBulk y0.1 = s.size + 1 := by rw [hx0]; exact str_bulk s
      exact ⟨⟨s, l⟩, ⟨by simpa [Addr.add] using c0, by simp only; omega, a, cap, by simpa [Addr.add] using c1, q1, by omega, q3⟩, by unfold costKind; simp only at hb ⊢; omega⟩
set_option maxRecDepth 100000 in
theorem read_kinds {fuel : Nat} {cs : List Value} {x : DataW H × List MemPlace} (h : DataW.trod enc Tryz.prog w base spare held fuel 22 cs = some x) :
    ∃ (a : Option Addr) (l : List KindV) (cap : Nat), cs = [.slice a l.length cap] ∧ l.length ≤ cap ∧ cap ≤ maxLen ∧ SlAt 2 KindAt w a l ∧ (l.map costKind).sum + 1 ≤ Rows.uptoBulk x.1 :=
  read_slice Tryz.underlying22 (by kernel_rfl) (by decide) read_kind h
end
/-- is one of the first i names the one of place i? -/
def okF (f : FieldV) : Bool := fieldB f.name f.bits f.low
def dupAt (names : List ByteArray) (i : Nat) : Bool := (names.take i).any fun s => s.toList == (names.getD i ByteArray.empty).toList
/-- the error of the first k fields -/
def fldErr (l : List FieldV) : Nat → Int
  | 0 => 0
  | k + 1 => if fldErr l k ≠ 0 then fldErr l k else if okF (l.getD k default) = false then 3 else if dupAt (l.map (·.name)) k = true then 5 else 0
def kindE (k : KindV) : Int := if nameB k.name.data.toList = false then 3 else if 8 < k.fields.length then 2 else fldErr k.fields k.fields.length
def kndErr (l : List KindV) : Nat → Int
  | 0 => 0
  | k + 1 => if kndErr l k ≠ 0 then kndErr l k else if kindE (l.getD k default) ≠ 0 then kindE (l.getD k default) else if dupAt (l.map (·.name)) k = true then 5 else 0
def kindsE (l : List KindV) : Int := if 16 < l.length then 2 else kndErr l l.length
/-- an error stays -/
theorem fldErr_stays (l : List FieldV) (k m : Nat) (h : k ≤ m) (h0 : fldErr l k ≠ 0) : fldErr l m = fldErr l k := by
  induction m with
  | zero => obtain rfl : k = 0 := by omega
            rfl
  | succ m ih =>
    by_cases hk : k = m + 1
    · rw [hk]
    · have := ih (by omega)
      show (if fldErr l m ≠ 0 then _ else _) = _
      rw [if_pos (by rw [this]; exact h0), this]
theorem kndErr_stays (l : List KindV) (k m : Nat) (h : k ≤ m) (h0 : kndErr l k ≠ 0) : kndErr l m = kndErr l k := by
  induction m with
  | zero => obtain rfl : k = 0 := by omega
            rfl
  | succ m ih =>
    by_cases hk : k = m + 1
    · rw [hk]
    · have := ih (by omega)
      show (if kndErr l m ≠ 0 then _ else _) = _
      rw [if_pos (by rw [this]; exact h0), this]
end Go.Proofs.YtfckbkhnelgjbaaGreatDoor
end
/- Components as they lie in memory. -/
section
namespace Go.Proofs.YtfckbkhnelgjbaaGreatDoor
open Go.RowKit Go.ChangeShapes Go.WideShapes Go.Deep Go.Mem
set_option linter.unusedVariables false
structure CompV where
  kind : Int
  vals : List Int
  deriving Inhabited, DecidableEq
/-- a component at an address: its cells, and its numbers -/
def CompAt (w : World) (p : Addr) (y : CompV) : Prop := w.cell? p = some (.int .i64 y.kind) ∧ ∃ a c, w.cell? ⟨p.block, p.off + 1, none⟩ = some (.slice a y.vals.length c) ∧ IntsAt .i64 w a y.vals
theorem CompAt.abides : Abides CompAt := fun w w' p y h hb => by
  obtain ⟨h1, a, c, h2, h3⟩ := h
  exact ⟨cell_abides h1 hb, a, c, cell_abides h2 hb, h3.below hb⟩
def costComp (y : CompV) : Nat := y.vals.length + 1
section
variable {H : Type} {enc : TypeId × Value → H} {w : World} {base : Nat} {spare : Nat → Bool} {held : Bool}
theorem int_cost : ∀ l : List Int, (l.map fun _ => 1).sum = l.length := fun l => by induction l with | nil => rfl | cons a l ih => simp [ih]; omega
/-- a slice of ints, as a list and a bulk -/
theorem read_ints {fuel : Nat} {cs : List Value} {x : DataW H × List MemPlace} (h : DataW.trod enc Tryz.prog w base spare held fuel 23 cs = some x) :
    ∃ (a : Option Addr) (l : List Int) (cap : Nat), cs = [.slice a l.length cap] ∧ l.length ≤ cap ∧ cap ≤ maxLen ∧ IntsAt .i64 w a l ∧ l.length + 1 ≤ Rows.uptoBulk x.1 := by
  obtain ⟨a, l, cap, h1, h2, h3, h4, h5⟩ := read_slice (E := fun w p (z : Int) => w.cell? p = some (.int .i64 z)) (cost := fun _ => 1) Tryz.underlying23 (show Tryz.prog.cellsOf 3 = 1 by kernel_rfl) (by decide) (fun fuel cs x p hl hc ht => by
    obtain ⟨z, rfl, rfl, _⟩ := DataW.trod_int Tryz.underlying3 ht
    refine ⟨z, by have := hc 0 (by decide); simpa [Addr.add] using this, by simp [Rows.uptoBulk]⟩) h
  refine ⟨a, l, cap, h1, h2, h3, ?_, by rw [int_cost] at h5; exact h5⟩
  intro h0
  obtain ⟨x, e, hx, hi⟩ := h4 h0
  refine ⟨x, e, hx, fun i hi' => ?_⟩
  have := hi i hi'
  rw [Nat.mul_one] at this
  rw [this, List.getD_eq_getElem?_getD, List.getElem?_eq_getElem hi']; rfl
set_option maxRecDepth 100000 in
theorem read_comp (fuel : Nat) (cs : List Value) (x : DataW H × List MemPlace) (p : Addr) (hl : cs.length = 2) (hc : ∀ j, j < 2 → w.cell? (p.add j) = cs[j]?) (ht : DataW.trod enc Tryz.prog w base spare held fuel 42 cs = some x) : ∃ y, CompAt w p y ∧ costComp y ≤ Rows.uptoBulk x.1 := by
  obtain ⟨xs, n, _, rfl, _, hxl, hf⟩ := DataW.trod_struct Tryz.underlying42 ht
  match cs, hl with
  | [v0, v1], _ =>
    have g0 : DataW.trod enc Tryz.prog w base spare held n 3 (([v0, v1].drop 0).take (Tryz.prog.cellsOf 3)) = xs[0]? := hf 0 _ rfl
    have g1 : DataW.trod enc Tryz.prog w base spare held n 23 (([v0, v1].drop 1).take (Tryz.prog.cellsOf 23)) = xs[1]? := hf 1 _ rfl
    rw [show Tryz.prog.cellsOf 3 = 1 by kernel_rfl] at g0
    rw [show Tryz.prog.cellsOf 23 = 1 by kernel_rfl] at g1
    match xs, hxl with
    | [y0, y1], _ =>
      obtain ⟨z, e0, _, _⟩ := DataW.trod_int Tryz.underlying3 (show DataW.trod enc Tryz.prog w base spare held n 3 [v0] = some y0 from g0)
      obtain ⟨a, l, cap, e1, _, _, h4, h5⟩ := read_ints (show DataW.trod enc Tryz.prog w base spare held n 23 [v1] = some y1 from g1)
      injection e0 with e0; injection e1 with e1
      subst e0 e1
      have c0 := hc 0 (by decide)
      have c1 := hc 1 (by decide)
      have hb : Rows.uptoBulk y1.1 + 1 ≤ Rows.uptoBulk (.agg ([y0, y1].map (·.1))) := agg_bulk (xs := [y0, y1]) (i := 1) (y := y1) rfl
      exact ⟨⟨z, l⟩, ⟨by simpa [Addr.add] using c0, a, cap, by simpa [Addr.add] using c1, h4⟩, by unfold costComp; simp only at hb ⊢; omega⟩
set_option maxRecDepth 100000 in
theorem read_comps {fuel : Nat} {cs : List Value} {x : DataW H × List MemPlace} (h : DataW.trod enc Tryz.prog w base spare held fuel 27 cs = some x) :
    ∃ (a : Option Addr) (l : List CompV) (cap : Nat), cs = [.slice a l.length cap] ∧ l.length ≤ cap ∧ cap ≤ maxLen ∧ SlAt 2 CompAt w a l ∧ (l.map costComp).sum + 1 ≤ Rows.uptoBulk x.1 :=
  read_slice Tryz.underlying27 (by kernel_rfl) (by decide) read_comp h
end
end Go.Proofs.YtfckbkhnelgjbaaGreatDoor
end
/- Items as they lie in memory. -/
section
namespace Go.Proofs.YtfckbkhnelgjbaaGreatDoor
open Go.RowKit Go.ChangeShapes Go.WideShapes Go.Deep Go.Mem
set_option linter.unusedVariables false
structure ItemV where
  n : Int
  gen : Int
  comps : List CompV
  deriving Inhabited, DecidableEq
def ItemAt (w : World) (p : Addr) (y : ItemV) : Prop := w.cell? p = some (.int .i64 y.n) ∧ w.cell? ⟨p.block, p.off + 1, none⟩ = some (.int .i64 y.gen) ∧
  ∃ a c, w.cell? ⟨p.block, p.off + 2, none⟩ = some (.slice a y.comps.length c) ∧ SlAt 2 CompAt w a y.comps
theorem ItemAt.abides : Abides ItemAt := fun w w' p y h hb => by
  obtain ⟨h1, h2, a, c, h5, h6⟩ := h
  exact ⟨cell_abides h1 hb, cell_abides h2 hb, a, c, cell_abides h5 hb, h6.below CompAt.abides hb⟩
def costItem (y : ItemV) : Nat := (y.comps.map costComp).sum + 1
section
variable {H : Type} {enc : TypeId × Value → H} {w : World} {base : Nat} {spare : Nat → Bool} {held : Bool}
set_option maxRecDepth 100000 in
theorem read_item (fuel : Nat) (cs : List Value) (x : DataW H × List MemPlace) (p : Addr) (hl : cs.length = 3) (hc : ∀ j, j < 3 → w.cell? (p.add j) = cs[j]?) (ht : DataW.trod enc Tryz.prog w base spare held fuel 61 cs = some x) : ∃ y, ItemAt w p y ∧ costItem y ≤ Rows.uptoBulk x.1 := by
  obtain ⟨xs, n, _, rfl, _, hxl, hf⟩ := DataW.trod_struct Tryz.underlying61 ht
  match cs, hl with
  | [v1, v2, v4], _ =>
    have g1 : DataW.trod enc Tryz.prog w base spare held n 29 (([v1, v2, v4].drop 0).take (Tryz.prog.cellsOf 29)) = xs[0]? := hf 0 _ rfl
    have g3 : DataW.trod enc Tryz.prog w base spare held n 27 (([v1, v2, v4].drop 2).take (Tryz.prog.cellsOf 27)) = xs[1]? := hf 1 _ rfl
    rw [show Tryz.prog.cellsOf 29 = 2 by kernel_rfl] at g1
    rw [show Tryz.prog.cellsOf 27 = 1 by kernel_rfl] at g3
    match xs, hxl with
    | [y1, y3], _ =>
      obtain ⟨us, m, _, _, _, hul, hu⟩ := DataW.trod_struct Tryz.underlying29 (show DataW.trod enc Tryz.prog w base spare held n 29 [v1, v2] = some y1 from g1)
      have u0 : DataW.trod enc Tryz.prog w base spare held m 3 (([v1, v2].drop 0).take (Tryz.prog.cellsOf 3)) = us[0]? := hu 0 _ rfl
      have u1 : DataW.trod enc Tryz.prog w base spare held m 3 (([v1, v2].drop 1).take (Tryz.prog.cellsOf 3)) = us[1]? := hu 1 _ rfl
      rw [show Tryz.prog.cellsOf 3 = 1 by kernel_rfl] at u0 u1
      match us, hul with
      | [q0, q1], _ =>
        obtain ⟨n0, f0, _, _⟩ := DataW.trod_int Tryz.underlying3 (show DataW.trod enc Tryz.prog w base spare held m 3 [v1] = some q0 from u0)
        obtain ⟨n1, f1, _, _⟩ := DataW.trod_int Tryz.underlying3 (show DataW.trod enc Tryz.prog w base spare held m 3 [v2] = some q1 from u1)
        obtain ⟨a, l, cap, e3, _, _, h4, h5⟩ := read_comps (show DataW.trod enc Tryz.prog w base spare held n 27 [v4] = some y3 from g3)
        injection e3 with e3; injection f0 with f0; injection f1 with f1
        subst e3 f0 f1
        have c0 := hc 0 (by decide)
        have c1 := hc 1 (by decide)
        have c2 := hc 2 (by decide)
        have hb : Rows.uptoBulk y3.1 + 1 ≤ Rows.uptoBulk (.agg ([y1, y3].map (·.1))) := agg_bulk (xs := [y1, y3]) (i := 1) (y := y3) rfl
        exact ⟨⟨n0, n1, l⟩, ⟨by simpa [Addr.add] using c0, by simpa [Addr.add] using c1, a, cap, by simpa [Addr.add] using c2, h4⟩, by unfold costItem; simp only at hb ⊢; omega⟩
set_option maxRecDepth 100000 in
theorem read_items {fuel : Nat} {cs : List Value} {x : DataW H × List MemPlace} (h : DataW.trod enc Tryz.prog w base spare held fuel 24 cs = some x) :
    ∃ (a : Option Addr) (l : List ItemV) (cap : Nat), cs = [.slice a l.length cap] ∧ l.length ≤ cap ∧ cap ≤ maxLen ∧ SlAt 3 ItemAt w a l ∧ (l.map costItem).sum + 1 ≤ Rows.uptoBulk x.1 :=
  read_slice Tryz.underlying24 (by kernel_rfl) (by decide) read_item h
end
end Go.Proofs.YtfckbkhnelgjbaaGreatDoor
end
