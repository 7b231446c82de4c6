/- slices.IndexFunc at fields and kinds, with the law's two closures. -/
import Derived.Test.YtenfegdhbbdinaaDoorKindOne
import Derived.Deep.LoopGhost
namespace Go.Proofs.YtenfegdhbbdinaaDoor
open Go.ChangeShapes Go.WideShapes Go.ChangeAt Go.RowKit Go.Nm Go.Mem
set_option linter.unusedVariables false

set_option maxHeartbeats 4000000 in
theorem clos_flds (y : FieldV) (s : ByteArray) (B : Nat) (W : World) (hs : W.cell? ⟨B, 0, none⟩ = some (.string s)) :
    Calls Tryd.prog 20 #[.agg #[.string y.name, .int .i64 y.bits, .int .i64 y.low], .pointer (some ⟨B, 0, none⟩)] W fun e w' => e = .returned (.bool (y.name.toList == s.toList)) ∧ Below W.heap.size W w' := by
  have hb0 := (Below.refl W.heap.size W).alloc (Nat.le_refl _) (.cells #[.string y.name, .int .i64 y.bits, .int .i64 y.low] 39)
  have hs1 := cell_abides hs hb0
  have HB0 := Lib.hid hb0
  obtain ⟨r, hr⟩ : ∃ r, r = (y.name.toList == s.toList) := ⟨_, rfl⟩
  have hr' := hr.symm
  have HR := Lib.hid hr
  clear hr hs hb0
  go_enter Tryd.func20, Tryd.ntmps20
  cases r
  · go_wp2_with fail
    go_ret
    exact ⟨by rw [← HR.out]; rfl, HB0.out⟩
  · go_wp2_with fail
    go_ret
    exact ⟨by rw [← HR.out]; rfl, HB0.out⟩
set_option maxHeartbeats 4000000 in
theorem idx_flds (l : List FieldV) (a : Option Addr) (n cap : Nat) (s : ByteArray) (B : Nat) (hn : l.length = n) (h1 : n ≤ 17592186044000) (W : World) (hz : SlAt 3 FieldAt W a l) (hs : W.cell? ⟨B, 0, none⟩ = some (.string s)) :
    Calls Tryd.prog 19 #[.slice a n cap, .func (.func 20) #[] #[.pointer (some ⟨B, 0, none⟩)]] W fun e w' => e = .returned (.int .i64 (firstAt (l.map (·.name)) s 0)) ∧ Below W.heap.size W w' := by
  obtain ⟨R, hR⟩ : ∃ R, R = firstAt (l.map (·.name)) s 0 := ⟨_, rfl⟩
  rw [← hR]
  have HR := Lib.hid hR
  have HN := Lib.hid hn
  have HZ := Lib.hid hz
  have HS := Lib.hid hs
  clear hR hn hz hs
  go_enter Tryd.func19, Tryd.ntmps19
  go_wp2_with fail
  go_loopg [5, 8] n (fun gk v5 vi wx => ∃ i : Nat, i ≤ n ∧ gk = n - i ∧ vi = .int .i64 i ∧ (∀ j (h : j < l.length), j < i → (l[j].name.toList == s.toList) = false) ∧ Below W.heap.size W wx)
  case atStart => exact ⟨0, Nat.zero_le _, rfl, rfl, fun j h h2 => absurd h2 (by omega), Below.refl _ _⟩
  case round =>
    obtain ⟨i, hi, g2, rfl, hat, hb⟩ := hrel
    have G2 := Lib.hid g2
    have HAT := Lib.hid hat
    have HB := Lib.hid hb
    have hbs := hb.size
    clear g2 hat hb
    by_cases hlt : i < n
    · obtain ⟨x, rfl, hx, hix⟩ := (HZ.out.below FieldAt.abides HB.out) (by rw [HN.out]; omega)
      obtain ⟨k0, k1, k2, k3⟩ := hix i (by rw [HN.out]; exact hlt)
      obtain ⟨y, hy⟩ : ∃ y, y = l[i]'(by rw [HN.out]; exact hlt) := ⟨_, rfl⟩
      rw [← hy] at k0 k1 k2
      have hs2 := cell_abides HS.out HB.out
      have HC := Lib.hid (clos_flds y s B wr hs2)
      have HY := Lib.hid hy
      clear hix hy hs2
      obtain ⟨r, hr⟩ : ∃ r, r = (y.name.toList == s.toList) := ⟨_, rfl⟩
      rw [← hr] at HC
      have HR2 := Lib.hid hr
      clear hr
      go_wp2_with fail
      refine HC.out.mono ?_
      rintro e w1 ⟨rfl, hb1⟩
      have HB2 := Lib.hid (HB.out.trans (hb1.mono hbs))
      clear hb1 HC
      cases r
      · have HE := Lib.hid HR2.out.symm
        go_wp2_with fail
        go_roundg (n - (i + 1))
        case measure => rw [G2.out]; omega
        case rel => exact ⟨i + 1, hlt, rfl, by go_num, fun j h hj => by
          by_cases hji : j < i
          · exact HAT.out j h hji
          · obtain rfl : j = i := by omega
            rw [← HY.out]; exact HE.out, HB2.out⟩
      · have HF := Lib.hid (show R = (i : Int) by
          rw [HR.out]
          have := firstAt_some (l.map (·.name)) s 0 i (by rw [List.length_map, HN.out]; exact hlt) (fun j hj hji => by simpa using HAT.out j (by simpa using hj) hji) (by rw [List.getElem_map, ← HY.out]; exact HR2.out.symm)
          rw [this]; simp)
        go_wp2_with fail
        go_ret
        exact ⟨by rw [HF.out]; rfl, HB2.out⟩
    · have HF := Lib.hid (show R = -1 by
        rw [HR.out]
        exact firstAt_none _ _ _ fun j hj => by simpa using HAT.out j (by simpa using hj) (by have h2 : j < l.length := (by simpa using hj); rw [HN.out] at h2; omega))
      go_wp2_with fail
      go_ret
      exact ⟨by rw [HF.out]; rfl, HB.out⟩

set_option maxHeartbeats 4000000 in
theorem clos_kinds (y : KindV) (s : ByteArray) (ay : Option Addr) (f cy : Nat) (B : Nat) (W : World) (hs : W.cell? ⟨B, 0, none⟩ = some (.string s)) :
    Calls Tryd.prog 18 #[.agg #[.string y.name, .slice ay f cy], .pointer (some ⟨B, 0, none⟩)] W fun e w' => e = .returned (.bool (y.name.toList == s.toList)) ∧ Below W.heap.size W w' := by
  have hb0 := (Below.refl W.heap.size W).alloc (Nat.le_refl _) (.cells #[.string y.name, .slice ay f cy] 25)
  have hs1 := cell_abides hs hb0
  have HB0 := Lib.hid hb0
  obtain ⟨r, hr⟩ : ∃ r, r = (y.name.toList == s.toList) := ⟨_, rfl⟩
  have hr' := hr.symm
  have HR := Lib.hid hr
  clear hr hs hb0
  go_enter Tryd.func18, Tryd.ntmps18
  cases r
  · go_wp2_with fail
    go_ret
    exact ⟨by rw [← HR.out]; rfl, HB0.out⟩
  · go_wp2_with fail
    go_ret
    exact ⟨by rw [← HR.out]; rfl, HB0.out⟩
set_option maxHeartbeats 4000000 in
theorem idx_kinds (l : List KindV) (a : Option Addr) (n cap : Nat) (s : ByteArray) (B : Nat) (hn : l.length = n) (h1 : n ≤ 17592186044000) (W : World) (hz : SlAt 2 KindAt W a l) (hs : W.cell? ⟨B, 0, none⟩ = some (.string s)) :
    Calls Tryd.prog 22 #[.slice a n cap, .func (.func 18) #[] #[.pointer (some ⟨B, 0, none⟩)]] W fun e w' => e = .returned (.int .i64 (firstAt (l.map (·.name)) s 0)) ∧ Below W.heap.size W w' := by
  obtain ⟨R, hR⟩ : ∃ R, R = firstAt (l.map (·.name)) s 0 := ⟨_, rfl⟩
  rw [← hR]
  have HR := Lib.hid hR
  have HN := Lib.hid hn
  have HZ := Lib.hid hz
  have HS := Lib.hid hs
  clear hR hn hz hs
  go_enter Tryd.func22, Tryd.ntmps22
  go_wp2_with fail
  go_loopg [5, 8] n (fun gk v5 vi wx => ∃ i : Nat, i ≤ n ∧ gk = n - i ∧ vi = .int .i64 i ∧ (∀ j (h : j < l.length), j < i → (l[j].name.toList == s.toList) = false) ∧ Below W.heap.size W wx)
  case atStart => exact ⟨0, Nat.zero_le _, rfl, rfl, fun j h h2 => absurd h2 (by omega), Below.refl _ _⟩
  case round =>
    obtain ⟨i, hi, g2, rfl, hat, hb⟩ := hrel
    have G2 := Lib.hid g2
    have HAT := Lib.hid hat
    have HB := Lib.hid hb
    have hbs := hb.size
    clear g2 hat hb
    by_cases hlt : i < n
    · obtain ⟨x, rfl, hx, hix⟩ := (HZ.out.below KindAt.abides HB.out) (by rw [HN.out]; omega)
      obtain ⟨k0, kn, ay, cy, k1, k2, k3, _⟩ := hix i (by rw [HN.out]; exact hlt)
      obtain ⟨y, hy⟩ : ∃ y, y = l[i]'(by rw [HN.out]; exact hlt) := ⟨_, rfl⟩
      rw [← hy] at k0 k1
      have hs2 := cell_abides HS.out HB.out
      have HC := Lib.hid (clos_kinds y s ay y.fields.length cy B wr hs2)
      have HY := Lib.hid hy
      clear hix hy hs2
      obtain ⟨r, hr⟩ : ∃ r, r = (y.name.toList == s.toList) := ⟨_, rfl⟩
      rw [← hr] at HC
      have HR2 := Lib.hid hr
      clear hr
      go_wp2_with fail
      refine HC.out.mono ?_
      rintro e w1 ⟨rfl, hb1⟩
      have HB2 := Lib.hid (HB.out.trans (hb1.mono hbs))
      clear hb1 HC
      cases r
      · have HE := Lib.hid HR2.out.symm
        go_wp2_with fail
        go_roundg (n - (i + 1))
        case measure => rw [G2.out]; omega
        case rel => exact ⟨i + 1, hlt, rfl, by go_num, fun j h hj => by
          by_cases hji : j < i
          · exact HAT.out j h hji
          · obtain rfl : j = i := by omega
            rw [← HY.out]; exact HE.out, HB2.out⟩
      · have HF := Lib.hid (show R = (i : Int) by
          rw [HR.out]
          have := firstAt_some (l.map (·.name)) s 0 i (by rw [List.length_map, HN.out]; exact hlt) (fun j hj hji => by simpa using HAT.out j (by simpa using hj) hji) (by rw [List.getElem_map, ← HY.out]; exact HR2.out.symm)
          rw [this]; simp)
        go_wp2_with fail
        go_ret
        exact ⟨by rw [HF.out]; rfl, HB2.out⟩
    · have HF := Lib.hid (show R = -1 by
        rw [HR.out]
        exact firstAt_none _ _ _ fun j hj => by simpa using HAT.out j (by simpa using hj) (by have h2 : j < l.length := (by simpa using hj); rw [HN.out] at h2; omega))
      go_wp2_with fail
      go_ret
      exact ⟨by rw [HF.out]; rfl, HB.out⟩
end Go.Proofs.YtenfegdhbbdinaaDoor
