/- Lemmas for the law MigrateBack: MoveEq, RefWhere, MapInt, RefUndo. No conditions. -/
import Derived.Test.YtijeninfmjhbnaaDoorM07
import Derived.Test.YtijeninfmjhbnaaDoorM16
import Derived.Test.YtijeninfmjhbnaaDoorM08
import Derived.Deep.LoopGhost
import Derived.Maps.OwnSet
import Derived.Maps.OwnOps
import Derived.Maps.Views
import Derived.WideKeyArgs2
import Derived.Maps.Range
import Derived.Carry
import Derived.Test.YtijeninfmjhbnaaDoorM01
import Derived.Test.YtijeninfmjhbnaaDoorM10
/- tourref3.SameMove at a move that undoes another one, held against itself; slices.EqualFunc at two such lists; tourlaw3.drop. -/
section
namespace Go.Proofs.YtijeninfmjhbnaaDoor
open Go.ChangeShapes Go.WideShapes Go.ChangeAt Go.RowKit Go.Nm Go.Mem
set_option linter.unusedVariables false
def ZMv (w : World) (p : Addr) (y : MoveV) : Prop := p.spot = none ∧ ∀ j (v : Value), (zcell y)[j]? = some v → w.cell? ⟨p.block, p.off + j, none⟩ = some v
theorem ZMv.abides : Abides ZMv := fun w w' p y h hb => ⟨h.1, fun j v hv => cell_abides (h.2 j v hv) hb⟩
theorem z_of_own {w : World} {B n : Nat} {v : Value} {L : List MoveV} (h : w.ownsRow B 45 10 v n (zcells L)) (hn : L.length = n) : ∃ a c, v = .slice a n c ∧ n ≤ c ∧ c ≤ 9223372036854775807 ∧ SlAt 10 ZMv w a L := by
  subst hn
  obtain ⟨_, ⟨hv, h0⟩ | ⟨g, cap, cur, hv, hb, hg, hc1, hc2, hc3, hc4⟩⟩ := h
  · exact ⟨none, 0, by rw [hv, h0], by omega, by omega, fun h => by omega⟩
  · refine ⟨some ⟨g, 0, none⟩, cap, hv, hc1, by unfold maxLen at hc2; omega, fun _ => ⟨_, rfl, lt_of_heap hg, fun i hi => ?_⟩⟩
    rw [add_zero_block]
    refine ⟨rfl, fun j u hu => ?_⟩
    have hj : j < 10 := by have := (List.getElem?_eq_some_iff.1 hu).1; rwa [zcell_len] at this
    have hz := zcells_get L i hi j hj
    rw [hu] at hz
    show w.cell? ⟨g, i * 10 + j, none⟩ = some u
    rw [cell_of_row _ _ _ _ _ _ hg]
    rw [← hc4, List.getElem?_take, if_pos (by omega)] at hz
    simpa using hz
set_option maxRecDepth 100000 in
set_option maxHeartbeats 4000000 in
theorem same_move (d : Int) (k f n : ByteArray) (b l : Int) (W : World) :
    Calls Tryd.prog 15 #[.agg #[.int .i64 d, .string k, .string f, .string n, .int .i64 0, .string (⟨#[]⟩ : ByteArray), .int .i64 b, .int .i64 l, .string (⟨#[]⟩ : ByteArray), .slice none 0 0], .agg #[.int .i64 d, .string k, .string f, .string n, .int .i64 0, .string (⟨#[]⟩ : ByteArray), .int .i64 b, .int .i64 l, .string (⟨#[]⟩ : ByteArray), .slice none 0 0]] W fun e w' => e = .returned (.bool true) ∧ Below W.heap.size W w' := by
  have t1 : (k.toList == k.toList) = true := beq_self_eq_true _
  have t2 : (f.toList == f.toList) = true := beq_self_eq_true _
  have t3 : (n.toList == n.toList) = true := beq_self_eq_true _
  have hb0 := ((Below.refl W.heap.size W).alloc (Nat.le_refl _) (.cells #[.int .i64 d, .string k, .string f, .string n, .int .i64 0, .string (⟨#[]⟩ : ByteArray), .int .i64 b, .int .i64 l, .string (⟨#[]⟩ : ByteArray), .slice none 0 0] 45)).alloc (by simp) (.cells #[.int .i64 d, .string k, .string f, .string n, .int .i64 0, .string (⟨#[]⟩ : ByteArray), .int .i64 b, .int .i64 l, .string (⟨#[]⟩ : ByteArray), .slice none 0 0] 45)
  have HB0 := Lib.hid hb0
  have HC := Lib.hid (fun w => same_kind ⟨(⟨#[]⟩ : ByteArray), []⟩ none none 0 0 0 rfl (by decide) w (fun h => absurd h (by decide)) (fun h => absurd h (by decide)))
  have feq := fun w => fld_eql (⟨#[]⟩ : ByteArray) b l w
  have fg := fun x y w => fld_guard_eql x y (⟨#[]⟩ : ByteArray) b l w
  clear hb0
  go_enter Tryd.func15, Tryd.ntmps15
  go_wp2_with fail
  refine (HC.out _).mono ?_
  rintro e w1 ⟨rfl, hb1⟩
  have HB1 := Lib.hid (HB0.out.trans (hb1.mono (by simp; omega)))
  clear hb1
  go_wp2_with fail
  go_ret
  exact ⟨rfl, HB1.out⟩
set_option maxHeartbeats 4000000 in
theorem eqf_moves (l : List MoveV) (a b : Option Addr) (n ca cb : Nat) (hn : l.length = n) (h1 : n ≤ 1048576) (W : World) (hz : SlAt 10 ZMv W a l) (hy : SlAt 10 ZMv W b l) :
    Calls Tryd.prog 14 #[.slice a n ca, .slice b n cb, .func (.func 15) #[] #[]] W fun e w' => e = .returned (.bool true) ∧ Below W.heap.size W w' := by
  have HN := Lib.hid hn
  have HZ := Lib.hid hz
  have HY := Lib.hid hy
  clear hn hz hy
  have t0 : ((n : Int) != (n : Int)) = false := by simp
  go_enter Tryd.func14, Tryd.ntmps14
  go_wp2_with fail
  go_loopg [7, 8, 9, 17] n (fun gk v7 v8 v9 vi wx => ∃ i : Nat, i ≤ n ∧ gk = n - i ∧ vi = .int .i64 i ∧ Below W.heap.size W wx)
  case atStart => exact ⟨0, Nat.zero_le _, rfl, rfl, Below.refl _ _⟩
  case round =>
    obtain ⟨i, hi, g2, rfl, hb⟩ := hrel
    have G2 := Lib.hid g2
    have HB := Lib.hid hb
    clear g2 hb
    by_cases hlt : i < n
    · obtain ⟨x, rfl, hx, hix⟩ := (HZ.out.below ZMv.abides HB.out) (by rw [HN.out]; omega)
      obtain ⟨y, rfl, hy, hiy⟩ := (HY.out.below ZMv.abides HB.out) (by rw [HN.out]; omega)
      have kx0 := (hix 0 (by rw [HN.out]; omega)).1
      have ky0 := (hiy 0 (by rw [HN.out]; omega)).1
      rw [Nat.zero_mul, Addr.add_zero'] at kx0 ky0
      have kx := hix i (by rw [HN.out]; exact hlt)
      have ky := hiy i (by rw [HN.out]; exact hlt)
      obtain ⟨X, hX⟩ : ∃ X, X = l[i]'(by rw [HN.out]; exact hlt) := ⟨_, rfl⟩
      rw [← hX] at kx ky
      clear hix hiy hX
      obtain ⟨xb, xo, xs⟩ := x
      obtain ⟨yb, yo, ys⟩ := y
      have hxs : xs = none := kx0
      have hys : ys = none := ky0
      subst hxs hys
      rw [Addr.add_lit] at kx ky
      obtain ⟨zd, f0⟩ : ∃ x, x = X.do_ := ⟨_, rfl⟩
      obtain ⟨zk, f1⟩ : ∃ x, x = X.kind := ⟨_, rfl⟩
      obtain ⟨zf, f2⟩ : ∃ x, x = X.field := ⟨_, rfl⟩
      obtain ⟨zn, f3⟩ : ∃ x, x = X.name := ⟨_, rfl⟩
      obtain ⟨zb, f4⟩ : ∃ x, x = X.new.bits := ⟨_, rfl⟩
      obtain ⟨zl, f5⟩ : ∃ x, x = X.new.low := ⟨_, rfl⟩
      have kx2 := kx.2
      have ky2 := ky.2
      unfold zcell at kx2 ky2
      rw [← f0, ← f1, ← f2, ← f3, ← f4, ← f5] at kx2 ky2
      have hb1 := (Below.refl wr.heap.size wr).alloc (Nat.le_refl _) (.cells #[.int .i64 zd, .string zk, .string zf, .string zn, .int .i64 0, .string (⟨#[]⟩ : ByteArray), .int .i64 zb, .int .i64 zl, .string (⟨#[]⟩ : ByteArray), .slice none 0 0] 45)
      have hb2 := hb1.alloc (by simp) (.cells #[.int .i64 zd, .string zk, .string zf, .string zn, .int .i64 0, .string (⟨#[]⟩ : ByteArray), .int .i64 zb, .int .i64 zl, .string (⟨#[]⟩ : ByteArray), .slice none 0 0] 45)
      have x0 := kx2 0 _ rfl
      have x1 := kx2 1 _ rfl
      have x2 := kx2 2 _ rfl
      have x3 := kx2 3 _ rfl
      have x4 := kx2 4 _ rfl
      have x5 := kx2 5 _ rfl
      have x6 := kx2 6 _ rfl
      have x7 := kx2 7 _ rfl
      have x8 := kx2 8 _ rfl
      have x9 := kx2 9 _ rfl
      have y0 := cell_abides (ky2 0 _ rfl) hb1
      have y1 := cell_abides (ky2 1 _ rfl) hb1
      have y2 := cell_abides (ky2 2 _ rfl) hb1
      have y3 := cell_abides (ky2 3 _ rfl) hb1
      have y4 := cell_abides (ky2 4 _ rfl) hb1
      have y5 := cell_abides (ky2 5 _ rfl) hb1
      have y6 := cell_abides (ky2 6 _ rfl) hb1
      have y7 := cell_abides (ky2 7 _ rfl) hb1
      have y8 := cell_abides (ky2 8 _ rfl) hb1
      have y9 := cell_abides (ky2 9 _ rfl) hb1
      simp only at x0 x1 x2 x3 x4 x5 x6 x7 x8 x9 y0 y1 y2 y3 y4 y5 y6 y7 y8 y9
      rw [Nat.add_zero] at x0 y0
      have HC := Lib.hid (same_move zd zk zf zn zb zl ((wr.alloc (.cells #[.int .i64 zd, .string zk, .string zf, .string zn, .int .i64 0, .string (⟨#[]⟩ : ByteArray), .int .i64 zb, .int .i64 zl, .string (⟨#[]⟩ : ByteArray), .slice none 0 0] 45)).alloc (.cells #[.int .i64 zd, .string zk, .string zf, .string zn, .int .i64 0, .string (⟨#[]⟩ : ByteArray), .int .i64 zb, .int .i64 zl, .string (⟨#[]⟩ : ByteArray), .slice none 0 0] 45)))
      have HB2 := Lib.hid hb2
      clear kx0 ky0
      clear hb1 hb2 kx ky kx2 ky2 f0 f1 f2 f3 f4 f5
      go_wp2_with fail
      refine HC.out.mono ?_
      rintro e w1 ⟨rfl, hb1⟩
      have HB3 := Lib.hid (HB.out.trans ((HB2.out.trans (hb1.mono (by simp; omega))).mono HB.out.size))
      clear hb1 HC
      go_wp2_with fail
      go_roundg (n - (i + 1))
      case measure => rw [G2.out]; omega
      case rel => exact ⟨i + 1, hlt, rfl, by go_num, HB3.out⟩
    · go_wp2_with fail
      go_ret
      exact ⟨rfl, HB.out⟩
def dropM : MoveV := ⟨1, ⟨#[112, 108, 97, 99, 101]⟩, ⟨#[]⟩, ⟨#[]⟩, 0, zF, zK⟩
theorem drop_w (W : World) : Calls Tryd.prog 10 #[] W fun e w' => (∃ a, e = .returned (.slice (some a) 1 1) ∧ SlAt 10 MvAt w' (some a) [dropM]) ∧ Below W.heap.size W w' := by
  go_enter Tryd.func10, Tryd.ntmps10
  go_wp2_with fail
  go_ret
  refine ⟨⟨_, rfl, fun _ => ⟨_, rfl, by simp, fun i hi => ?_⟩⟩, (Below.refl _ _).alloc (Nat.le_refl _) _⟩
  have : i = 0 := by have : i < 1 := hi; omega
  subst this
  rw [add_zero_block]
  show MvAt _ _ dropM
  refine ⟨none, 0, fun j v hv => ?_, ⟨fun h => absurd h (by decide), Nat.le_refl _, by decide, by decide, by decide, by decide, by decide, by decide⟩, rfl⟩
  have hr := heap_alloc_new W (.cells #[.int .i64 1, .string ⟨#[112, 108, 97, 99, 101]⟩, .string ⟨#[]⟩, .string ⟨#[]⟩, .int .i64 0, .string ⟨#[]⟩, .int .i64 0, .int .i64 0, .string ⟨#[]⟩, .slice none 0 0] 45)
  have hc := cell_of_row _ _ j _ _ _ hr
  refine Eq.trans ?_ hv
  show (W.alloc _).cell? ⟨W.heap.size, 0 * 10 + j, none⟩ = _
  rw [Nat.zero_mul, Nat.zero_add]
  refine hc.trans ?_
  rw [← Array.getElem?_toList]; rfl
end Go.Proofs.YtijeninfmjhbnaaDoor
end
/- tourref3.where. -/
section
namespace Go.Proofs.YtijeninfmjhbnaaDoor
open Go.ChangeShapes Go.WideShapes Go.ChangeAt Go.RowKit Go.Nm Go.Mem
set_option linter.unusedVariables false
set_option maxHeartbeats 8000000 in
set_option maxRecDepth 100000 in
theorem ref_where (ks : List KindV) (ka : Option Addr) (n kc : Nat) (hn : ks.length = n) (h1 : n ≤ 1048576) (hv : ∀ k ∈ ks, k.fields.length ≤ 1048576) (m : MoveV) (W : World) (hz : SlAt 2 KindAt W ka ks) :
    Calls Tryd.prog 34 #[.slice ka n kc, .string m.kind, .string m.field] W fun e w' => e = .returned (.tuple #[.int .i64 (iK ks m), .int .i64 (jW ks m)]) ∧ Below W.heap.size W w' := by
  obtain ⟨I, hI⟩ : ∃ I, I = iK ks m := ⟨_, rfl⟩
  obtain ⟨J, hJ⟩ : ∃ J, J = jW ks m := ⟨_, rfl⟩
  rw [← hI, ← hJ]
  unfold jW at hJ
  rw [← hI] at hJ
  obtain ⟨s, hs⟩ : ∃ s, s = m.kind := ⟨_, rfl⟩
  obtain ⟨t, ht⟩ : ∃ t, t = m.field := ⟨_, rfl⟩
  rw [← hs, ← ht]
  have HI := Lib.hid hI
  have HJ := Lib.hid hJ
  have HS := Lib.hid hs
  have HT := Lib.hid ht
  have HN := Lib.hid hn
  have HV := Lib.hid hv
  have HZ := Lib.hid hz
  clear hI hJ hs ht hn hv hz
  go_enter Tryd.func34, Tryd.ntmps34
  go_wp2_with fail
  go_loopg [8, 9, 10, 11, 14] n (fun gk _ _ _ _ vi wx => ∃ i : Nat, i ≤ n ∧ gk = n - i ∧ vi = .int .i64 i ∧ (∀ j (h : j < ks.length), j < i → (ks[j].name.toList == s.toList) = false) ∧ Below W.heap.size W wx)
  case atStart => exact ⟨0, Nat.zero_le _, rfl, rfl, fun j h h2 => absurd h2 (by omega), Below.refl _ _⟩
  case round =>
    obtain ⟨i, hi, g2, rfl, hat, hb⟩ := hrel
    have G2 := Lib.hid g2
    have HAT := Lib.hid hat
    have HB := Lib.hid hb
    have hbs := hb.size
    clear g2 hat hb
    by_cases hlt : i < n
    · obtain ⟨x, rfl, hx, hix⟩ := (HZ.out.below KindAt.abides HB.out) (by rw [HN.out]; omega)
      obtain ⟨k0, k1, ay, cy, k2, k3, k4, hfl⟩ := hix i (by rw [HN.out]; exact hlt)
      obtain ⟨y, hy⟩ : ∃ y, y = ks[i]'(by rw [HN.out]; exact hlt) := ⟨_, rfl⟩
      rw [← hy] at k0 k1 k2 k3 hfl
      have hfb : y.fields.length ≤ 1048576 := HV.out y (by rw [hy]; exact List.getElem_mem _)
      have HY := Lib.hid hy
      obtain ⟨yn, hyn⟩ : ∃ x, x = y.name := ⟨_, rfl⟩
      obtain ⟨yl, hyl⟩ : ∃ x, x = y.fields.length := ⟨_, rfl⟩
      rw [← hyn] at k0
      rw [← hyl] at k2 hfb
      have hba := (Below.refl wr.heap.size wr).alloc (Nat.le_refl _) (.cells #[.string yn, .slice ay yl cy] 43)
      have HB2 := Lib.hid (HB.out.alloc hbs (.cells #[.string yn, .slice ay yl cy] 43))
      have HFL := Lib.hid (hfl.below FieldAt.abides hba)
      have HYN := Lib.hid hyn
      have HYL := Lib.hid hyl
      have HFB := Lib.hid hfb
      clear hix hy hyn hyl hba hfl hfb k3 k4 k1
      by_cases he : (yn.toList == s.toList) = true
      · have hF : I = (i : Int) := by
          rw [HI.out]
          unfold iK
          have := firstAt_some (ks.map (·.name)) m.kind 0 i (by rw [List.length_map, HN.out]; exact hlt) (fun j hj hji => by have := HAT.out j (by simpa using hj) hji; rw [HS.out] at this; simpa using this) (by rw [List.getElem_map, ← HY.out, ← HYN.out, ← HS.out]; exact he)
          rw [this]; simp
        have hJ2 : J = firstAt (y.fields.map (·.name)) t 0 := by
          rw [HJ.out, if_neg (by omega)]
          unfold jK
          rw [← HI.out, hF, Int.toNat_natCast, getD_is (by rw [HN.out]; exact hlt), ← HY.out, HT.out]
        have HF := Lib.hid hF
        have HJ2 := Lib.hid hJ2
        obtain ⟨wx, hwx⟩ : ∃ w, w = wr.alloc (.cells #[.string yn, .slice ay yl cy] 43) := ⟨_, rfl⟩
        rw [← hwx] at HFL HB2
        have HWX := Lib.hid hwx
        clear hF hJ2 HAT hwx
        go_wp2_with fail
        rw [← HWX.out]
        clear HWX
        go_loopg [10, 11, 26] yl (fun gk _ _ vi wx2 => ∃ p : Nat, p ≤ yl ∧ gk = yl - p ∧ vi = .int .i64 p ∧ (∀ j (h : j < y.fields.length), j < p → (y.fields[j].name.toList == t.toList) = false) ∧ Below wx.heap.size wx wx2)
        case atStart => exact ⟨0, Nat.zero_le _, rfl, rfl, fun j h h2 => absurd h2 (by omega), Below.refl _ _⟩
        case round =>
          obtain ⟨p, hp, g2, rfl, hat, hb⟩ := hrel
          have F2 := Lib.hid g2
          have HAT := Lib.hid hat
          have HBX := Lib.hid hb
          have hbs2 := hb.size
          clear g2 hat hb
          by_cases hlp : p < yl
          · obtain ⟨x2, rfl, hx2, hix⟩ := (HFL.out.below FieldAt.abides HBX.out) (by rw [← HYL.out]; omega)
            obtain ⟨f0, f1, f2, f3⟩ := hix p (by rw [← HYL.out]; exact hlp)
            obtain ⟨f, hf⟩ : ∃ f, f = y.fields[p]'(by rw [← HYL.out]; exact hlp) := ⟨_, rfl⟩
            rw [← hf] at f0 f1 f2
            have HFF := Lib.hid hf
            have HB3 := Lib.hid (HBX.out.alloc hbs2 (.cells #[.string f.name, .int .i64 f.bits, .int .i64 f.low] 40))
            have w9 : IntKind.i64.wrap ((p : Int) + 1) = ((p + 1 : Nat) : Int) := by have := HFB.out; rw [IntKind.wrap_i64]; omega
            clear hix hf f3
            by_cases he2 : (f.name.toList == t.toList) = true
            · have HR := Lib.hid (show J = (p : Int) by
                rw [HJ2.out]
                have := firstAt_some (y.fields.map (·.name)) t 0 p (by rw [List.length_map, ← HYL.out]; exact hlp) (fun j hj hji => by simpa using HAT.out j (by simpa using hj) hji) (by rw [List.getElem_map, ← HFF.out]; exact he2)
                rw [this]; simp)
              go_wp2_with fail
              go_ret2
              exact ⟨by rw [HF.out, HR.out]; rfl, bt HB2.out HB3.out⟩
            · have he3 : (f.name.toList == t.toList) = false := by simpa using he2
              have HE := Lib.hid he3
              clear he2
              go_wp2_with fail
              go_roundg (yl - (p + 1))
              case measure => rw [F2.out]; omega
              case rel => exact ⟨p + 1, hlp, rfl, (by first | rfl | go_num | simp), fun j h hj => by
                by_cases hji : j < p
                · exact HAT.out j h hji
                · obtain rfl : j = p := by omega
                  rw [← HFF.out]; exact HE.out, HB3.out⟩
          · have HR := Lib.hid (show J = -1 by
              rw [HJ2.out]
              exact firstAt_none _ _ _ fun j hj => by simpa using HAT.out j (by simpa using hj) (by have h2 : j < y.fields.length := (by simpa using hj); rw [← HYL.out] at h2; omega))
            go_wp2_with fail
            go_ret2
            exact ⟨by rw [HF.out, HR.out]; rfl, bt HB2.out HBX.out⟩
      · have he2 : (yn.toList == s.toList) = false := by simpa using he
        have HE := Lib.hid he2
        clear he
        go_wp2_with fail
        go_roundg (n - (i + 1))
        case measure => rw [G2.out]; omega
        case rel => exact ⟨i + 1, hlt, rfl, by go_num, fun j h hj => by
          by_cases hji : j < i
          · exact HAT.out j h hji
          · obtain rfl : j = i := by omega
            rw [← HY.out, ← HYN.out]; exact HE.out, HB2.out⟩
    · have hF : I = -1 := by
        rw [HI.out]
        unfold iK
        exact firstAt_none _ _ _ fun j hj => by have := HAT.out j (by simpa using hj) (by have h2 : j < ks.length := (by simpa using hj); rw [HN.out] at h2; omega); rw [HS.out] at this; simpa using this
      have HF := Lib.hid (And.intro hF (show J = -1 by rw [HJ.out, if_pos (by omega)]))
      clear hF
      go_wp2_with fail
      go_ret2
      exact ⟨by rw [HF.out.1, HF.out.2]; rfl, HB.out⟩
end Go.Proofs.YtijeninfmjhbnaaDoor
end
/- A map of integers of the call's own that a literal fills: Op.insert, a lookup. -/
section
namespace Go.Proofs.YtijeninfmjhbnaaDoor
open Go.ChangeShapes Go.WideShapes Go.ChangeAt Go.RowKit Go.Mem Go.Maps
set_option linter.unusedVariables false
theorem keyI : Keyed Tryd.prog 3 := int_keyed Tryd.underlying3
theorem zeroI (w : World) : (zeroValue 3).run Tryd.prog w = .ok (.int .i64 0) w := by kernel_rfl
abbrev OwnI (w : World) (M n : Nat) (D : DataW Unit) : Prop := w.ownsMap Tryd.prog 3 (plainElem (H := Unit) Tryd.prog 3) M n D
theorem wpList_insert_own {H : Type} {P : Program} (w : World) {ops : Array Oper} {rest : List Oper} {o : Oper} {a : Act} {Q : Exit → Act → World → Prop}
    (hg : o.guard = none) (m x v : Operand) (t : TypeId) (hop : o.op = Op.insert t m x v)
    (k e : TypeId) (K : Keyed P k) (ht : P.underlying t = some (.map k e)) (R : Value → Option (DataW H × List MemPlace)) (b n : Nat) (D : DataW H)
    (hm : a.eval m = .map (some b)) (hown : w.ownsMap P k R b n D) (hn : n < maxLen) (key val : Value) (kl : Lit) (hx : a.eval x = key) (hv : a.eval v = val) (hkey : keyOf P k key = some kl)
    (d : DataW H) (ps : List MemPlace) (hval : R val = some (d, ps))
    (hK : ∀ w', w'.ownsMap P k R b (n + 1) (D.put kl d) → w.grownBy w' (some b) → wpList P ops Q rest (a.put o.dst undef) w') :
    wpList P ops Q (o :: rest) a w := by
  refine wpList_plain hg fun K' hK' => ?_
  obtain ⟨w', hrun, r1, r2⟩ := hown.update K ht hn hkey hval
  unfold Oper.wp
  simp [execOp, hop, hm, hx, hv, hrun, Result.andThen]
  exact hK' _ _ (hK w' r1 r2)
theorem below_gbM {B g : Nat} {a w : World} (h : a.grownBy w (some g)) (hB : B ≤ g) (hs : B ≤ a.heap.size) : Below B a w :=
  ⟨h.os, h.tape, h.output, h.size, fun k hk => h.block k (by omega) (fun e => by injection e; omega)⟩
theorem heap_gbM {a w : World} {g M : Nat} {o : Obj} (hg : a.heap[g]? = some o) (h : a.grownBy w (some M)) (hne : g ≠ M) : w.heap[g]? = some o := (h.block g (lt_of_heap hg) (fun e => by injection e with e; exact hne e)).trans hg
theorem keyOfI {k : Int} (hk : (Lit.int .i64 k).wf = true) : keyOf Tryd.prog 3 (.int .i64 k) = some (.int .i64 k) := keyOf_int_mk Tryd.underlying3 hk
/-- what a tour's moves turn into, by the reference's map -/
def doD : DataW Unit := (((((DataW.map []).put (.int .i64 0) (.lit (.int .i64 1))).put (.int .i64 2) (.lit (.int .i64 2))).put (.int .i64 3) (.lit (.int .i64 4))).put (.int .i64 5) (.lit (.int .i64 5))).put (.int .i64 6) (.lit (.int .i64 6))
theorem doD_0 : doD.atKey (.int .i64 0) (.lit (.int .i64 0)) = .lit (.int .i64 1) := by kernel_rfl
theorem doD_1 : doD.atKey (.int .i64 1) (.lit (.int .i64 0)) = .lit (.int .i64 0) := by kernel_rfl
theorem doD_2 : doD.atKey (.int .i64 2) (.lit (.int .i64 0)) = .lit (.int .i64 2) := by kernel_rfl
theorem doD_3 : doD.atKey (.int .i64 3) (.lit (.int .i64 0)) = .lit (.int .i64 4) := by kernel_rfl
theorem doD_4 : doD.atKey (.int .i64 4) (.lit (.int .i64 0)) = .lit (.int .i64 0) := by kernel_rfl
theorem doD_5 : doD.atKey (.int .i64 5) (.lit (.int .i64 0)) = .lit (.int .i64 5) := by kernel_rfl
theorem doD_6 : doD.atKey (.int .i64 6) (.lit (.int .i64 0)) = .lit (.int .i64 6) := by kernel_rfl
end Go.Proofs.YtijeninfmjhbnaaDoor
end
/- tourref3.Undone. By program (gen_refundo.py). -/
section
namespace Go.Proofs.YtijeninfmjhbnaaDoor
open Go.ChangeShapes Go.WideShapes Go.ChangeAt Go.RowKit Go.Nm Go.Mem Go.Maps
set_option linter.unusedVariables false
set_option maxHeartbeats 8000000 in
set_option maxRecDepth 100000 in
theorem ref_undo_0 (ks : List KindV) (ka : Option Addr) (n kc : Nat) (hn : ks.length = n) (h1 : n ≤ 1048576) (hv : ∀ k ∈ ks, k.fields.length ≤ 1048576) (y : MoveV) (a : Option Addr) (c : Nat) (W : World) (hz : SlAt 2 KindAt W ka ks) (hk0 : kindsE ks = 0) (he : oneE ks y = 0) (hd : y.do_ = 0) :
    Calls Tryd.prog 12 #[.slice ka n kc, .agg #[.int .i64 0, .string y.kind, .string y.field, .string y.name, .int .i64 y.value, .string y.new.name, .int .i64 y.new.bits, .int .i64 y.new.low, .string y.whole.name, .slice a y.whole.fields.length c]] W (InvPost ks y W) := by
  have hp := (oneE_kinds he).1
  have hV : invV ks y = ⟨1, y.whole.name, (⟨#[]⟩ : ByteArray), (⟨#[]⟩ : ByteArray), 0, zF, zK⟩ := by unfold invV; rw [if_pos hd]
  have hB : invB ks y = true := by unfold invB; rw [if_neg (by rw [hd]; decide), if_neg (by rw [hd]; decide)]
  have HVV := Lib.hid hV
  have HBB := Lib.hid hB
  have hb0 := ((Below.refl W.heap.size W).alloc (Nat.le_refl _) (.cells #[.int .i64 0, .string y.kind, .string y.field, .string y.name, .int .i64 y.value, .string y.new.name, .int .i64 y.new.bits, .int .i64 y.new.low, .string y.whole.name, .slice a y.whole.fields.length c] 45)).alloc (by simp) (.cells #[.int .i64 0, .string (⟨#[]⟩ : ByteArray), .string (⟨#[]⟩ : ByteArray), .string (⟨#[]⟩ : ByteArray), .int .i64 0, .string (⟨#[]⟩ : ByteArray), .int .i64 0, .int .i64 0, .string (⟨#[]⟩ : ByteArray), .slice none 0 0] 45)
  have hrow := heap_keep (heap_alloc_new W (.cells #[.int .i64 0, .string y.kind, .string y.field, .string y.name, .int .i64 y.value, .string y.new.name, .int .i64 y.new.bits, .int .i64 y.new.low, .string y.whole.name, .slice a y.whole.fields.length c] 45)) (.cells #[.int .i64 0, .string (⟨#[]⟩ : ByteArray), .string (⟨#[]⟩ : ByteArray), .string (⟨#[]⟩ : ByteArray), .int .i64 0, .string (⟨#[]⟩ : ByteArray), .int .i64 0, .int .i64 0, .string (⟨#[]⟩ : ByteArray), .slice none 0 0] 45)
  have hres := heap_alloc_new (W.alloc (.cells #[.int .i64 0, .string y.kind, .string y.field, .string y.name, .int .i64 y.value, .string y.new.name, .int .i64 y.new.bits, .int .i64 y.new.low, .string y.whole.name, .slice a y.whole.fields.length c] 45)) (.cells #[.int .i64 0, .string (⟨#[]⟩ : ByteArray), .string (⟨#[]⟩ : ByteArray), .string (⟨#[]⟩ : ByteArray), .int .i64 0, .string (⟨#[]⟩ : ByteArray), .int .i64 0, .int .i64 0, .string (⟨#[]⟩ : ByteArray), .slice none 0 0] 45)
  rw [World.size_alloc] at hres
  obtain ⟨w0, hw0⟩ : ∃ w, w = (W.alloc (.cells #[.int .i64 0, .string y.kind, .string y.field, .string y.name, .int .i64 y.value, .string y.new.name, .int .i64 y.new.bits, .int .i64 y.new.low, .string y.whole.name, .slice a y.whole.fields.length c] 45)).alloc (.cells #[.int .i64 0, .string (⟨#[]⟩ : ByteArray), .string (⟨#[]⟩ : ByteArray), .string (⟨#[]⟩ : ByteArray), .int .i64 0, .string (⟨#[]⟩ : ByteArray), .int .i64 0, .int .i64 0, .string (⟨#[]⟩ : ByteArray), .slice none 0 0] 45) := ⟨_, rfl⟩
  rw [← hw0] at hb0 hrow hres
  have cP := ref_where ks _ n kc hn h1 hv y w0 (hz.below KindAt.abides hb0)
  obtain ⟨I, hI⟩ : ∃ x, x = iK ks y := ⟨_, rfl⟩
  obtain ⟨J, hJ⟩ : ∃ x, x = jW ks y := ⟨_, rfl⟩
  rw [← hI, ← hJ] at cP
  obtain ⟨nk, hnk⟩ : ∃ x, x = y.kind := ⟨_, rfl⟩
  obtain ⟨nf, hnf⟩ : ∃ x, x = y.field := ⟨_, rfl⟩
  obtain ⟨nm, hnm⟩ : ∃ x, x = y.name := ⟨_, rfl⟩
  obtain ⟨vv, hvv⟩ : ∃ x, x = y.value := ⟨_, rfl⟩
  obtain ⟨fn, hfn⟩ : ∃ x, x = y.new.name := ⟨_, rfl⟩
  obtain ⟨fb, hfb⟩ : ∃ x, x = y.new.bits := ⟨_, rfl⟩
  obtain ⟨fo, hfo⟩ : ∃ x, x = y.new.low := ⟨_, rfl⟩
  obtain ⟨wn, hwn⟩ : ∃ x, x = y.whole.name := ⟨_, rfl⟩
  obtain ⟨wl, hwl⟩ : ∃ x, x = y.whole.fields.length := ⟨_, rfl⟩
  rw [← hnk, ← hnf, ← hnm, ← hvv, ← hfn, ← hfb, ← hfo, ← hwn, ← hwl] at hrow hw0 ⊢
  rw [← hnk, ← hnf] at cP
  rw [← hwn] at HVV
  obtain ⟨g, hg⟩ : ∃ g, g = W.heap.size := ⟨_, rfl⟩
  obtain ⟨g4, hg4⟩ : ∃ x, x = W.heap.size + 1 := ⟨_, rfl⟩
  rw [← hg] at hrow
  rw [← hg4] at hres
  have HB := Lib.hid hb0
  have HROW := Lib.hid hrow
  have HRES := Lib.hid hres
  have HW0 := Lib.hid hw0
  have HG := Lib.hid (And.intro hg hg4)
  have HN := Lib.hid hn
  have H1 := Lib.hid h1
  have HZ := Lib.hid hz
  have CP := Lib.hid cP
  have hmk := @run_makeMap Tryd.prog
  clear hV hB hp hb0 hrow hres hw0 hg hg4 hn h1 hv hz hd hk0 he hnk hnf hnm hvv hfn hfb hfo hwn hwl cP hI hJ
  go_enter Tryd.func12, Tryd.ntmps12
  go_wp2_with fail
  rw [← HW0.out, ← HG.out.2, ← HG.out.1]
  refine CP.out.mono ?_
  rintro e w1 ⟨rfl, hb1⟩
  have hown0 : OwnI (w1.alloc (.map #[] 0)) w1.heap.size 0 (.map []) := World.ownsMap_made w1 Tryd.prog 3 _
  have hbm := (Below.refl w1.heap.size w1).alloc (Nat.le_refl _) (.map #[] 0)
  obtain ⟨w2, hw2⟩ : ∃ w, w = w1.alloc (.map #[] 0) := ⟨_, rfl⟩
  obtain ⟨M, hM⟩ : ∃ b, b = w1.heap.size := ⟨_, rfl⟩
  have HM := Lib.hid (And.intro hw2 hM)
  have HB1 := Lib.hid (bt HB.out hb1)
  have HROW1 := Lib.hid (heap_below HROW.out hb1)
  have HRES1 := Lib.hid (heap_below HRES.out hb1)
  rw [← hw2] at hbm
  have HROW2 := Lib.hid (heap_below HROW1.out hbm)
  have HRES2 := Lib.hid (heap_below HRES1.out hbm)
  have HB2 := Lib.hid (bt HB1.out hbm)
  have HGM := Lib.hid (show g < M ∧ g4 < M by rw [hM]; exact ⟨lt_of_heap HROW1.out, lt_of_heap HRES1.out⟩)
  have HMS := Lib.hid (show W.heap.size ≤ M by rw [hM]; exact HB1.out.size)
  have HOWN0 := Lib.hid hown0
  clear hb1 CP HW0 hw2 hM hown0 hbm HB HROW HRES HROW1 HRES1 HB1
  go_wp2_with (with_reducible show wpList _ _ _ (Oper.mk _ (Op.insert _ _ _ _) _ _ _ _ :: _) _ _; (refine wpList_insert_own _ rfl _ _ _ 77 rfl 3 3 keyI Tryd.underlying77 (plainElem (H := Unit) Tryd.prog 3) w1.heap.size 0 (DataW.map [] : DataW Unit) rfl HOWN0.out (by have : maxLen = 9223372036854775807 := rfl; omega) (.int .i64 0) (.int .i64 1) (.int .i64 0) rfl rfl (keyOfI (by kernel_rfl)) (.lit (.int .i64 1)) [] (plainElem_int Tryd.underlying3 (by kernel_rfl)) ?_))
  intro v1 hown1 hg1
  rw [← HM.out.1, ← HM.out.2] at hg1
  rw [← HM.out.2] at hown1 ⊢
  have HOWN1 := Lib.hid hown1
  have HG1 := Lib.hid hg1
  clear hown1 hg1 HOWN0
  go_wp2_with (with_reducible show wpList _ _ _ (Oper.mk _ (Op.insert _ _ _ _) _ _ _ _ :: _) _ _; (refine wpList_insert_own _ rfl _ _ _ 77 rfl 3 3 keyI Tryd.underlying77 (plainElem (H := Unit) Tryd.prog 3) M 1 ((DataW.map [] : DataW Unit).put (.int .i64 0) (.lit (.int .i64 1))) rfl HOWN1.out (by have : maxLen = 9223372036854775807 := rfl; omega) (.int .i64 2) (.int .i64 2) (.int .i64 2) rfl rfl (keyOfI (by kernel_rfl)) (.lit (.int .i64 2)) [] (plainElem_int Tryd.underlying3 (by kernel_rfl)) ?_))
  intro v2 hown2 hg2
  have HOWN2 := Lib.hid hown2
  have HG2 := Lib.hid hg2
  clear hown2 hg2 HOWN1
  go_wp2_with (with_reducible show wpList _ _ _ (Oper.mk _ (Op.insert _ _ _ _) _ _ _ _ :: _) _ _; (refine wpList_insert_own _ rfl _ _ _ 77 rfl 3 3 keyI Tryd.underlying77 (plainElem (H := Unit) Tryd.prog 3) M 2 (((DataW.map [] : DataW Unit).put (.int .i64 0) (.lit (.int .i64 1))).put (.int .i64 2) (.lit (.int .i64 2))) rfl HOWN2.out (by have : maxLen = 9223372036854775807 := rfl; omega) (.int .i64 3) (.int .i64 4) (.int .i64 3) rfl rfl (keyOfI (by kernel_rfl)) (.lit (.int .i64 4)) [] (plainElem_int Tryd.underlying3 (by kernel_rfl)) ?_))
  intro v3 hown3 hg3
  have HOWN3 := Lib.hid hown3
  have HG3 := Lib.hid hg3
  clear hown3 hg3 HOWN2
  go_wp2_with (with_reducible show wpList _ _ _ (Oper.mk _ (Op.insert _ _ _ _) _ _ _ _ :: _) _ _; (refine wpList_insert_own _ rfl _ _ _ 77 rfl 3 3 keyI Tryd.underlying77 (plainElem (H := Unit) Tryd.prog 3) M 3 ((((DataW.map [] : DataW Unit).put (.int .i64 0) (.lit (.int .i64 1))).put (.int .i64 2) (.lit (.int .i64 2))).put (.int .i64 3) (.lit (.int .i64 4))) rfl HOWN3.out (by have : maxLen = 9223372036854775807 := rfl; omega) (.int .i64 5) (.int .i64 5) (.int .i64 5) rfl rfl (keyOfI (by kernel_rfl)) (.lit (.int .i64 5)) [] (plainElem_int Tryd.underlying3 (by kernel_rfl)) ?_))
  intro v4 hown4 hg4
  have HOWN4 := Lib.hid hown4
  have HG4 := Lib.hid hg4
  clear hown4 hg4 HOWN3
  go_wp2_with (with_reducible show wpList _ _ _ (Oper.mk _ (Op.insert _ _ _ _) _ _ _ _ :: _) _ _; (refine wpList_insert_own _ rfl _ _ _ 77 rfl 3 3 keyI Tryd.underlying77 (plainElem (H := Unit) Tryd.prog 3) M 4 (((((DataW.map [] : DataW Unit).put (.int .i64 0) (.lit (.int .i64 1))).put (.int .i64 2) (.lit (.int .i64 2))).put (.int .i64 3) (.lit (.int .i64 4))).put (.int .i64 5) (.lit (.int .i64 5))) rfl HOWN4.out (by have : maxLen = 9223372036854775807 := rfl; omega) (.int .i64 6) (.int .i64 6) (.int .i64 6) rfl rfl (keyOfI (by kernel_rfl)) (.lit (.int .i64 6)) [] (plainElem_int Tryd.underlying3 (by kernel_rfl)) ?_))
  intro v5 hown5 hg5
  have HOWN5 := Lib.hid hown5
  have HG5 := Lib.hid hg5
  clear hown5 hg5 HOWN4
  clear hmk
  have hgb := ((((HG1.out.trans HG2.out).trans HG3.out).trans HG4.out).trans HG5.out)
  have HROW7 := Lib.hid (heap_gbM HROW2.out hgb (by have := HGM.out; omega))
  have HRES7 := Lib.hid (heap_gbM HRES2.out hgb (by have := HGM.out; omega))
  have HB7 := Lib.hid (HB2.out.trans (below_gbM hgb HMS.out HB2.out.size))
  have hown : OwnI v5 M 5 doD := HOWN5.out
  have r0 := cell_of_row _ _ 0 _ _ _ HROW7.out
  clear hgb HG1 HG2 HG3 HG4 HG5 HROW2 HRES2 HB2 HOWN5
  go_wp2_with (at_lookup; (refine wpList_lookup_own_int _ rfl _ _ 77 rfl 3 3 .i64 keyI Tryd.underlying77 Tryd.underlying3 (zeroI _) M 5 doD rfl hown (.int .i64 0) (.int .i64 0) rfl (keyOfI (by kernel_rfl)) ?_))
  intro cv hat hwc
  have hcv : cv = 1 := by have e := hat.symm.trans doD_0; injection e with e; injection e
  subst hcv
  clear hat hwc hown
  have h8 := heap_alloc_new v5 (.cells #[.int .i64 1, .string (⟨#[]⟩ : ByteArray), .string (⟨#[]⟩ : ByteArray), .string (⟨#[]⟩ : ByteArray), .int .i64 0, .string (⟨#[]⟩ : ByteArray), .int .i64 0, .int .i64 0, .string (⟨#[]⟩ : ByteArray), .slice none 0 0] 45)
  have hb8 := (Below.refl v5.heap.size v5).alloc (Nat.le_refl _) (.cells #[.int .i64 1, .string (⟨#[]⟩ : ByteArray), .string (⟨#[]⟩ : ByteArray), .string (⟨#[]⟩ : ByteArray), .int .i64 0, .string (⟨#[]⟩ : ByteArray), .int .i64 0, .int .i64 0, .string (⟨#[]⟩ : ByteArray), .slice none 0 0] 45)
  obtain ⟨w8, hw8⟩ : ∃ w, w = v5.alloc (.cells #[.int .i64 1, .string (⟨#[]⟩ : ByteArray), .string (⟨#[]⟩ : ByteArray), .string (⟨#[]⟩ : ByteArray), .int .i64 0, .string (⟨#[]⟩ : ByteArray), .int .i64 0, .int .i64 0, .string (⟨#[]⟩ : ByteArray), .slice none 0 0] 45) := ⟨_, rfl⟩
  obtain ⟨b8, hb8e⟩ : ∃ b, b = v5.heap.size := ⟨_, rfl⟩
  rw [← hw8] at h8 hb8
  rw [← hb8e] at h8
  have HGB := Lib.hid (show g < b8 ∧ g4 < b8 ∧ W.heap.size ≤ b8 by rw [hb8e]; exact ⟨lt_of_heap HROW7.out, lt_of_heap HRES7.out, HB7.out.size⟩)
  have HROW8 := Lib.hid (heap_below HROW7.out hb8)
  have HRES8 := Lib.hid (heap_below HRES7.out hb8)
  have HB8 := Lib.hid (bt HB7.out hb8)
  have HW8 := Lib.hid (And.intro hw8 hb8e)
  have H8 := Lib.hid h8
  have r0b := cell_of_row _ _ 0 _ _ _ HROW8.out
  rw [hw8] at r0b
  clear hw8 hb8e hb8 h8 HROW7 HRES7 HB7 r0
  obtain ⟨wD, hwD⟩ : ∃ w, w = (w8.setCell ⟨b8, 1, none⟩ (.string wn)) := ⟨_, rfl⟩
  have R8D := Lib.hid (show wD.heap[b8]? = some (.cells #[.int .i64 1, .string wn, .string (⟨#[]⟩ : ByteArray), .string (⟨#[]⟩ : ByteArray), .int .i64 0, .string (⟨#[]⟩ : ByteArray), .int .i64 0, .int .i64 0, .string (⟨#[]⟩ : ByteArray), .slice none 0 0] 45 (0, 0)) by rw [hwD]; exact (heap_set H8.out 1 (.string wn)))
  have HRESD := Lib.hid (show wD.heap[g4]? = some (.cells #[.int .i64 0, .string (⟨#[]⟩ : ByteArray), .string (⟨#[]⟩ : ByteArray), .string (⟨#[]⟩ : ByteArray), .int .i64 0, .string (⟨#[]⟩ : ByteArray), .int .i64 0, .int .i64 0, .string (⟨#[]⟩ : ByteArray), .slice none 0 0] 45 (0, 0)) by rw [hwD]; exact (Mem.heap_far HRES8.out (by have := HGB.out; show g4 ≠ b8; omega) (.string wn)))
  have HBD := Lib.hid (show Below W.heap.size W wD by rw [hwD]; exact (HB8.out.setCell (show W.heap.size ≤ b8 from HGB.out.2.2) (.string wn)))
  have HWD := Lib.hid hwD
  clear hwD
  go_upto_region 6 with fail
  rw [← HW8.out.1, ← HW8.out.2]
  have r8 := cell_of_row _ _ 8 _ _ _ HROW8.out
  have z1 := cell_of_row _ _ 1 _ _ _ H8.out
  have k1 := Mem.frozen_of_row H8.out 1
  clear r0b
  have hne : g ≠ b8 := by have := HGB.out; omega
  have y0 := cell_of_row _ _ 0 _ _ _ R8D.out
  have y1 := cell_of_row _ _ 1 _ _ _ R8D.out
  have y2 := cell_of_row _ _ 2 _ _ _ R8D.out
  have y3 := cell_of_row _ _ 3 _ _ _ R8D.out
  have y4 := cell_of_row _ _ 4 _ _ _ R8D.out
  have y5 := cell_of_row _ _ 5 _ _ _ R8D.out
  have y6 := cell_of_row _ _ 6 _ _ _ R8D.out
  have y7 := cell_of_row _ _ 7 _ _ _ R8D.out
  have y8 := cell_of_row _ _ 8 _ _ _ R8D.out
  have y9 := cell_of_row _ _ 9 _ _ _ R8D.out
  rw [HWD.out] at y0 y1 y2 y3 y4 y5 y6 y7 y8 y9
  go_wp2_with (rw [← HWD.out]; refine wpList_store_rowP rfl 45 (.tmp 4) (.tmp 111) rfl g4 #[.int .i64 1, .string wn, .string (⟨#[]⟩ : ByteArray), .string (⟨#[]⟩ : ByteArray), .int .i64 0, .string (⟨#[]⟩ : ByteArray), .int .i64 0, .int .i64 0, .string (⟨#[]⟩ : ByteArray), .slice none 0 0] rfl rfl _ _ HRESD.out (by kernel_rfl) rfl (by simp [Value.oneCell']) ?_; intro w9 hput; have HPUT := Lib.hid hput; clear hput)
  have hput := HPUT.out
  refine bodyPost_ret (results_ct Tryd.results12 _ _ g4 45 #[.int .i64 1, .string wn, .string (⟨#[]⟩ : ByteArray), .string (⟨#[]⟩ : ByteArray), .int .i64 0, .string (⟨#[]⟩ : ByteArray), .int .i64 0, .int .i64 0, .string (⟨#[]⟩ : ByteArray), .slice none 0 0] (0, 0) _ rfl hput.here Tryd.underlying45 rfl (by kernel_rfl)) rfl ?_
  exact InvPost.mk HVV.out HBB.out (HBD.out.trans (hput.below (by have := HG.out.2; omega)))
set_option maxHeartbeats 8000000 in
set_option maxRecDepth 100000 in
theorem ref_undo_1 (ks : List KindV) (ka : Option Addr) (n kc : Nat) (hn : ks.length = n) (h1 : n ≤ 1048576) (hv : ∀ k ∈ ks, k.fields.length ≤ 1048576) (y : MoveV) (a : Option Addr) (c : Nat) (W : World) (hz : SlAt 2 KindAt W ka ks) (hk0 : kindsE ks = 0) (he : oneE ks y = 0) (hd : y.do_ = 1) :
    Calls Tryd.prog 12 #[.slice ka n kc, .agg #[.int .i64 1, .string y.kind, .string y.field, .string y.name, .int .i64 y.value, .string y.new.name, .int .i64 y.new.bits, .int .i64 y.new.low, .string y.whole.name, .slice a y.whole.fields.length c]] W (InvPost ks y W) := by
  have hp := (oneE_kinds he).1
  have hV : invV ks y = ⟨0, (⟨#[]⟩ : ByteArray), (⟨#[]⟩ : ByteArray), (⟨#[]⟩ : ByteArray), 0, zF, zK⟩ := by unfold invV; rw [if_neg (show ¬ y.do_ = 0 by rw [hd]; decide), if_neg (show ¬ y.do_ = 2 by rw [hd]; decide), if_neg (show ¬ y.do_ = 3 by rw [hd]; decide), if_neg (show ¬ y.do_ = 5 by rw [hd]; decide), if_neg (show ¬ y.do_ = 6 by rw [hd]; decide)]
  have hB : invB ks y = false := by unfold invB; rw [if_pos (Or.inl hd)]
  have HVV := Lib.hid hV
  have HBB := Lib.hid hB
  have hb0 := ((Below.refl W.heap.size W).alloc (Nat.le_refl _) (.cells #[.int .i64 1, .string y.kind, .string y.field, .string y.name, .int .i64 y.value, .string y.new.name, .int .i64 y.new.bits, .int .i64 y.new.low, .string y.whole.name, .slice a y.whole.fields.length c] 45)).alloc (by simp) (.cells #[.int .i64 0, .string (⟨#[]⟩ : ByteArray), .string (⟨#[]⟩ : ByteArray), .string (⟨#[]⟩ : ByteArray), .int .i64 0, .string (⟨#[]⟩ : ByteArray), .int .i64 0, .int .i64 0, .string (⟨#[]⟩ : ByteArray), .slice none 0 0] 45)
  have hrow := heap_keep (heap_alloc_new W (.cells #[.int .i64 1, .string y.kind, .string y.field, .string y.name, .int .i64 y.value, .string y.new.name, .int .i64 y.new.bits, .int .i64 y.new.low, .string y.whole.name, .slice a y.whole.fields.length c] 45)) (.cells #[.int .i64 0, .string (⟨#[]⟩ : ByteArray), .string (⟨#[]⟩ : ByteArray), .string (⟨#[]⟩ : ByteArray), .int .i64 0, .string (⟨#[]⟩ : ByteArray), .int .i64 0, .int .i64 0, .string (⟨#[]⟩ : ByteArray), .slice none 0 0] 45)
  have hres := heap_alloc_new (W.alloc (.cells #[.int .i64 1, .string y.kind, .string y.field, .string y.name, .int .i64 y.value, .string y.new.name, .int .i64 y.new.bits, .int .i64 y.new.low, .string y.whole.name, .slice a y.whole.fields.length c] 45)) (.cells #[.int .i64 0, .string (⟨#[]⟩ : ByteArray), .string (⟨#[]⟩ : ByteArray), .string (⟨#[]⟩ : ByteArray), .int .i64 0, .string (⟨#[]⟩ : ByteArray), .int .i64 0, .int .i64 0, .string (⟨#[]⟩ : ByteArray), .slice none 0 0] 45)
  rw [World.size_alloc] at hres
  obtain ⟨w0, hw0⟩ : ∃ w, w = (W.alloc (.cells #[.int .i64 1, .string y.kind, .string y.field, .string y.name, .int .i64 y.value, .string y.new.name, .int .i64 y.new.bits, .int .i64 y.new.low, .string y.whole.name, .slice a y.whole.fields.length c] 45)).alloc (.cells #[.int .i64 0, .string (⟨#[]⟩ : ByteArray), .string (⟨#[]⟩ : ByteArray), .string (⟨#[]⟩ : ByteArray), .int .i64 0, .string (⟨#[]⟩ : ByteArray), .int .i64 0, .int .i64 0, .string (⟨#[]⟩ : ByteArray), .slice none 0 0] 45) := ⟨_, rfl⟩
  rw [← hw0] at hb0 hrow hres
  have cP := ref_where ks _ n kc hn h1 hv y w0 (hz.below KindAt.abides hb0)
  obtain ⟨I, hI⟩ : ∃ x, x = iK ks y := ⟨_, rfl⟩
  obtain ⟨J, hJ⟩ : ∃ x, x = jW ks y := ⟨_, rfl⟩
  rw [← hI, ← hJ] at cP
  obtain ⟨nk, hnk⟩ : ∃ x, x = y.kind := ⟨_, rfl⟩
  obtain ⟨nf, hnf⟩ : ∃ x, x = y.field := ⟨_, rfl⟩
  obtain ⟨nm, hnm⟩ : ∃ x, x = y.name := ⟨_, rfl⟩
  obtain ⟨vv, hvv⟩ : ∃ x, x = y.value := ⟨_, rfl⟩
  obtain ⟨fn, hfn⟩ : ∃ x, x = y.new.name := ⟨_, rfl⟩
  obtain ⟨fb, hfb⟩ : ∃ x, x = y.new.bits := ⟨_, rfl⟩
  obtain ⟨fo, hfo⟩ : ∃ x, x = y.new.low := ⟨_, rfl⟩
  obtain ⟨wn, hwn⟩ : ∃ x, x = y.whole.name := ⟨_, rfl⟩
  obtain ⟨wl, hwl⟩ : ∃ x, x = y.whole.fields.length := ⟨_, rfl⟩
  rw [← hnk, ← hnf, ← hnm, ← hvv, ← hfn, ← hfb, ← hfo, ← hwn, ← hwl] at hrow hw0 ⊢
  rw [← hnk, ← hnf] at cP
  obtain ⟨g, hg⟩ : ∃ g, g = W.heap.size := ⟨_, rfl⟩
  obtain ⟨g4, hg4⟩ : ∃ x, x = W.heap.size + 1 := ⟨_, rfl⟩
  rw [← hg] at hrow
  rw [← hg4] at hres
  have HB := Lib.hid hb0
  have HROW := Lib.hid hrow
  have HRES := Lib.hid hres
  have HW0 := Lib.hid hw0
  have HG := Lib.hid (And.intro hg hg4)
  have HN := Lib.hid hn
  have H1 := Lib.hid h1
  have HZ := Lib.hid hz
  have CP := Lib.hid cP
  have hmk := @run_makeMap Tryd.prog
  clear hV hB hp hb0 hrow hres hw0 hg hg4 hn h1 hv hz hd hk0 he hnk hnf hnm hvv hfn hfb hfo hwn hwl cP hI hJ
  go_enter Tryd.func12, Tryd.ntmps12
  go_wp2_with fail
  rw [← HW0.out, ← HG.out.2, ← HG.out.1]
  refine CP.out.mono ?_
  rintro e w1 ⟨rfl, hb1⟩
  have hown0 : OwnI (w1.alloc (.map #[] 0)) w1.heap.size 0 (.map []) := World.ownsMap_made w1 Tryd.prog 3 _
  have hbm := (Below.refl w1.heap.size w1).alloc (Nat.le_refl _) (.map #[] 0)
  obtain ⟨w2, hw2⟩ : ∃ w, w = w1.alloc (.map #[] 0) := ⟨_, rfl⟩
  obtain ⟨M, hM⟩ : ∃ b, b = w1.heap.size := ⟨_, rfl⟩
  have HM := Lib.hid (And.intro hw2 hM)
  have HB1 := Lib.hid (bt HB.out hb1)
  have HROW1 := Lib.hid (heap_below HROW.out hb1)
  have HRES1 := Lib.hid (heap_below HRES.out hb1)
  rw [← hw2] at hbm
  have HROW2 := Lib.hid (heap_below HROW1.out hbm)
  have HRES2 := Lib.hid (heap_below HRES1.out hbm)
  have HB2 := Lib.hid (bt HB1.out hbm)
  have HGM := Lib.hid (show g < M ∧ g4 < M by rw [hM]; exact ⟨lt_of_heap HROW1.out, lt_of_heap HRES1.out⟩)
  have HMS := Lib.hid (show W.heap.size ≤ M by rw [hM]; exact HB1.out.size)
  have HOWN0 := Lib.hid hown0
  clear hb1 CP HW0 hw2 hM hown0 hbm HB HROW HRES HROW1 HRES1 HB1
  go_wp2_with (with_reducible show wpList _ _ _ (Oper.mk _ (Op.insert _ _ _ _) _ _ _ _ :: _) _ _; (refine wpList_insert_own _ rfl _ _ _ 77 rfl 3 3 keyI Tryd.underlying77 (plainElem (H := Unit) Tryd.prog 3) w1.heap.size 0 (DataW.map [] : DataW Unit) rfl HOWN0.out (by have : maxLen = 9223372036854775807 := rfl; omega) (.int .i64 0) (.int .i64 1) (.int .i64 0) rfl rfl (keyOfI (by kernel_rfl)) (.lit (.int .i64 1)) [] (plainElem_int Tryd.underlying3 (by kernel_rfl)) ?_))
  intro v1 hown1 hg1
  rw [← HM.out.1, ← HM.out.2] at hg1
  rw [← HM.out.2] at hown1 ⊢
  have HOWN1 := Lib.hid hown1
  have HG1 := Lib.hid hg1
  clear hown1 hg1 HOWN0
  go_wp2_with (with_reducible show wpList _ _ _ (Oper.mk _ (Op.insert _ _ _ _) _ _ _ _ :: _) _ _; (refine wpList_insert_own _ rfl _ _ _ 77 rfl 3 3 keyI Tryd.underlying77 (plainElem (H := Unit) Tryd.prog 3) M 1 ((DataW.map [] : DataW Unit).put (.int .i64 0) (.lit (.int .i64 1))) rfl HOWN1.out (by have : maxLen = 9223372036854775807 := rfl; omega) (.int .i64 2) (.int .i64 2) (.int .i64 2) rfl rfl (keyOfI (by kernel_rfl)) (.lit (.int .i64 2)) [] (plainElem_int Tryd.underlying3 (by kernel_rfl)) ?_))
  intro v2 hown2 hg2
  have HOWN2 := Lib.hid hown2
  have HG2 := Lib.hid hg2
  clear hown2 hg2 HOWN1
  go_wp2_with (with_reducible show wpList _ _ _ (Oper.mk _ (Op.insert _ _ _ _) _ _ _ _ :: _) _ _; (refine wpList_insert_own _ rfl _ _ _ 77 rfl 3 3 keyI Tryd.underlying77 (plainElem (H := Unit) Tryd.prog 3) M 2 (((DataW.map [] : DataW Unit).put (.int .i64 0) (.lit (.int .i64 1))).put (.int .i64 2) (.lit (.int .i64 2))) rfl HOWN2.out (by have : maxLen = 9223372036854775807 := rfl; omega) (.int .i64 3) (.int .i64 4) (.int .i64 3) rfl rfl (keyOfI (by kernel_rfl)) (.lit (.int .i64 4)) [] (plainElem_int Tryd.underlying3 (by kernel_rfl)) ?_))
  intro v3 hown3 hg3
  have HOWN3 := Lib.hid hown3
  have HG3 := Lib.hid hg3
  clear hown3 hg3 HOWN2
  go_wp2_with (with_reducible show wpList _ _ _ (Oper.mk _ (Op.insert _ _ _ _) _ _ _ _ :: _) _ _; (refine wpList_insert_own _ rfl _ _ _ 77 rfl 3 3 keyI Tryd.underlying77 (plainElem (H := Unit) Tryd.prog 3) M 3 ((((DataW.map [] : DataW Unit).put (.int .i64 0) (.lit (.int .i64 1))).put (.int .i64 2) (.lit (.int .i64 2))).put (.int .i64 3) (.lit (.int .i64 4))) rfl HOWN3.out (by have : maxLen = 9223372036854775807 := rfl; omega) (.int .i64 5) (.int .i64 5) (.int .i64 5) rfl rfl (keyOfI (by kernel_rfl)) (.lit (.int .i64 5)) [] (plainElem_int Tryd.underlying3 (by kernel_rfl)) ?_))
  intro v4 hown4 hg4
  have HOWN4 := Lib.hid hown4
  have HG4 := Lib.hid hg4
  clear hown4 hg4 HOWN3
  go_wp2_with (with_reducible show wpList _ _ _ (Oper.mk _ (Op.insert _ _ _ _) _ _ _ _ :: _) _ _; (refine wpList_insert_own _ rfl _ _ _ 77 rfl 3 3 keyI Tryd.underlying77 (plainElem (H := Unit) Tryd.prog 3) M 4 (((((DataW.map [] : DataW Unit).put (.int .i64 0) (.lit (.int .i64 1))).put (.int .i64 2) (.lit (.int .i64 2))).put (.int .i64 3) (.lit (.int .i64 4))).put (.int .i64 5) (.lit (.int .i64 5))) rfl HOWN4.out (by have : maxLen = 9223372036854775807 := rfl; omega) (.int .i64 6) (.int .i64 6) (.int .i64 6) rfl rfl (keyOfI (by kernel_rfl)) (.lit (.int .i64 6)) [] (plainElem_int Tryd.underlying3 (by kernel_rfl)) ?_))
  intro v5 hown5 hg5
  have HOWN5 := Lib.hid hown5
  have HG5 := Lib.hid hg5
  clear hown5 hg5 HOWN4
  clear hmk
  have hgb := ((((HG1.out.trans HG2.out).trans HG3.out).trans HG4.out).trans HG5.out)
  have HROW7 := Lib.hid (heap_gbM HROW2.out hgb (by have := HGM.out; omega))
  have HRES7 := Lib.hid (heap_gbM HRES2.out hgb (by have := HGM.out; omega))
  have HB7 := Lib.hid (HB2.out.trans (below_gbM hgb HMS.out HB2.out.size))
  have hown : OwnI v5 M 5 doD := HOWN5.out
  have r0 := cell_of_row _ _ 0 _ _ _ HROW7.out
  clear hgb HG1 HG2 HG3 HG4 HG5 HROW2 HRES2 HB2 HOWN5
  go_wp2_with (at_lookup; (refine wpList_lookup_own_int _ rfl _ _ 77 rfl 3 3 .i64 keyI Tryd.underlying77 Tryd.underlying3 (zeroI _) M 5 doD rfl hown (.int .i64 1) (.int .i64 1) rfl (keyOfI (by kernel_rfl)) ?_))
  intro cv hat hwc
  have hcv : cv = 0 := by have e := hat.symm.trans doD_1; injection e with e; injection e
  subst hcv
  clear hat hwc hown
  have h8 := heap_alloc_new v5 (.cells #[.int .i64 0, .string (⟨#[]⟩ : ByteArray), .string (⟨#[]⟩ : ByteArray), .string (⟨#[]⟩ : ByteArray), .int .i64 0, .string (⟨#[]⟩ : ByteArray), .int .i64 0, .int .i64 0, .string (⟨#[]⟩ : ByteArray), .slice none 0 0] 45)
  have hb8 := (Below.refl v5.heap.size v5).alloc (Nat.le_refl _) (.cells #[.int .i64 0, .string (⟨#[]⟩ : ByteArray), .string (⟨#[]⟩ : ByteArray), .string (⟨#[]⟩ : ByteArray), .int .i64 0, .string (⟨#[]⟩ : ByteArray), .int .i64 0, .int .i64 0, .string (⟨#[]⟩ : ByteArray), .slice none 0 0] 45)
  obtain ⟨w8, hw8⟩ : ∃ w, w = v5.alloc (.cells #[.int .i64 0, .string (⟨#[]⟩ : ByteArray), .string (⟨#[]⟩ : ByteArray), .string (⟨#[]⟩ : ByteArray), .int .i64 0, .string (⟨#[]⟩ : ByteArray), .int .i64 0, .int .i64 0, .string (⟨#[]⟩ : ByteArray), .slice none 0 0] 45) := ⟨_, rfl⟩
  obtain ⟨b8, hb8e⟩ : ∃ b, b = v5.heap.size := ⟨_, rfl⟩
  rw [← hw8] at h8 hb8
  rw [← hb8e] at h8
  have HGB := Lib.hid (show g < b8 ∧ g4 < b8 ∧ W.heap.size ≤ b8 by rw [hb8e]; exact ⟨lt_of_heap HROW7.out, lt_of_heap HRES7.out, HB7.out.size⟩)
  have HROW8 := Lib.hid (heap_below HROW7.out hb8)
  have HRES8 := Lib.hid (heap_below HRES7.out hb8)
  have HB8 := Lib.hid (bt HB7.out hb8)
  have HW8 := Lib.hid (And.intro hw8 hb8e)
  have H8 := Lib.hid h8
  have r0b := cell_of_row _ _ 0 _ _ _ HROW8.out
  rw [hw8] at r0b
  clear hw8 hb8e hb8 h8 HROW7 HRES7 HB7 r0
  go_wp2_with (rw [← HW8.out.1]; refine wpList_store_rowP rfl 45 (.tmp 4) (.tmp 28) rfl g4 #[.int .i64 0, .string (⟨#[]⟩ : ByteArray), .string (⟨#[]⟩ : ByteArray), .string (⟨#[]⟩ : ByteArray), .int .i64 0, .string (⟨#[]⟩ : ByteArray), .int .i64 0, .int .i64 0, .string (⟨#[]⟩ : ByteArray), .slice none 0 0] rfl rfl _ _ HRES8.out (by kernel_rfl) rfl (by simp [Value.oneCell']) ?_; intro w9 hput; have HPUT := Lib.hid hput; clear hput)
  have hput := HPUT.out
  refine bodyPost_ret (results_ct Tryd.results12 _ _ g4 45 #[.int .i64 0, .string (⟨#[]⟩ : ByteArray), .string (⟨#[]⟩ : ByteArray), .string (⟨#[]⟩ : ByteArray), .int .i64 0, .string (⟨#[]⟩ : ByteArray), .int .i64 0, .int .i64 0, .string (⟨#[]⟩ : ByteArray), .slice none 0 0] (0, 0) _ rfl hput.here Tryd.underlying45 rfl (by kernel_rfl)) rfl ?_
  exact InvPost.mk HVV.out HBB.out (HB8.out.trans (hput.below (by have := HG.out.2; omega)))
set_option maxHeartbeats 8000000 in
set_option maxRecDepth 100000 in
theorem ref_undo_2 (ks : List KindV) (ka : Option Addr) (n kc : Nat) (hn : ks.length = n) (h1 : n ≤ 1048576) (hv : ∀ k ∈ ks, k.fields.length ≤ 1048576) (y : MoveV) (a : Option Addr) (c : Nat) (W : World) (hz : SlAt 2 KindAt W ka ks) (hk0 : kindsE ks = 0) (he : oneE ks y = 0) (hd : y.do_ = 2) :
    Calls Tryd.prog 12 #[.slice ka n kc, .agg #[.int .i64 2, .string y.kind, .string y.field, .string y.name, .int .i64 y.value, .string y.new.name, .int .i64 y.new.bits, .int .i64 y.new.low, .string y.whole.name, .slice a y.whole.fields.length c]] W (InvPost ks y W) := by
  have hp := (oneE_kinds he).1
  have hV : invV ks y = ⟨2, y.name, (⟨#[]⟩ : ByteArray), y.kind, 0, zF, zK⟩ := by unfold invV; rw [if_neg (show ¬ y.do_ = 0 by rw [hd]; decide), if_pos hd]
  have hB : invB ks y = true := by unfold invB; rw [if_neg (by rw [hd]; decide), if_neg (by rw [hd]; decide)]
  have HVV := Lib.hid hV
  have HBB := Lib.hid hB
  have hb0 := ((Below.refl W.heap.size W).alloc (Nat.le_refl _) (.cells #[.int .i64 2, .string y.kind, .string y.field, .string y.name, .int .i64 y.value, .string y.new.name, .int .i64 y.new.bits, .int .i64 y.new.low, .string y.whole.name, .slice a y.whole.fields.length c] 45)).alloc (by simp) (.cells #[.int .i64 0, .string (⟨#[]⟩ : ByteArray), .string (⟨#[]⟩ : ByteArray), .string (⟨#[]⟩ : ByteArray), .int .i64 0, .string (⟨#[]⟩ : ByteArray), .int .i64 0, .int .i64 0, .string (⟨#[]⟩ : ByteArray), .slice none 0 0] 45)
  have hrow := heap_keep (heap_alloc_new W (.cells #[.int .i64 2, .string y.kind, .string y.field, .string y.name, .int .i64 y.value, .string y.new.name, .int .i64 y.new.bits, .int .i64 y.new.low, .string y.whole.name, .slice a y.whole.fields.length c] 45)) (.cells #[.int .i64 0, .string (⟨#[]⟩ : ByteArray), .string (⟨#[]⟩ : ByteArray), .string (⟨#[]⟩ : ByteArray), .int .i64 0, .string (⟨#[]⟩ : ByteArray), .int .i64 0, .int .i64 0, .string (⟨#[]⟩ : ByteArray), .slice none 0 0] 45)
  have hres := heap_alloc_new (W.alloc (.cells #[.int .i64 2, .string y.kind, .string y.field, .string y.name, .int .i64 y.value, .string y.new.name, .int .i64 y.new.bits, .int .i64 y.new.low, .string y.whole.name, .slice a y.whole.fields.length c] 45)) (.cells #[.int .i64 0, .string (⟨#[]⟩ : ByteArray), .string (⟨#[]⟩ : ByteArray), .string (⟨#[]⟩ : ByteArray), .int .i64 0, .string (⟨#[]⟩ : ByteArray), .int .i64 0, .int .i64 0, .string (⟨#[]⟩ : ByteArray), .slice none 0 0] 45)
  rw [World.size_alloc] at hres
  obtain ⟨w0, hw0⟩ : ∃ w, w = (W.alloc (.cells #[.int .i64 2, .string y.kind, .string y.field, .string y.name, .int .i64 y.value, .string y.new.name, .int .i64 y.new.bits, .int .i64 y.new.low, .string y.whole.name, .slice a y.whole.fields.length c] 45)).alloc (.cells #[.int .i64 0, .string (⟨#[]⟩ : ByteArray), .string (⟨#[]⟩ : ByteArray), .string (⟨#[]⟩ : ByteArray), .int .i64 0, .string (⟨#[]⟩ : ByteArray), .int .i64 0, .int .i64 0, .string (⟨#[]⟩ : ByteArray), .slice none 0 0] 45) := ⟨_, rfl⟩
  rw [← hw0] at hb0 hrow hres
  have cP := ref_where ks _ n kc hn h1 hv y w0 (hz.below KindAt.abides hb0)
  obtain ⟨I, hI⟩ : ∃ x, x = iK ks y := ⟨_, rfl⟩
  obtain ⟨J, hJ⟩ : ∃ x, x = jW ks y := ⟨_, rfl⟩
  rw [← hI, ← hJ] at cP
  obtain ⟨nk, hnk⟩ : ∃ x, x = y.kind := ⟨_, rfl⟩
  obtain ⟨nf, hnf⟩ : ∃ x, x = y.field := ⟨_, rfl⟩
  obtain ⟨nm, hnm⟩ : ∃ x, x = y.name := ⟨_, rfl⟩
  obtain ⟨vv, hvv⟩ : ∃ x, x = y.value := ⟨_, rfl⟩
  obtain ⟨fn, hfn⟩ : ∃ x, x = y.new.name := ⟨_, rfl⟩
  obtain ⟨fb, hfb⟩ : ∃ x, x = y.new.bits := ⟨_, rfl⟩
  obtain ⟨fo, hfo⟩ : ∃ x, x = y.new.low := ⟨_, rfl⟩
  obtain ⟨wn, hwn⟩ : ∃ x, x = y.whole.name := ⟨_, rfl⟩
  obtain ⟨wl, hwl⟩ : ∃ x, x = y.whole.fields.length := ⟨_, rfl⟩
  rw [← hnk, ← hnf, ← hnm, ← hvv, ← hfn, ← hfb, ← hfo, ← hwn, ← hwl] at hrow hw0 ⊢
  rw [← hnk, ← hnf] at cP
  rw [← hnm, ← hnk] at HVV
  obtain ⟨g, hg⟩ : ∃ g, g = W.heap.size := ⟨_, rfl⟩
  obtain ⟨g4, hg4⟩ : ∃ x, x = W.heap.size + 1 := ⟨_, rfl⟩
  rw [← hg] at hrow
  rw [← hg4] at hres
  have HB := Lib.hid hb0
  have HROW := Lib.hid hrow
  have HRES := Lib.hid hres
  have HW0 := Lib.hid hw0
  have HG := Lib.hid (And.intro hg hg4)
  have HN := Lib.hid hn
  have H1 := Lib.hid h1
  have HZ := Lib.hid hz
  have CP := Lib.hid cP
  have hmk := @run_makeMap Tryd.prog
  clear hV hB hp hb0 hrow hres hw0 hg hg4 hn h1 hv hz hd hk0 he hnk hnf hnm hvv hfn hfb hfo hwn hwl cP hI hJ
  go_enter Tryd.func12, Tryd.ntmps12
  go_wp2_with fail
  rw [← HW0.out, ← HG.out.2, ← HG.out.1]
  refine CP.out.mono ?_
  rintro e w1 ⟨rfl, hb1⟩
  have hown0 : OwnI (w1.alloc (.map #[] 0)) w1.heap.size 0 (.map []) := World.ownsMap_made w1 Tryd.prog 3 _
  have hbm := (Below.refl w1.heap.size w1).alloc (Nat.le_refl _) (.map #[] 0)
  obtain ⟨w2, hw2⟩ : ∃ w, w = w1.alloc (.map #[] 0) := ⟨_, rfl⟩
  obtain ⟨M, hM⟩ : ∃ b, b = w1.heap.size := ⟨_, rfl⟩
  have HM := Lib.hid (And.intro hw2 hM)
  have HB1 := Lib.hid (bt HB.out hb1)
  have HROW1 := Lib.hid (heap_below HROW.out hb1)
  have HRES1 := Lib.hid (heap_below HRES.out hb1)
  rw [← hw2] at hbm
  have HROW2 := Lib.hid (heap_below HROW1.out hbm)
  have HRES2 := Lib.hid (heap_below HRES1.out hbm)
  have HB2 := Lib.hid (bt HB1.out hbm)
  have HGM := Lib.hid (show g < M ∧ g4 < M by rw [hM]; exact ⟨lt_of_heap HROW1.out, lt_of_heap HRES1.out⟩)
  have HMS := Lib.hid (show W.heap.size ≤ M by rw [hM]; exact HB1.out.size)
  have HOWN0 := Lib.hid hown0
  clear hb1 CP HW0 hw2 hM hown0 hbm HB HROW HRES HROW1 HRES1 HB1
  go_wp2_with (with_reducible show wpList _ _ _ (Oper.mk _ (Op.insert _ _ _ _) _ _ _ _ :: _) _ _; (refine wpList_insert_own _ rfl _ _ _ 77 rfl 3 3 keyI Tryd.underlying77 (plainElem (H := Unit) Tryd.prog 3) w1.heap.size 0 (DataW.map [] : DataW Unit) rfl HOWN0.out (by have : maxLen = 9223372036854775807 := rfl; omega) (.int .i64 0) (.int .i64 1) (.int .i64 0) rfl rfl (keyOfI (by kernel_rfl)) (.lit (.int .i64 1)) [] (plainElem_int Tryd.underlying3 (by kernel_rfl)) ?_))
  intro v1 hown1 hg1
  rw [← HM.out.1, ← HM.out.2] at hg1
  rw [← HM.out.2] at hown1 ⊢
  have HOWN1 := Lib.hid hown1
  have HG1 := Lib.hid hg1
  clear hown1 hg1 HOWN0
  go_wp2_with (with_reducible show wpList _ _ _ (Oper.mk _ (Op.insert _ _ _ _) _ _ _ _ :: _) _ _; (refine wpList_insert_own _ rfl _ _ _ 77 rfl 3 3 keyI Tryd.underlying77 (plainElem (H := Unit) Tryd.prog 3) M 1 ((DataW.map [] : DataW Unit).put (.int .i64 0) (.lit (.int .i64 1))) rfl HOWN1.out (by have : maxLen = 9223372036854775807 := rfl; omega) (.int .i64 2) (.int .i64 2) (.int .i64 2) rfl rfl (keyOfI (by kernel_rfl)) (.lit (.int .i64 2)) [] (plainElem_int Tryd.underlying3 (by kernel_rfl)) ?_))
  intro v2 hown2 hg2
  have HOWN2 := Lib.hid hown2
  have HG2 := Lib.hid hg2
  clear hown2 hg2 HOWN1
  go_wp2_with (with_reducible show wpList _ _ _ (Oper.mk _ (Op.insert _ _ _ _) _ _ _ _ :: _) _ _; (refine wpList_insert_own _ rfl _ _ _ 77 rfl 3 3 keyI Tryd.underlying77 (plainElem (H := Unit) Tryd.prog 3) M 2 (((DataW.map [] : DataW Unit).put (.int .i64 0) (.lit (.int .i64 1))).put (.int .i64 2) (.lit (.int .i64 2))) rfl HOWN2.out (by have : maxLen = 9223372036854775807 := rfl; omega) (.int .i64 3) (.int .i64 4) (.int .i64 3) rfl rfl (keyOfI (by kernel_rfl)) (.lit (.int .i64 4)) [] (plainElem_int Tryd.underlying3 (by kernel_rfl)) ?_))
  intro v3 hown3 hg3
  have HOWN3 := Lib.hid hown3
  have HG3 := Lib.hid hg3
  clear hown3 hg3 HOWN2
  go_wp2_with (with_reducible show wpList _ _ _ (Oper.mk _ (Op.insert _ _ _ _) _ _ _ _ :: _) _ _; (refine wpList_insert_own _ rfl _ _ _ 77 rfl 3 3 keyI Tryd.underlying77 (plainElem (H := Unit) Tryd.prog 3) M 3 ((((DataW.map [] : DataW Unit).put (.int .i64 0) (.lit (.int .i64 1))).put (.int .i64 2) (.lit (.int .i64 2))).put (.int .i64 3) (.lit (.int .i64 4))) rfl HOWN3.out (by have : maxLen = 9223372036854775807 := rfl; omega) (.int .i64 5) (.int .i64 5) (.int .i64 5) rfl rfl (keyOfI (by kernel_rfl)) (.lit (.int .i64 5)) [] (plainElem_int Tryd.underlying3 (by kernel_rfl)) ?_))
  intro v4 hown4 hg4
  have HOWN4 := Lib.hid hown4
  have HG4 := Lib.hid hg4
  clear hown4 hg4 HOWN3
  go_wp2_with (with_reducible show wpList _ _ _ (Oper.mk _ (Op.insert _ _ _ _) _ _ _ _ :: _) _ _; (refine wpList_insert_own _ rfl _ _ _ 77 rfl 3 3 keyI Tryd.underlying77 (plainElem (H := Unit) Tryd.prog 3) M 4 (((((DataW.map [] : DataW Unit).put (.int .i64 0) (.lit (.int .i64 1))).put (.int .i64 2) (.lit (.int .i64 2))).put (.int .i64 3) (.lit (.int .i64 4))).put (.int .i64 5) (.lit (.int .i64 5))) rfl HOWN4.out (by have : maxLen = 9223372036854775807 := rfl; omega) (.int .i64 6) (.int .i64 6) (.int .i64 6) rfl rfl (keyOfI (by kernel_rfl)) (.lit (.int .i64 6)) [] (plainElem_int Tryd.underlying3 (by kernel_rfl)) ?_))
  intro v5 hown5 hg5
  have HOWN5 := Lib.hid hown5
  have HG5 := Lib.hid hg5
  clear hown5 hg5 HOWN4
  clear hmk
  have hgb := ((((HG1.out.trans HG2.out).trans HG3.out).trans HG4.out).trans HG5.out)
  have HROW7 := Lib.hid (heap_gbM HROW2.out hgb (by have := HGM.out; omega))
  have HRES7 := Lib.hid (heap_gbM HRES2.out hgb (by have := HGM.out; omega))
  have HB7 := Lib.hid (HB2.out.trans (below_gbM hgb HMS.out HB2.out.size))
  have hown : OwnI v5 M 5 doD := HOWN5.out
  have r0 := cell_of_row _ _ 0 _ _ _ HROW7.out
  clear hgb HG1 HG2 HG3 HG4 HG5 HROW2 HRES2 HB2 HOWN5
  go_wp2_with (at_lookup; (refine wpList_lookup_own_int _ rfl _ _ 77 rfl 3 3 .i64 keyI Tryd.underlying77 Tryd.underlying3 (zeroI _) M 5 doD rfl hown (.int .i64 2) (.int .i64 2) rfl (keyOfI (by kernel_rfl)) ?_))
  intro cv hat hwc
  have hcv : cv = 2 := by have e := hat.symm.trans doD_2; injection e with e; injection e
  subst hcv
  clear hat hwc hown
  have h8 := heap_alloc_new v5 (.cells #[.int .i64 2, .string (⟨#[]⟩ : ByteArray), .string (⟨#[]⟩ : ByteArray), .string (⟨#[]⟩ : ByteArray), .int .i64 0, .string (⟨#[]⟩ : ByteArray), .int .i64 0, .int .i64 0, .string (⟨#[]⟩ : ByteArray), .slice none 0 0] 45)
  have hb8 := (Below.refl v5.heap.size v5).alloc (Nat.le_refl _) (.cells #[.int .i64 2, .string (⟨#[]⟩ : ByteArray), .string (⟨#[]⟩ : ByteArray), .string (⟨#[]⟩ : ByteArray), .int .i64 0, .string (⟨#[]⟩ : ByteArray), .int .i64 0, .int .i64 0, .string (⟨#[]⟩ : ByteArray), .slice none 0 0] 45)
  obtain ⟨w8, hw8⟩ : ∃ w, w = v5.alloc (.cells #[.int .i64 2, .string (⟨#[]⟩ : ByteArray), .string (⟨#[]⟩ : ByteArray), .string (⟨#[]⟩ : ByteArray), .int .i64 0, .string (⟨#[]⟩ : ByteArray), .int .i64 0, .int .i64 0, .string (⟨#[]⟩ : ByteArray), .slice none 0 0] 45) := ⟨_, rfl⟩
  obtain ⟨b8, hb8e⟩ : ∃ b, b = v5.heap.size := ⟨_, rfl⟩
  rw [← hw8] at h8 hb8
  rw [← hb8e] at h8
  have HGB := Lib.hid (show g < b8 ∧ g4 < b8 ∧ W.heap.size ≤ b8 by rw [hb8e]; exact ⟨lt_of_heap HROW7.out, lt_of_heap HRES7.out, HB7.out.size⟩)
  have HROW8 := Lib.hid (heap_below HROW7.out hb8)
  have HRES8 := Lib.hid (heap_below HRES7.out hb8)
  have HB8 := Lib.hid (bt HB7.out hb8)
  have HW8 := Lib.hid (And.intro hw8 hb8e)
  have H8 := Lib.hid h8
  have r0b := cell_of_row _ _ 0 _ _ _ HROW8.out
  rw [hw8] at r0b
  clear hw8 hb8e hb8 h8 HROW7 HRES7 HB7 r0
  obtain ⟨wD, hwD⟩ : ∃ w, w = ((w8.setCell ⟨b8, 1, none⟩ (.string nm)).setCell ⟨b8, 3, none⟩ (.string nk)).drew := ⟨_, rfl⟩
  have R8D := Lib.hid (show wD.heap[b8]? = some (.cells #[.int .i64 2, .string nm, .string (⟨#[]⟩ : ByteArray), .string nk, .int .i64 0, .string (⟨#[]⟩ : ByteArray), .int .i64 0, .int .i64 0, .string (⟨#[]⟩ : ByteArray), .slice none 0 0] 45 (0, 0)) by rw [hwD]; exact (heap_set (heap_set H8.out 1 (.string nm)) 3 (.string nk)))
  have HRESD := Lib.hid (show wD.heap[g4]? = some (.cells #[.int .i64 0, .string (⟨#[]⟩ : ByteArray), .string (⟨#[]⟩ : ByteArray), .string (⟨#[]⟩ : ByteArray), .int .i64 0, .string (⟨#[]⟩ : ByteArray), .int .i64 0, .int .i64 0, .string (⟨#[]⟩ : ByteArray), .slice none 0 0] 45 (0, 0)) by rw [hwD]; exact (Mem.heap_far (Mem.heap_far HRES8.out (by have := HGB.out; show g4 ≠ b8; omega) (.string nm)) (by have := HGB.out; show g4 ≠ b8; omega) (.string nk)))
  have HBD := Lib.hid (show Below W.heap.size W wD by rw [hwD]; exact ((HB8.out.setCell (show W.heap.size ≤ b8 from HGB.out.2.2) (.string nm)).setCell (show W.heap.size ≤ b8 from HGB.out.2.2) (.string nk)).drew)
  have HWD := Lib.hid hwD
  clear hwD
  go_upto_region 8 with fail
  rw [← HW8.out.1, ← HW8.out.2]
  have r3 := cell_of_row _ _ 3 _ _ _ HROW8.out
  have z1 := cell_of_row _ _ 1 _ _ _ H8.out
  have k1 := Mem.frozen_of_row H8.out 1
  have r1 := cell_of_row _ _ 1 _ _ _ HROW8.out
  have z3 := cell_of_row _ _ 3 _ _ _ H8.out
  have k3 := Mem.frozen_of_row H8.out 3
  clear r0b
  have hne : g ≠ b8 := by have := HGB.out; omega
  have y0 := cell_of_row _ _ 0 _ _ _ R8D.out
  have y1 := cell_of_row _ _ 1 _ _ _ R8D.out
  have y2 := cell_of_row _ _ 2 _ _ _ R8D.out
  have y3 := cell_of_row _ _ 3 _ _ _ R8D.out
  have y4 := cell_of_row _ _ 4 _ _ _ R8D.out
  have y5 := cell_of_row _ _ 5 _ _ _ R8D.out
  have y6 := cell_of_row _ _ 6 _ _ _ R8D.out
  have y7 := cell_of_row _ _ 7 _ _ _ R8D.out
  have y8 := cell_of_row _ _ 8 _ _ _ R8D.out
  have y9 := cell_of_row _ _ 9 _ _ _ R8D.out
  rw [HWD.out] at y0 y1 y2 y3 y4 y5 y6 y7 y8 y9
  go_region
  go_wp2_with (rw [← HWD.out]; refine wpList_store_rowP rfl 45 (.tmp 4) (.tmp 111) rfl g4 #[.int .i64 2, .string nm, .string (⟨#[]⟩ : ByteArray), .string nk, .int .i64 0, .string (⟨#[]⟩ : ByteArray), .int .i64 0, .int .i64 0, .string (⟨#[]⟩ : ByteArray), .slice none 0 0] rfl rfl _ _ HRESD.out (by kernel_rfl) rfl (by simp [Value.oneCell']) ?_; intro w9 hput; have HPUT := Lib.hid hput; clear hput)
  have hput := HPUT.out
  refine bodyPost_ret (results_ct Tryd.results12 _ _ g4 45 #[.int .i64 2, .string nm, .string (⟨#[]⟩ : ByteArray), .string nk, .int .i64 0, .string (⟨#[]⟩ : ByteArray), .int .i64 0, .int .i64 0, .string (⟨#[]⟩ : ByteArray), .slice none 0 0] (0, 0) _ rfl hput.here Tryd.underlying45 rfl (by kernel_rfl)) rfl ?_
  exact InvPost.mk HVV.out HBB.out (HBD.out.trans (hput.below (by have := HG.out.2; omega)))
set_option maxHeartbeats 8000000 in
set_option maxRecDepth 100000 in
theorem ref_undo_3 (ks : List KindV) (ka : Option Addr) (n kc : Nat) (hn : ks.length = n) (h1 : n ≤ 1048576) (hv : ∀ k ∈ ks, k.fields.length ≤ 1048576) (y : MoveV) (a : Option Addr) (c : Nat) (W : World) (hz : SlAt 2 KindAt W ka ks) (hk0 : kindsE ks = 0) (he : oneE ks y = 0) (hd : y.do_ = 3) :
    Calls Tryd.prog 12 #[.slice ka n kc, .agg #[.int .i64 3, .string y.kind, .string y.field, .string y.name, .int .i64 y.value, .string y.new.name, .int .i64 y.new.bits, .int .i64 y.new.low, .string y.whole.name, .slice a y.whole.fields.length c]] W (InvPost ks y W) := by
  have hp := (oneE_kinds he).1
  have hV : invV ks y = ⟨4, y.kind, y.new.name, (⟨#[]⟩ : ByteArray), 0, zF, zK⟩ := by unfold invV; rw [if_neg (show ¬ y.do_ = 0 by rw [hd]; decide), if_neg (show ¬ y.do_ = 2 by rw [hd]; decide), if_pos hd]
  have hB : invB ks y = true := by unfold invB; rw [if_neg (by rw [hd]; decide), if_neg (by rw [hd]; decide)]
  have HVV := Lib.hid hV
  have HBB := Lib.hid hB
  have hb0 := ((Below.refl W.heap.size W).alloc (Nat.le_refl _) (.cells #[.int .i64 3, .string y.kind, .string y.field, .string y.name, .int .i64 y.value, .string y.new.name, .int .i64 y.new.bits, .int .i64 y.new.low, .string y.whole.name, .slice a y.whole.fields.length c] 45)).alloc (by simp) (.cells #[.int .i64 0, .string (⟨#[]⟩ : ByteArray), .string (⟨#[]⟩ : ByteArray), .string (⟨#[]⟩ : ByteArray), .int .i64 0, .string (⟨#[]⟩ : ByteArray), .int .i64 0, .int .i64 0, .string (⟨#[]⟩ : ByteArray), .slice none 0 0] 45)
  have hrow := heap_keep (heap_alloc_new W (.cells #[.int .i64 3, .string y.kind, .string y.field, .string y.name, .int .i64 y.value, .string y.new.name, .int .i64 y.new.bits, .int .i64 y.new.low, .string y.whole.name, .slice a y.whole.fields.length c] 45)) (.cells #[.int .i64 0, .string (⟨#[]⟩ : ByteArray), .string (⟨#[]⟩ : ByteArray), .string (⟨#[]⟩ : ByteArray), .int .i64 0, .string (⟨#[]⟩ : ByteArray), .int .i64 0, .int .i64 0, .string (⟨#[]⟩ : ByteArray), .slice none 0 0] 45)
  have hres := heap_alloc_new (W.alloc (.cells #[.int .i64 3, .string y.kind, .string y.field, .string y.name, .int .i64 y.value, .string y.new.name, .int .i64 y.new.bits, .int .i64 y.new.low, .string y.whole.name, .slice a y.whole.fields.length c] 45)) (.cells #[.int .i64 0, .string (⟨#[]⟩ : ByteArray), .string (⟨#[]⟩ : ByteArray), .string (⟨#[]⟩ : ByteArray), .int .i64 0, .string (⟨#[]⟩ : ByteArray), .int .i64 0, .int .i64 0, .string (⟨#[]⟩ : ByteArray), .slice none 0 0] 45)
  rw [World.size_alloc] at hres
  obtain ⟨w0, hw0⟩ : ∃ w, w = (W.alloc (.cells #[.int .i64 3, .string y.kind, .string y.field, .string y.name, .int .i64 y.value, .string y.new.name, .int .i64 y.new.bits, .int .i64 y.new.low, .string y.whole.name, .slice a y.whole.fields.length c] 45)).alloc (.cells #[.int .i64 0, .string (⟨#[]⟩ : ByteArray), .string (⟨#[]⟩ : ByteArray), .string (⟨#[]⟩ : ByteArray), .int .i64 0, .string (⟨#[]⟩ : ByteArray), .int .i64 0, .int .i64 0, .string (⟨#[]⟩ : ByteArray), .slice none 0 0] 45) := ⟨_, rfl⟩
  rw [← hw0] at hb0 hrow hres
  have cP := ref_where ks _ n kc hn h1 hv y w0 (hz.below KindAt.abides hb0)
  obtain ⟨I, hI⟩ : ∃ x, x = iK ks y := ⟨_, rfl⟩
  obtain ⟨J, hJ⟩ : ∃ x, x = jW ks y := ⟨_, rfl⟩
  rw [← hI, ← hJ] at cP
  obtain ⟨nk, hnk⟩ : ∃ x, x = y.kind := ⟨_, rfl⟩
  obtain ⟨nf, hnf⟩ : ∃ x, x = y.field := ⟨_, rfl⟩
  obtain ⟨nm, hnm⟩ : ∃ x, x = y.name := ⟨_, rfl⟩
  obtain ⟨vv, hvv⟩ : ∃ x, x = y.value := ⟨_, rfl⟩
  obtain ⟨fn, hfn⟩ : ∃ x, x = y.new.name := ⟨_, rfl⟩
  obtain ⟨fb, hfb⟩ : ∃ x, x = y.new.bits := ⟨_, rfl⟩
  obtain ⟨fo, hfo⟩ : ∃ x, x = y.new.low := ⟨_, rfl⟩
  obtain ⟨wn, hwn⟩ : ∃ x, x = y.whole.name := ⟨_, rfl⟩
  obtain ⟨wl, hwl⟩ : ∃ x, x = y.whole.fields.length := ⟨_, rfl⟩
  rw [← hnk, ← hnf, ← hnm, ← hvv, ← hfn, ← hfb, ← hfo, ← hwn, ← hwl] at hrow hw0 ⊢
  rw [← hnk, ← hnf] at cP
  rw [← hnk, ← hfn] at HVV
  obtain ⟨g, hg⟩ : ∃ g, g = W.heap.size := ⟨_, rfl⟩
  obtain ⟨g4, hg4⟩ : ∃ x, x = W.heap.size + 1 := ⟨_, rfl⟩
  rw [← hg] at hrow
  rw [← hg4] at hres
  have HB := Lib.hid hb0
  have HROW := Lib.hid hrow
  have HRES := Lib.hid hres
  have HW0 := Lib.hid hw0
  have HG := Lib.hid (And.intro hg hg4)
  have HN := Lib.hid hn
  have H1 := Lib.hid h1
  have HZ := Lib.hid hz
  have CP := Lib.hid cP
  have hmk := @run_makeMap Tryd.prog
  clear hV hB hp hb0 hrow hres hw0 hg hg4 hn h1 hv hz hd hk0 he hnk hnf hnm hvv hfn hfb hfo hwn hwl cP hI hJ
  go_enter Tryd.func12, Tryd.ntmps12
  go_wp2_with fail
  rw [← HW0.out, ← HG.out.2, ← HG.out.1]
  refine CP.out.mono ?_
  rintro e w1 ⟨rfl, hb1⟩
  have hown0 : OwnI (w1.alloc (.map #[] 0)) w1.heap.size 0 (.map []) := World.ownsMap_made w1 Tryd.prog 3 _
  have hbm := (Below.refl w1.heap.size w1).alloc (Nat.le_refl _) (.map #[] 0)
  obtain ⟨w2, hw2⟩ : ∃ w, w = w1.alloc (.map #[] 0) := ⟨_, rfl⟩
  obtain ⟨M, hM⟩ : ∃ b, b = w1.heap.size := ⟨_, rfl⟩
  have HM := Lib.hid (And.intro hw2 hM)
  have HB1 := Lib.hid (bt HB.out hb1)
  have HROW1 := Lib.hid (heap_below HROW.out hb1)
  have HRES1 := Lib.hid (heap_below HRES.out hb1)
  rw [← hw2] at hbm
  have HROW2 := Lib.hid (heap_below HROW1.out hbm)
  have HRES2 := Lib.hid (heap_below HRES1.out hbm)
  have HB2 := Lib.hid (bt HB1.out hbm)
  have HGM := Lib.hid (show g < M ∧ g4 < M by rw [hM]; exact ⟨lt_of_heap HROW1.out, lt_of_heap HRES1.out⟩)
  have HMS := Lib.hid (show W.heap.size ≤ M by rw [hM]; exact HB1.out.size)
  have HOWN0 := Lib.hid hown0
  clear hb1 CP HW0 hw2 hM hown0 hbm HB HROW HRES HROW1 HRES1 HB1
  go_wp2_with (with_reducible show wpList _ _ _ (Oper.mk _ (Op.insert _ _ _ _) _ _ _ _ :: _) _ _; (refine wpList_insert_own _ rfl _ _ _ 77 rfl 3 3 keyI Tryd.underlying77 (plainElem (H := Unit) Tryd.prog 3) w1.heap.size 0 (DataW.map [] : DataW Unit) rfl HOWN0.out (by have : maxLen = 9223372036854775807 := rfl; omega) (.int .i64 0) (.int .i64 1) (.int .i64 0) rfl rfl (keyOfI (by kernel_rfl)) (.lit (.int .i64 1)) [] (plainElem_int Tryd.underlying3 (by kernel_rfl)) ?_))
  intro v1 hown1 hg1
  rw [← HM.out.1, ← HM.out.2] at hg1
  rw [← HM.out.2] at hown1 ⊢
  have HOWN1 := Lib.hid hown1
  have HG1 := Lib.hid hg1
  clear hown1 hg1 HOWN0
  go_wp2_with (with_reducible show wpList _ _ _ (Oper.mk _ (Op.insert _ _ _ _) _ _ _ _ :: _) _ _; (refine wpList_insert_own _ rfl _ _ _ 77 rfl 3 3 keyI Tryd.underlying77 (plainElem (H := Unit) Tryd.prog 3) M 1 ((DataW.map [] : DataW Unit).put (.int .i64 0) (.lit (.int .i64 1))) rfl HOWN1.out (by have : maxLen = 9223372036854775807 := rfl; omega) (.int .i64 2) (.int .i64 2) (.int .i64 2) rfl rfl (keyOfI (by kernel_rfl)) (.lit (.int .i64 2)) [] (plainElem_int Tryd.underlying3 (by kernel_rfl)) ?_))
  intro v2 hown2 hg2
  have HOWN2 := Lib.hid hown2
  have HG2 := Lib.hid hg2
  clear hown2 hg2 HOWN1
  go_wp2_with (with_reducible show wpList _ _ _ (Oper.mk _ (Op.insert _ _ _ _) _ _ _ _ :: _) _ _; (refine wpList_insert_own _ rfl _ _ _ 77 rfl 3 3 keyI Tryd.underlying77 (plainElem (H := Unit) Tryd.prog 3) M 2 (((DataW.map [] : DataW Unit).put (.int .i64 0) (.lit (.int .i64 1))).put (.int .i64 2) (.lit (.int .i64 2))) rfl HOWN2.out (by have : maxLen = 9223372036854775807 := rfl; omega) (.int .i64 3) (.int .i64 4) (.int .i64 3) rfl rfl (keyOfI (by kernel_rfl)) (.lit (.int .i64 4)) [] (plainElem_int Tryd.underlying3 (by kernel_rfl)) ?_))
  intro v3 hown3 hg3
  have HOWN3 := Lib.hid hown3
  have HG3 := Lib.hid hg3
  clear hown3 hg3 HOWN2
  go_wp2_with (with_reducible show wpList _ _ _ (Oper.mk _ (Op.insert _ _ _ _) _ _ _ _ :: _) _ _; (refine wpList_insert_own _ rfl _ _ _ 77 rfl 3 3 keyI Tryd.underlying77 (plainElem (H := Unit) Tryd.prog 3) M 3 ((((DataW.map [] : DataW Unit).put (.int .i64 0) (.lit (.int .i64 1))).put (.int .i64 2) (.lit (.int .i64 2))).put (.int .i64 3) (.lit (.int .i64 4))) rfl HOWN3.out (by have : maxLen = 9223372036854775807 := rfl; omega) (.int .i64 5) (.int .i64 5) (.int .i64 5) rfl rfl (keyOfI (by kernel_rfl)) (.lit (.int .i64 5)) [] (plainElem_int Tryd.underlying3 (by kernel_rfl)) ?_))
  intro v4 hown4 hg4
  have HOWN4 := Lib.hid hown4
  have HG4 := Lib.hid hg4
  clear hown4 hg4 HOWN3
  go_wp2_with (with_reducible show wpList _ _ _ (Oper.mk _ (Op.insert _ _ _ _) _ _ _ _ :: _) _ _; (refine wpList_insert_own _ rfl _ _ _ 77 rfl 3 3 keyI Tryd.underlying77 (plainElem (H := Unit) Tryd.prog 3) M 4 (((((DataW.map [] : DataW Unit).put (.int .i64 0) (.lit (.int .i64 1))).put (.int .i64 2) (.lit (.int .i64 2))).put (.int .i64 3) (.lit (.int .i64 4))).put (.int .i64 5) (.lit (.int .i64 5))) rfl HOWN4.out (by have : maxLen = 9223372036854775807 := rfl; omega) (.int .i64 6) (.int .i64 6) (.int .i64 6) rfl rfl (keyOfI (by kernel_rfl)) (.lit (.int .i64 6)) [] (plainElem_int Tryd.underlying3 (by kernel_rfl)) ?_))
  intro v5 hown5 hg5
  have HOWN5 := Lib.hid hown5
  have HG5 := Lib.hid hg5
  clear hown5 hg5 HOWN4
  clear hmk
  have hgb := ((((HG1.out.trans HG2.out).trans HG3.out).trans HG4.out).trans HG5.out)
  have HROW7 := Lib.hid (heap_gbM HROW2.out hgb (by have := HGM.out; omega))
  have HRES7 := Lib.hid (heap_gbM HRES2.out hgb (by have := HGM.out; omega))
  have HB7 := Lib.hid (HB2.out.trans (below_gbM hgb HMS.out HB2.out.size))
  have hown : OwnI v5 M 5 doD := HOWN5.out
  have r0 := cell_of_row _ _ 0 _ _ _ HROW7.out
  clear hgb HG1 HG2 HG3 HG4 HG5 HROW2 HRES2 HB2 HOWN5
  go_wp2_with (at_lookup; (refine wpList_lookup_own_int _ rfl _ _ 77 rfl 3 3 .i64 keyI Tryd.underlying77 Tryd.underlying3 (zeroI _) M 5 doD rfl hown (.int .i64 3) (.int .i64 3) rfl (keyOfI (by kernel_rfl)) ?_))
  intro cv hat hwc
  have hcv : cv = 4 := by have e := hat.symm.trans doD_3; injection e with e; injection e
  subst hcv
  clear hat hwc hown
  have h8 := heap_alloc_new v5 (.cells #[.int .i64 4, .string (⟨#[]⟩ : ByteArray), .string (⟨#[]⟩ : ByteArray), .string (⟨#[]⟩ : ByteArray), .int .i64 0, .string (⟨#[]⟩ : ByteArray), .int .i64 0, .int .i64 0, .string (⟨#[]⟩ : ByteArray), .slice none 0 0] 45)
  have hb8 := (Below.refl v5.heap.size v5).alloc (Nat.le_refl _) (.cells #[.int .i64 4, .string (⟨#[]⟩ : ByteArray), .string (⟨#[]⟩ : ByteArray), .string (⟨#[]⟩ : ByteArray), .int .i64 0, .string (⟨#[]⟩ : ByteArray), .int .i64 0, .int .i64 0, .string (⟨#[]⟩ : ByteArray), .slice none 0 0] 45)
  obtain ⟨w8, hw8⟩ : ∃ w, w = v5.alloc (.cells #[.int .i64 4, .string (⟨#[]⟩ : ByteArray), .string (⟨#[]⟩ : ByteArray), .string (⟨#[]⟩ : ByteArray), .int .i64 0, .string (⟨#[]⟩ : ByteArray), .int .i64 0, .int .i64 0, .string (⟨#[]⟩ : ByteArray), .slice none 0 0] 45) := ⟨_, rfl⟩
  obtain ⟨b8, hb8e⟩ : ∃ b, b = v5.heap.size := ⟨_, rfl⟩
  rw [← hw8] at h8 hb8
  rw [← hb8e] at h8
  have HGB := Lib.hid (show g < b8 ∧ g4 < b8 ∧ W.heap.size ≤ b8 by rw [hb8e]; exact ⟨lt_of_heap HROW7.out, lt_of_heap HRES7.out, HB7.out.size⟩)
  have HROW8 := Lib.hid (heap_below HROW7.out hb8)
  have HRES8 := Lib.hid (heap_below HRES7.out hb8)
  have HB8 := Lib.hid (bt HB7.out hb8)
  have HW8 := Lib.hid (And.intro hw8 hb8e)
  have H8 := Lib.hid h8
  have r0b := cell_of_row _ _ 0 _ _ _ HROW8.out
  rw [hw8] at r0b
  clear hw8 hb8e hb8 h8 HROW7 HRES7 HB7 r0
  obtain ⟨wD, hwD⟩ : ∃ w, w = ((w8.setCell ⟨b8, 1, none⟩ (.string nk)).setCell ⟨b8, 2, none⟩ (.string fn)).drew := ⟨_, rfl⟩
  have R8D := Lib.hid (show wD.heap[b8]? = some (.cells #[.int .i64 4, .string nk, .string fn, .string (⟨#[]⟩ : ByteArray), .int .i64 0, .string (⟨#[]⟩ : ByteArray), .int .i64 0, .int .i64 0, .string (⟨#[]⟩ : ByteArray), .slice none 0 0] 45 (0, 0)) by rw [hwD]; exact (heap_set (heap_set H8.out 1 (.string nk)) 2 (.string fn)))
  have HRESD := Lib.hid (show wD.heap[g4]? = some (.cells #[.int .i64 0, .string (⟨#[]⟩ : ByteArray), .string (⟨#[]⟩ : ByteArray), .string (⟨#[]⟩ : ByteArray), .int .i64 0, .string (⟨#[]⟩ : ByteArray), .int .i64 0, .int .i64 0, .string (⟨#[]⟩ : ByteArray), .slice none 0 0] 45 (0, 0)) by rw [hwD]; exact (Mem.heap_far (Mem.heap_far HRES8.out (by have := HGB.out; show g4 ≠ b8; omega) (.string nk)) (by have := HGB.out; show g4 ≠ b8; omega) (.string fn)))
  have HBD := Lib.hid (show Below W.heap.size W wD by rw [hwD]; exact ((HB8.out.setCell (show W.heap.size ≤ b8 from HGB.out.2.2) (.string nk)).setCell (show W.heap.size ≤ b8 from HGB.out.2.2) (.string fn)).drew)
  have HWD := Lib.hid hwD
  clear hwD
  go_upto_region 10 with fail
  rw [← HW8.out.1, ← HW8.out.2]
  have r1 := cell_of_row _ _ 1 _ _ _ HROW8.out
  have z1 := cell_of_row _ _ 1 _ _ _ H8.out
  have k1 := Mem.frozen_of_row H8.out 1
  have r5 := cell_of_row _ _ 5 _ _ _ HROW8.out
  have z2 := cell_of_row _ _ 2 _ _ _ H8.out
  have k2 := Mem.frozen_of_row H8.out 2
  clear r0b
  have hne : g ≠ b8 := by have := HGB.out; omega
  have y0 := cell_of_row _ _ 0 _ _ _ R8D.out
  have y1 := cell_of_row _ _ 1 _ _ _ R8D.out
  have y2 := cell_of_row _ _ 2 _ _ _ R8D.out
  have y3 := cell_of_row _ _ 3 _ _ _ R8D.out
  have y4 := cell_of_row _ _ 4 _ _ _ R8D.out
  have y5 := cell_of_row _ _ 5 _ _ _ R8D.out
  have y6 := cell_of_row _ _ 6 _ _ _ R8D.out
  have y7 := cell_of_row _ _ 7 _ _ _ R8D.out
  have y8 := cell_of_row _ _ 8 _ _ _ R8D.out
  have y9 := cell_of_row _ _ 9 _ _ _ R8D.out
  rw [HWD.out] at y0 y1 y2 y3 y4 y5 y6 y7 y8 y9
  go_region
  go_wp2_with (rw [← HWD.out]; refine wpList_store_rowP rfl 45 (.tmp 4) (.tmp 111) rfl g4 #[.int .i64 4, .string nk, .string fn, .string (⟨#[]⟩ : ByteArray), .int .i64 0, .string (⟨#[]⟩ : ByteArray), .int .i64 0, .int .i64 0, .string (⟨#[]⟩ : ByteArray), .slice none 0 0] rfl rfl _ _ HRESD.out (by kernel_rfl) rfl (by simp [Value.oneCell']) ?_; intro w9 hput; have HPUT := Lib.hid hput; clear hput)
  have hput := HPUT.out
  refine bodyPost_ret (results_ct Tryd.results12 _ _ g4 45 #[.int .i64 4, .string nk, .string fn, .string (⟨#[]⟩ : ByteArray), .int .i64 0, .string (⟨#[]⟩ : ByteArray), .int .i64 0, .int .i64 0, .string (⟨#[]⟩ : ByteArray), .slice none 0 0] (0, 0) _ rfl hput.here Tryd.underlying45 rfl (by kernel_rfl)) rfl ?_
  exact InvPost.mk HVV.out HBB.out (HBD.out.trans (hput.below (by have := HG.out.2; omega)))
set_option maxHeartbeats 8000000 in
set_option maxRecDepth 100000 in
theorem ref_undo_4 (ks : List KindV) (ka : Option Addr) (n kc : Nat) (hn : ks.length = n) (h1 : n ≤ 1048576) (hv : ∀ k ∈ ks, k.fields.length ≤ 1048576) (y : MoveV) (a : Option Addr) (c : Nat) (W : World) (hz : SlAt 2 KindAt W ka ks) (hk0 : kindsE ks = 0) (he : oneE ks y = 0) (hd : y.do_ = 4) :
    Calls Tryd.prog 12 #[.slice ka n kc, .agg #[.int .i64 4, .string y.kind, .string y.field, .string y.name, .int .i64 y.value, .string y.new.name, .int .i64 y.new.bits, .int .i64 y.new.low, .string y.whole.name, .slice a y.whole.fields.length c]] W (InvPost ks y W) := by
  have hp := (oneE_kinds he).1
  have hV : invV ks y = ⟨0, (⟨#[]⟩ : ByteArray), (⟨#[]⟩ : ByteArray), (⟨#[]⟩ : ByteArray), 0, zF, zK⟩ := by unfold invV; rw [if_neg (show ¬ y.do_ = 0 by rw [hd]; decide), if_neg (show ¬ y.do_ = 2 by rw [hd]; decide), if_neg (show ¬ y.do_ = 3 by rw [hd]; decide), if_neg (show ¬ y.do_ = 5 by rw [hd]; decide), if_neg (show ¬ y.do_ = 6 by rw [hd]; decide)]
  have hB : invB ks y = false := by unfold invB; rw [if_pos (Or.inr hd)]
  have HVV := Lib.hid hV
  have HBB := Lib.hid hB
  have hb0 := ((Below.refl W.heap.size W).alloc (Nat.le_refl _) (.cells #[.int .i64 4, .string y.kind, .string y.field, .string y.name, .int .i64 y.value, .string y.new.name, .int .i64 y.new.bits, .int .i64 y.new.low, .string y.whole.name, .slice a y.whole.fields.length c] 45)).alloc (by simp) (.cells #[.int .i64 0, .string (⟨#[]⟩ : ByteArray), .string (⟨#[]⟩ : ByteArray), .string (⟨#[]⟩ : ByteArray), .int .i64 0, .string (⟨#[]⟩ : ByteArray), .int .i64 0, .int .i64 0, .string (⟨#[]⟩ : ByteArray), .slice none 0 0] 45)
  have hrow := heap_keep (heap_alloc_new W (.cells #[.int .i64 4, .string y.kind, .string y.field, .string y.name, .int .i64 y.value, .string y.new.name, .int .i64 y.new.bits, .int .i64 y.new.low, .string y.whole.name, .slice a y.whole.fields.length c] 45)) (.cells #[.int .i64 0, .string (⟨#[]⟩ : ByteArray), .string (⟨#[]⟩ : ByteArray), .string (⟨#[]⟩ : ByteArray), .int .i64 0, .string (⟨#[]⟩ : ByteArray), .int .i64 0, .int .i64 0, .string (⟨#[]⟩ : ByteArray), .slice none 0 0] 45)
  have hres := heap_alloc_new (W.alloc (.cells #[.int .i64 4, .string y.kind, .string y.field, .string y.name, .int .i64 y.value, .string y.new.name, .int .i64 y.new.bits, .int .i64 y.new.low, .string y.whole.name, .slice a y.whole.fields.length c] 45)) (.cells #[.int .i64 0, .string (⟨#[]⟩ : ByteArray), .string (⟨#[]⟩ : ByteArray), .string (⟨#[]⟩ : ByteArray), .int .i64 0, .string (⟨#[]⟩ : ByteArray), .int .i64 0, .int .i64 0, .string (⟨#[]⟩ : ByteArray), .slice none 0 0] 45)
  rw [World.size_alloc] at hres
  obtain ⟨w0, hw0⟩ : ∃ w, w = (W.alloc (.cells #[.int .i64 4, .string y.kind, .string y.field, .string y.name, .int .i64 y.value, .string y.new.name, .int .i64 y.new.bits, .int .i64 y.new.low, .string y.whole.name, .slice a y.whole.fields.length c] 45)).alloc (.cells #[.int .i64 0, .string (⟨#[]⟩ : ByteArray), .string (⟨#[]⟩ : ByteArray), .string (⟨#[]⟩ : ByteArray), .int .i64 0, .string (⟨#[]⟩ : ByteArray), .int .i64 0, .int .i64 0, .string (⟨#[]⟩ : ByteArray), .slice none 0 0] 45) := ⟨_, rfl⟩
  rw [← hw0] at hb0 hrow hres
  have cP := ref_where ks _ n kc hn h1 hv y w0 (hz.below KindAt.abides hb0)
  obtain ⟨I, hI⟩ : ∃ x, x = iK ks y := ⟨_, rfl⟩
  obtain ⟨J, hJ⟩ : ∃ x, x = jW ks y := ⟨_, rfl⟩
  rw [← hI, ← hJ] at cP
  obtain ⟨nk, hnk⟩ : ∃ x, x = y.kind := ⟨_, rfl⟩
  obtain ⟨nf, hnf⟩ : ∃ x, x = y.field := ⟨_, rfl⟩
  obtain ⟨nm, hnm⟩ : ∃ x, x = y.name := ⟨_, rfl⟩
  obtain ⟨vv, hvv⟩ : ∃ x, x = y.value := ⟨_, rfl⟩
  obtain ⟨fn, hfn⟩ : ∃ x, x = y.new.name := ⟨_, rfl⟩
  obtain ⟨fb, hfb⟩ : ∃ x, x = y.new.bits := ⟨_, rfl⟩
  obtain ⟨fo, hfo⟩ : ∃ x, x = y.new.low := ⟨_, rfl⟩
  obtain ⟨wn, hwn⟩ : ∃ x, x = y.whole.name := ⟨_, rfl⟩
  obtain ⟨wl, hwl⟩ : ∃ x, x = y.whole.fields.length := ⟨_, rfl⟩
  rw [← hnk, ← hnf, ← hnm, ← hvv, ← hfn, ← hfb, ← hfo, ← hwn, ← hwl] at hrow hw0 ⊢
  rw [← hnk, ← hnf] at cP
  obtain ⟨g, hg⟩ : ∃ g, g = W.heap.size := ⟨_, rfl⟩
  obtain ⟨g4, hg4⟩ : ∃ x, x = W.heap.size + 1 := ⟨_, rfl⟩
  rw [← hg] at hrow
  rw [← hg4] at hres
  have HB := Lib.hid hb0
  have HROW := Lib.hid hrow
  have HRES := Lib.hid hres
  have HW0 := Lib.hid hw0
  have HG := Lib.hid (And.intro hg hg4)
  have HN := Lib.hid hn
  have H1 := Lib.hid h1
  have HZ := Lib.hid hz
  have CP := Lib.hid cP
  have hmk := @run_makeMap Tryd.prog
  clear hV hB hp hb0 hrow hres hw0 hg hg4 hn h1 hv hz hd hk0 he hnk hnf hnm hvv hfn hfb hfo hwn hwl cP hI hJ
  go_enter Tryd.func12, Tryd.ntmps12
  go_wp2_with fail
  rw [← HW0.out, ← HG.out.2, ← HG.out.1]
  refine CP.out.mono ?_
  rintro e w1 ⟨rfl, hb1⟩
  have hown0 : OwnI (w1.alloc (.map #[] 0)) w1.heap.size 0 (.map []) := World.ownsMap_made w1 Tryd.prog 3 _
  have hbm := (Below.refl w1.heap.size w1).alloc (Nat.le_refl _) (.map #[] 0)
  obtain ⟨w2, hw2⟩ : ∃ w, w = w1.alloc (.map #[] 0) := ⟨_, rfl⟩
  obtain ⟨M, hM⟩ : ∃ b, b = w1.heap.size := ⟨_, rfl⟩
  have HM := Lib.hid (And.intro hw2 hM)
  have HB1 := Lib.hid (bt HB.out hb1)
  have HROW1 := Lib.hid (heap_below HROW.out hb1)
  have HRES1 := Lib.hid (heap_below HRES.out hb1)
  rw [← hw2] at hbm
  have HROW2 := Lib.hid (heap_below HROW1.out hbm)
  have HRES2 := Lib.hid (heap_below HRES1.out hbm)
  have HB2 := Lib.hid (bt HB1.out hbm)
  have HGM := Lib.hid (show g < M ∧ g4 < M by rw [hM]; exact ⟨lt_of_heap HROW1.out, lt_of_heap HRES1.out⟩)
  have HMS := Lib.hid (show W.heap.size ≤ M by rw [hM]; exact HB1.out.size)
  have HOWN0 := Lib.hid hown0
  clear hb1 CP HW0 hw2 hM hown0 hbm HB HROW HRES HROW1 HRES1 HB1
  go_wp2_with (with_reducible show wpList _ _ _ (Oper.mk _ (Op.insert _ _ _ _) _ _ _ _ :: _) _ _; (refine wpList_insert_own _ rfl _ _ _ 77 rfl 3 3 keyI Tryd.underlying77 (plainElem (H := Unit) Tryd.prog 3) w1.heap.size 0 (DataW.map [] : DataW Unit) rfl HOWN0.out (by have : maxLen = 9223372036854775807 := rfl; omega) (.int .i64 0) (.int .i64 1) (.int .i64 0) rfl rfl (keyOfI (by kernel_rfl)) (.lit (.int .i64 1)) [] (plainElem_int Tryd.underlying3 (by kernel_rfl)) ?_))
  intro v1 hown1 hg1
  rw [← HM.out.1, ← HM.out.2] at hg1
  rw [← HM.out.2] at hown1 ⊢
  have HOWN1 := Lib.hid hown1
  have HG1 := Lib.hid hg1
  clear hown1 hg1 HOWN0
  go_wp2_with (with_reducible show wpList _ _ _ (Oper.mk _ (Op.insert _ _ _ _) _ _ _ _ :: _) _ _; (refine wpList_insert_own _ rfl _ _ _ 77 rfl 3 3 keyI Tryd.underlying77 (plainElem (H := Unit) Tryd.prog 3) M 1 ((DataW.map [] : DataW Unit).put (.int .i64 0) (.lit (.int .i64 1))) rfl HOWN1.out (by have : maxLen = 9223372036854775807 := rfl; omega) (.int .i64 2) (.int .i64 2) (.int .i64 2) rfl rfl (keyOfI (by kernel_rfl)) (.lit (.int .i64 2)) [] (plainElem_int Tryd.underlying3 (by kernel_rfl)) ?_))
  intro v2 hown2 hg2
  have HOWN2 := Lib.hid hown2
  have HG2 := Lib.hid hg2
  clear hown2 hg2 HOWN1
  go_wp2_with (with_reducible show wpList _ _ _ (Oper.mk _ (Op.insert _ _ _ _) _ _ _ _ :: _) _ _; (refine wpList_insert_own _ rfl _ _ _ 77 rfl 3 3 keyI Tryd.underlying77 (plainElem (H := Unit) Tryd.prog 3) M 2 (((DataW.map [] : DataW Unit).put (.int .i64 0) (.lit (.int .i64 1))).put (.int .i64 2) (.lit (.int .i64 2))) rfl HOWN2.out (by have : maxLen = 9223372036854775807 := rfl; omega) (.int .i64 3) (.int .i64 4) (.int .i64 3) rfl rfl (keyOfI (by kernel_rfl)) (.lit (.int .i64 4)) [] (plainElem_int Tryd.underlying3 (by kernel_rfl)) ?_))
  intro v3 hown3 hg3
  have HOWN3 := Lib.hid hown3
  have HG3 := Lib.hid hg3
  clear hown3 hg3 HOWN2
  go_wp2_with (with_reducible show wpList _ _ _ (Oper.mk _ (Op.insert _ _ _ _) _ _ _ _ :: _) _ _; (refine wpList_insert_own _ rfl _ _ _ 77 rfl 3 3 keyI Tryd.underlying77 (plainElem (H := Unit) Tryd.prog 3) M 3 ((((DataW.map [] : DataW Unit).put (.int .i64 0) (.lit (.int .i64 1))).put (.int .i64 2) (.lit (.int .i64 2))).put (.int .i64 3) (.lit (.int .i64 4))) rfl HOWN3.out (by have : maxLen = 9223372036854775807 := rfl; omega) (.int .i64 5) (.int .i64 5) (.int .i64 5) rfl rfl (keyOfI (by kernel_rfl)) (.lit (.int .i64 5)) [] (plainElem_int Tryd.underlying3 (by kernel_rfl)) ?_))
  intro v4 hown4 hg4
  have HOWN4 := Lib.hid hown4
  have HG4 := Lib.hid hg4
  clear hown4 hg4 HOWN3
  go_wp2_with (with_reducible show wpList _ _ _ (Oper.mk _ (Op.insert _ _ _ _) _ _ _ _ :: _) _ _; (refine wpList_insert_own _ rfl _ _ _ 77 rfl 3 3 keyI Tryd.underlying77 (plainElem (H := Unit) Tryd.prog 3) M 4 (((((DataW.map [] : DataW Unit).put (.int .i64 0) (.lit (.int .i64 1))).put (.int .i64 2) (.lit (.int .i64 2))).put (.int .i64 3) (.lit (.int .i64 4))).put (.int .i64 5) (.lit (.int .i64 5))) rfl HOWN4.out (by have : maxLen = 9223372036854775807 := rfl; omega) (.int .i64 6) (.int .i64 6) (.int .i64 6) rfl rfl (keyOfI (by kernel_rfl)) (.lit (.int .i64 6)) [] (plainElem_int Tryd.underlying3 (by kernel_rfl)) ?_))
  intro v5 hown5 hg5
  have HOWN5 := Lib.hid hown5
  have HG5 := Lib.hid hg5
  clear hown5 hg5 HOWN4
  clear hmk
  have hgb := ((((HG1.out.trans HG2.out).trans HG3.out).trans HG4.out).trans HG5.out)
  have HROW7 := Lib.hid (heap_gbM HROW2.out hgb (by have := HGM.out; omega))
  have HRES7 := Lib.hid (heap_gbM HRES2.out hgb (by have := HGM.out; omega))
  have HB7 := Lib.hid (HB2.out.trans (below_gbM hgb HMS.out HB2.out.size))
  have hown : OwnI v5 M 5 doD := HOWN5.out
  have r0 := cell_of_row _ _ 0 _ _ _ HROW7.out
  clear hgb HG1 HG2 HG3 HG4 HG5 HROW2 HRES2 HB2 HOWN5
  go_wp2_with (at_lookup; (refine wpList_lookup_own_int _ rfl _ _ 77 rfl 3 3 .i64 keyI Tryd.underlying77 Tryd.underlying3 (zeroI _) M 5 doD rfl hown (.int .i64 4) (.int .i64 4) rfl (keyOfI (by kernel_rfl)) ?_))
  intro cv hat hwc
  have hcv : cv = 0 := by have e := hat.symm.trans doD_4; injection e with e; injection e
  subst hcv
  clear hat hwc hown
  have h8 := heap_alloc_new v5 (.cells #[.int .i64 0, .string (⟨#[]⟩ : ByteArray), .string (⟨#[]⟩ : ByteArray), .string (⟨#[]⟩ : ByteArray), .int .i64 0, .string (⟨#[]⟩ : ByteArray), .int .i64 0, .int .i64 0, .string (⟨#[]⟩ : ByteArray), .slice none 0 0] 45)
  have hb8 := (Below.refl v5.heap.size v5).alloc (Nat.le_refl _) (.cells #[.int .i64 0, .string (⟨#[]⟩ : ByteArray), .string (⟨#[]⟩ : ByteArray), .string (⟨#[]⟩ : ByteArray), .int .i64 0, .string (⟨#[]⟩ : ByteArray), .int .i64 0, .int .i64 0, .string (⟨#[]⟩ : ByteArray), .slice none 0 0] 45)
  obtain ⟨w8, hw8⟩ : ∃ w, w = v5.alloc (.cells #[.int .i64 0, .string (⟨#[]⟩ : ByteArray), .string (⟨#[]⟩ : ByteArray), .string (⟨#[]⟩ : ByteArray), .int .i64 0, .string (⟨#[]⟩ : ByteArray), .int .i64 0, .int .i64 0, .string (⟨#[]⟩ : ByteArray), .slice none 0 0] 45) := ⟨_, rfl⟩
  obtain ⟨b8, hb8e⟩ : ∃ b, b = v5.heap.size := ⟨_, rfl⟩
  rw [← hw8] at h8 hb8
  rw [← hb8e] at h8
  have HGB := Lib.hid (show g < b8 ∧ g4 < b8 ∧ W.heap.size ≤ b8 by rw [hb8e]; exact ⟨lt_of_heap HROW7.out, lt_of_heap HRES7.out, HB7.out.size⟩)
  have HROW8 := Lib.hid (heap_below HROW7.out hb8)
  have HRES8 := Lib.hid (heap_below HRES7.out hb8)
  have HB8 := Lib.hid (bt HB7.out hb8)
  have HW8 := Lib.hid (And.intro hw8 hb8e)
  have H8 := Lib.hid h8
  have r0b := cell_of_row _ _ 0 _ _ _ HROW8.out
  rw [hw8] at r0b
  clear hw8 hb8e hb8 h8 HROW7 HRES7 HB7 r0
  go_wp2_with (rw [← HW8.out.1]; refine wpList_store_rowP rfl 45 (.tmp 4) (.tmp 28) rfl g4 #[.int .i64 0, .string (⟨#[]⟩ : ByteArray), .string (⟨#[]⟩ : ByteArray), .string (⟨#[]⟩ : ByteArray), .int .i64 0, .string (⟨#[]⟩ : ByteArray), .int .i64 0, .int .i64 0, .string (⟨#[]⟩ : ByteArray), .slice none 0 0] rfl rfl _ _ HRES8.out (by kernel_rfl) rfl (by simp [Value.oneCell']) ?_; intro w9 hput; have HPUT := Lib.hid hput; clear hput)
  have hput := HPUT.out
  refine bodyPost_ret (results_ct Tryd.results12 _ _ g4 45 #[.int .i64 0, .string (⟨#[]⟩ : ByteArray), .string (⟨#[]⟩ : ByteArray), .string (⟨#[]⟩ : ByteArray), .int .i64 0, .string (⟨#[]⟩ : ByteArray), .int .i64 0, .int .i64 0, .string (⟨#[]⟩ : ByteArray), .slice none 0 0] (0, 0) _ rfl hput.here Tryd.underlying45 rfl (by kernel_rfl)) rfl ?_
  exact InvPost.mk HVV.out HBB.out (HB8.out.trans (hput.below (by have := HG.out.2; omega)))
set_option maxHeartbeats 8000000 in
set_option maxRecDepth 100000 in
theorem ref_undo_5 (ks : List KindV) (ka : Option Addr) (n kc : Nat) (hn : ks.length = n) (h1 : n ≤ 1048576) (hv : ∀ k ∈ ks, k.fields.length ≤ 1048576) (y : MoveV) (a : Option Addr) (c : Nat) (W : World) (hz : SlAt 2 KindAt W ka ks) (hk0 : kindsE ks = 0) (he : oneE ks y = 0) (hd : y.do_ = 5) :
    Calls Tryd.prog 12 #[.slice ka n kc, .agg #[.int .i64 5, .string y.kind, .string y.field, .string y.name, .int .i64 y.value, .string y.new.name, .int .i64 y.new.bits, .int .i64 y.new.low, .string y.whole.name, .slice a y.whole.fields.length c]] W (InvPost ks y W) := by
  have hp := (oneE_kinds he).1
  have hV : invV ks y = ⟨5, y.kind, y.name, y.field, 0, zF, zK⟩ := by unfold invV; rw [if_neg (show ¬ y.do_ = 0 by rw [hd]; decide), if_neg (show ¬ y.do_ = 2 by rw [hd]; decide), if_neg (show ¬ y.do_ = 3 by rw [hd]; decide), if_pos hd]
  have hB : invB ks y = true := by unfold invB; rw [if_neg (by rw [hd]; decide), if_neg (by rw [hd]; decide)]
  have HVV := Lib.hid hV
  have HBB := Lib.hid hB
  have hb0 := ((Below.refl W.heap.size W).alloc (Nat.le_refl _) (.cells #[.int .i64 5, .string y.kind, .string y.field, .string y.name, .int .i64 y.value, .string y.new.name, .int .i64 y.new.bits, .int .i64 y.new.low, .string y.whole.name, .slice a y.whole.fields.length c] 45)).alloc (by simp) (.cells #[.int .i64 0, .string (⟨#[]⟩ : ByteArray), .string (⟨#[]⟩ : ByteArray), .string (⟨#[]⟩ : ByteArray), .int .i64 0, .string (⟨#[]⟩ : ByteArray), .int .i64 0, .int .i64 0, .string (⟨#[]⟩ : ByteArray), .slice none 0 0] 45)
  have hrow := heap_keep (heap_alloc_new W (.cells #[.int .i64 5, .string y.kind, .string y.field, .string y.name, .int .i64 y.value, .string y.new.name, .int .i64 y.new.bits, .int .i64 y.new.low, .string y.whole.name, .slice a y.whole.fields.length c] 45)) (.cells #[.int .i64 0, .string (⟨#[]⟩ : ByteArray), .string (⟨#[]⟩ : ByteArray), .string (⟨#[]⟩ : ByteArray), .int .i64 0, .string (⟨#[]⟩ : ByteArray), .int .i64 0, .int .i64 0, .string (⟨#[]⟩ : ByteArray), .slice none 0 0] 45)
  have hres := heap_alloc_new (W.alloc (.cells #[.int .i64 5, .string y.kind, .string y.field, .string y.name, .int .i64 y.value, .string y.new.name, .int .i64 y.new.bits, .int .i64 y.new.low, .string y.whole.name, .slice a y.whole.fields.length c] 45)) (.cells #[.int .i64 0, .string (⟨#[]⟩ : ByteArray), .string (⟨#[]⟩ : ByteArray), .string (⟨#[]⟩ : ByteArray), .int .i64 0, .string (⟨#[]⟩ : ByteArray), .int .i64 0, .int .i64 0, .string (⟨#[]⟩ : ByteArray), .slice none 0 0] 45)
  rw [World.size_alloc] at hres
  obtain ⟨w0, hw0⟩ : ∃ w, w = (W.alloc (.cells #[.int .i64 5, .string y.kind, .string y.field, .string y.name, .int .i64 y.value, .string y.new.name, .int .i64 y.new.bits, .int .i64 y.new.low, .string y.whole.name, .slice a y.whole.fields.length c] 45)).alloc (.cells #[.int .i64 0, .string (⟨#[]⟩ : ByteArray), .string (⟨#[]⟩ : ByteArray), .string (⟨#[]⟩ : ByteArray), .int .i64 0, .string (⟨#[]⟩ : ByteArray), .int .i64 0, .int .i64 0, .string (⟨#[]⟩ : ByteArray), .slice none 0 0] 45) := ⟨_, rfl⟩
  rw [← hw0] at hb0 hrow hres
  have cP := ref_where ks _ n kc hn h1 hv y w0 (hz.below KindAt.abides hb0)
  obtain ⟨I, hI⟩ : ∃ x, x = iK ks y := ⟨_, rfl⟩
  obtain ⟨J, hJ⟩ : ∃ x, x = jW ks y := ⟨_, rfl⟩
  rw [← hI, ← hJ] at cP
  obtain ⟨nk, hnk⟩ : ∃ x, x = y.kind := ⟨_, rfl⟩
  obtain ⟨nf, hnf⟩ : ∃ x, x = y.field := ⟨_, rfl⟩
  obtain ⟨nm, hnm⟩ : ∃ x, x = y.name := ⟨_, rfl⟩
  obtain ⟨vv, hvv⟩ : ∃ x, x = y.value := ⟨_, rfl⟩
  obtain ⟨fn, hfn⟩ : ∃ x, x = y.new.name := ⟨_, rfl⟩
  obtain ⟨fb, hfb⟩ : ∃ x, x = y.new.bits := ⟨_, rfl⟩
  obtain ⟨fo, hfo⟩ : ∃ x, x = y.new.low := ⟨_, rfl⟩
  obtain ⟨wn, hwn⟩ : ∃ x, x = y.whole.name := ⟨_, rfl⟩
  obtain ⟨wl, hwl⟩ : ∃ x, x = y.whole.fields.length := ⟨_, rfl⟩
  rw [← hnk, ← hnf, ← hnm, ← hvv, ← hfn, ← hfb, ← hfo, ← hwn, ← hwl] at hrow hw0 ⊢
  rw [← hnk, ← hnf] at cP
  rw [← hnk, ← hnm, ← hnf] at HVV
  obtain ⟨g, hg⟩ : ∃ g, g = W.heap.size := ⟨_, rfl⟩
  obtain ⟨g4, hg4⟩ : ∃ x, x = W.heap.size + 1 := ⟨_, rfl⟩
  rw [← hg] at hrow
  rw [← hg4] at hres
  have HB := Lib.hid hb0
  have HROW := Lib.hid hrow
  have HRES := Lib.hid hres
  have HW0 := Lib.hid hw0
  have HG := Lib.hid (And.intro hg hg4)
  have HN := Lib.hid hn
  have H1 := Lib.hid h1
  have HZ := Lib.hid hz
  have CP := Lib.hid cP
  have hmk := @run_makeMap Tryd.prog
  clear hV hB hp hb0 hrow hres hw0 hg hg4 hn h1 hv hz hd hk0 he hnk hnf hnm hvv hfn hfb hfo hwn hwl cP hI hJ
  go_enter Tryd.func12, Tryd.ntmps12
  go_wp2_with fail
  rw [← HW0.out, ← HG.out.2, ← HG.out.1]
  refine CP.out.mono ?_
  rintro e w1 ⟨rfl, hb1⟩
  have hown0 : OwnI (w1.alloc (.map #[] 0)) w1.heap.size 0 (.map []) := World.ownsMap_made w1 Tryd.prog 3 _
  have hbm := (Below.refl w1.heap.size w1).alloc (Nat.le_refl _) (.map #[] 0)
  obtain ⟨w2, hw2⟩ : ∃ w, w = w1.alloc (.map #[] 0) := ⟨_, rfl⟩
  obtain ⟨M, hM⟩ : ∃ b, b = w1.heap.size := ⟨_, rfl⟩
  have HM := Lib.hid (And.intro hw2 hM)
  have HB1 := Lib.hid (bt HB.out hb1)
  have HROW1 := Lib.hid (heap_below HROW.out hb1)
  have HRES1 := Lib.hid (heap_below HRES.out hb1)
  rw [← hw2] at hbm
  have HROW2 := Lib.hid (heap_below HROW1.out hbm)
  have HRES2 := Lib.hid (heap_below HRES1.out hbm)
  have HB2 := Lib.hid (bt HB1.out hbm)
  have HGM := Lib.hid (show g < M ∧ g4 < M by rw [hM]; exact ⟨lt_of_heap HROW1.out, lt_of_heap HRES1.out⟩)
  have HMS := Lib.hid (show W.heap.size ≤ M by rw [hM]; exact HB1.out.size)
  have HOWN0 := Lib.hid hown0
  clear hb1 CP HW0 hw2 hM hown0 hbm HB HROW HRES HROW1 HRES1 HB1
  go_wp2_with (with_reducible show wpList _ _ _ (Oper.mk _ (Op.insert _ _ _ _) _ _ _ _ :: _) _ _; (refine wpList_insert_own _ rfl _ _ _ 77 rfl 3 3 keyI Tryd.underlying77 (plainElem (H := Unit) Tryd.prog 3) w1.heap.size 0 (DataW.map [] : DataW Unit) rfl HOWN0.out (by have : maxLen = 9223372036854775807 := rfl; omega) (.int .i64 0) (.int .i64 1) (.int .i64 0) rfl rfl (keyOfI (by kernel_rfl)) (.lit (.int .i64 1)) [] (plainElem_int Tryd.underlying3 (by kernel_rfl)) ?_))
  intro v1 hown1 hg1
  rw [← HM.out.1, ← HM.out.2] at hg1
  rw [← HM.out.2] at hown1 ⊢
  have HOWN1 := Lib.hid hown1
  have HG1 := Lib.hid hg1
  clear hown1 hg1 HOWN0
  go_wp2_with (with_reducible show wpList _ _ _ (Oper.mk _ (Op.insert _ _ _ _) _ _ _ _ :: _) _ _; (refine wpList_insert_own _ rfl _ _ _ 77 rfl 3 3 keyI Tryd.underlying77 (plainElem (H := Unit) Tryd.prog 3) M 1 ((DataW.map [] : DataW Unit).put (.int .i64 0) (.lit (.int .i64 1))) rfl HOWN1.out (by have : maxLen = 9223372036854775807 := rfl; omega) (.int .i64 2) (.int .i64 2) (.int .i64 2) rfl rfl (keyOfI (by kernel_rfl)) (.lit (.int .i64 2)) [] (plainElem_int Tryd.underlying3 (by kernel_rfl)) ?_))
  intro v2 hown2 hg2
  have HOWN2 := Lib.hid hown2
  have HG2 := Lib.hid hg2
  clear hown2 hg2 HOWN1
  go_wp2_with (with_reducible show wpList _ _ _ (Oper.mk _ (Op.insert _ _ _ _) _ _ _ _ :: _) _ _; (refine wpList_insert_own _ rfl _ _ _ 77 rfl 3 3 keyI Tryd.underlying77 (plainElem (H := Unit) Tryd.prog 3) M 2 (((DataW.map [] : DataW Unit).put (.int .i64 0) (.lit (.int .i64 1))).put (.int .i64 2) (.lit (.int .i64 2))) rfl HOWN2.out (by have : maxLen = 9223372036854775807 := rfl; omega) (.int .i64 3) (.int .i64 4) (.int .i64 3) rfl rfl (keyOfI (by kernel_rfl)) (.lit (.int .i64 4)) [] (plainElem_int Tryd.underlying3 (by kernel_rfl)) ?_))
  intro v3 hown3 hg3
  have HOWN3 := Lib.hid hown3
  have HG3 := Lib.hid hg3
  clear hown3 hg3 HOWN2
  go_wp2_with (with_reducible show wpList _ _ _ (Oper.mk _ (Op.insert _ _ _ _) _ _ _ _ :: _) _ _; (refine wpList_insert_own _ rfl _ _ _ 77 rfl 3 3 keyI Tryd.underlying77 (plainElem (H := Unit) Tryd.prog 3) M 3 ((((DataW.map [] : DataW Unit).put (.int .i64 0) (.lit (.int .i64 1))).put (.int .i64 2) (.lit (.int .i64 2))).put (.int .i64 3) (.lit (.int .i64 4))) rfl HOWN3.out (by have : maxLen = 9223372036854775807 := rfl; omega) (.int .i64 5) (.int .i64 5) (.int .i64 5) rfl rfl (keyOfI (by kernel_rfl)) (.lit (.int .i64 5)) [] (plainElem_int Tryd.underlying3 (by kernel_rfl)) ?_))
  intro v4 hown4 hg4
  have HOWN4 := Lib.hid hown4
  have HG4 := Lib.hid hg4
  clear hown4 hg4 HOWN3
  go_wp2_with (with_reducible show wpList _ _ _ (Oper.mk _ (Op.insert _ _ _ _) _ _ _ _ :: _) _ _; (refine wpList_insert_own _ rfl _ _ _ 77 rfl 3 3 keyI Tryd.underlying77 (plainElem (H := Unit) Tryd.prog 3) M 4 (((((DataW.map [] : DataW Unit).put (.int .i64 0) (.lit (.int .i64 1))).put (.int .i64 2) (.lit (.int .i64 2))).put (.int .i64 3) (.lit (.int .i64 4))).put (.int .i64 5) (.lit (.int .i64 5))) rfl HOWN4.out (by have : maxLen = 9223372036854775807 := rfl; omega) (.int .i64 6) (.int .i64 6) (.int .i64 6) rfl rfl (keyOfI (by kernel_rfl)) (.lit (.int .i64 6)) [] (plainElem_int Tryd.underlying3 (by kernel_rfl)) ?_))
  intro v5 hown5 hg5
  have HOWN5 := Lib.hid hown5
  have HG5 := Lib.hid hg5
  clear hown5 hg5 HOWN4
  clear hmk
  have hgb := ((((HG1.out.trans HG2.out).trans HG3.out).trans HG4.out).trans HG5.out)
  have HROW7 := Lib.hid (heap_gbM HROW2.out hgb (by have := HGM.out; omega))
  have HRES7 := Lib.hid (heap_gbM HRES2.out hgb (by have := HGM.out; omega))
  have HB7 := Lib.hid (HB2.out.trans (below_gbM hgb HMS.out HB2.out.size))
  have hown : OwnI v5 M 5 doD := HOWN5.out
  have r0 := cell_of_row _ _ 0 _ _ _ HROW7.out
  clear hgb HG1 HG2 HG3 HG4 HG5 HROW2 HRES2 HB2 HOWN5
  go_wp2_with (at_lookup; (refine wpList_lookup_own_int _ rfl _ _ 77 rfl 3 3 .i64 keyI Tryd.underlying77 Tryd.underlying3 (zeroI _) M 5 doD rfl hown (.int .i64 5) (.int .i64 5) rfl (keyOfI (by kernel_rfl)) ?_))
  intro cv hat hwc
  have hcv : cv = 5 := by have e := hat.symm.trans doD_5; injection e with e; injection e
  subst hcv
  clear hat hwc hown
  have h8 := heap_alloc_new v5 (.cells #[.int .i64 5, .string (⟨#[]⟩ : ByteArray), .string (⟨#[]⟩ : ByteArray), .string (⟨#[]⟩ : ByteArray), .int .i64 0, .string (⟨#[]⟩ : ByteArray), .int .i64 0, .int .i64 0, .string (⟨#[]⟩ : ByteArray), .slice none 0 0] 45)
  have hb8 := (Below.refl v5.heap.size v5).alloc (Nat.le_refl _) (.cells #[.int .i64 5, .string (⟨#[]⟩ : ByteArray), .string (⟨#[]⟩ : ByteArray), .string (⟨#[]⟩ : ByteArray), .int .i64 0, .string (⟨#[]⟩ : ByteArray), .int .i64 0, .int .i64 0, .string (⟨#[]⟩ : ByteArray), .slice none 0 0] 45)
  obtain ⟨w8, hw8⟩ : ∃ w, w = v5.alloc (.cells #[.int .i64 5, .string (⟨#[]⟩ : ByteArray), .string (⟨#[]⟩ : ByteArray), .string (⟨#[]⟩ : ByteArray), .int .i64 0, .string (⟨#[]⟩ : ByteArray), .int .i64 0, .int .i64 0, .string (⟨#[]⟩ : ByteArray), .slice none 0 0] 45) := ⟨_, rfl⟩
  obtain ⟨b8, hb8e⟩ : ∃ b, b = v5.heap.size := ⟨_, rfl⟩
  rw [← hw8] at h8 hb8
  rw [← hb8e] at h8
  have HGB := Lib.hid (show g < b8 ∧ g4 < b8 ∧ W.heap.size ≤ b8 by rw [hb8e]; exact ⟨lt_of_heap HROW7.out, lt_of_heap HRES7.out, HB7.out.size⟩)
  have HROW8 := Lib.hid (heap_below HROW7.out hb8)
  have HRES8 := Lib.hid (heap_below HRES7.out hb8)
  have HB8 := Lib.hid (bt HB7.out hb8)
  have HW8 := Lib.hid (And.intro hw8 hb8e)
  have H8 := Lib.hid h8
  have r0b := cell_of_row _ _ 0 _ _ _ HROW8.out
  rw [hw8] at r0b
  clear hw8 hb8e hb8 h8 HROW7 HRES7 HB7 r0
  obtain ⟨wD, hwD⟩ : ∃ w, w = (((w8.setCell ⟨b8, 1, none⟩ (.string nk)).setCell ⟨b8, 2, none⟩ (.string nm)).setCell ⟨b8, 3, none⟩ (.string nf)).drew := ⟨_, rfl⟩
  have R8D := Lib.hid (show wD.heap[b8]? = some (.cells #[.int .i64 5, .string nk, .string nm, .string nf, .int .i64 0, .string (⟨#[]⟩ : ByteArray), .int .i64 0, .int .i64 0, .string (⟨#[]⟩ : ByteArray), .slice none 0 0] 45 (0, 0)) by rw [hwD]; exact (heap_set (heap_set (heap_set H8.out 1 (.string nk)) 2 (.string nm)) 3 (.string nf)))
  have HRESD := Lib.hid (show wD.heap[g4]? = some (.cells #[.int .i64 0, .string (⟨#[]⟩ : ByteArray), .string (⟨#[]⟩ : ByteArray), .string (⟨#[]⟩ : ByteArray), .int .i64 0, .string (⟨#[]⟩ : ByteArray), .int .i64 0, .int .i64 0, .string (⟨#[]⟩ : ByteArray), .slice none 0 0] 45 (0, 0)) by rw [hwD]; exact (Mem.heap_far (Mem.heap_far (Mem.heap_far HRES8.out (by have := HGB.out; show g4 ≠ b8; omega) (.string nk)) (by have := HGB.out; show g4 ≠ b8; omega) (.string nm)) (by have := HGB.out; show g4 ≠ b8; omega) (.string nf)))
  have HBD := Lib.hid (show Below W.heap.size W wD by rw [hwD]; exact (((HB8.out.setCell (show W.heap.size ≤ b8 from HGB.out.2.2) (.string nk)).setCell (show W.heap.size ≤ b8 from HGB.out.2.2) (.string nm)).setCell (show W.heap.size ≤ b8 from HGB.out.2.2) (.string nf)).drew)
  have HWD := Lib.hid hwD
  clear hwD
  go_upto_region 12 with fail
  rw [← HW8.out.1, ← HW8.out.2]
  have r1 := cell_of_row _ _ 1 _ _ _ HROW8.out
  have z1 := cell_of_row _ _ 1 _ _ _ H8.out
  have k1 := Mem.frozen_of_row H8.out 1
  have r3 := cell_of_row _ _ 3 _ _ _ HROW8.out
  have z2 := cell_of_row _ _ 2 _ _ _ H8.out
  have k2 := Mem.frozen_of_row H8.out 2
  have r2 := cell_of_row _ _ 2 _ _ _ HROW8.out
  have z3 := cell_of_row _ _ 3 _ _ _ H8.out
  have k3 := Mem.frozen_of_row H8.out 3
  clear r0b
  have hne : g ≠ b8 := by have := HGB.out; omega
  have y0 := cell_of_row _ _ 0 _ _ _ R8D.out
  have y1 := cell_of_row _ _ 1 _ _ _ R8D.out
  have y2 := cell_of_row _ _ 2 _ _ _ R8D.out
  have y3 := cell_of_row _ _ 3 _ _ _ R8D.out
  have y4 := cell_of_row _ _ 4 _ _ _ R8D.out
  have y5 := cell_of_row _ _ 5 _ _ _ R8D.out
  have y6 := cell_of_row _ _ 6 _ _ _ R8D.out
  have y7 := cell_of_row _ _ 7 _ _ _ R8D.out
  have y8 := cell_of_row _ _ 8 _ _ _ R8D.out
  have y9 := cell_of_row _ _ 9 _ _ _ R8D.out
  rw [HWD.out] at y0 y1 y2 y3 y4 y5 y6 y7 y8 y9
  go_region
  go_wp2_with (rw [← HWD.out]; refine wpList_store_rowP rfl 45 (.tmp 4) (.tmp 111) rfl g4 #[.int .i64 5, .string nk, .string nm, .string nf, .int .i64 0, .string (⟨#[]⟩ : ByteArray), .int .i64 0, .int .i64 0, .string (⟨#[]⟩ : ByteArray), .slice none 0 0] rfl rfl _ _ HRESD.out (by kernel_rfl) rfl (by simp [Value.oneCell']) ?_; intro w9 hput; have HPUT := Lib.hid hput; clear hput)
  have hput := HPUT.out
  refine bodyPost_ret (results_ct Tryd.results12 _ _ g4 45 #[.int .i64 5, .string nk, .string nm, .string nf, .int .i64 0, .string (⟨#[]⟩ : ByteArray), .int .i64 0, .int .i64 0, .string (⟨#[]⟩ : ByteArray), .slice none 0 0] (0, 0) _ rfl hput.here Tryd.underlying45 rfl (by kernel_rfl)) rfl ?_
  exact InvPost.mk HVV.out HBB.out (HBD.out.trans (hput.below (by have := HG.out.2; omega)))
end Go.Proofs.YtijeninfmjhbnaaDoor
end
