/- Lemmas for the law MigrateBack: RefAfter, RefAfters, ApiSyst, MapsW. No conditions. -/
import Derived.Test.YtijeninfmjhbnaaDoorM19
import Derived.Test.YtijeninfmjhbnaaDoorM20
import Derived.Test.YtijeninfmjhbnaaDoorM21
import Derived.Test.YtijeninfmjhbnaaDoorM22
import Derived.Test.YtijeninfmjhbnaaDoorM23
import Derived.Test.YtijeninfmjhbnaaDoorM24
import Derived.Test.YtijeninfmjhbnaaDoorM16
import Derived.Test.YtijeninfmjhbnaaDoorM08
import Derived.Test.YtijeninfmjhbnaaDoorM09
import Derived.Deep.DeepMust
import Derived.OwnWalk
import Derived.WideKeyArgs2
import Derived.Maps.OwnSet
import Derived.Maps.OwnOps
import Derived.Maps.Views
import Derived.Carry
/- tourref3.KindsAfter for all moves; tourref3.After. -/
section
namespace Go.Proofs.YtijeninfmjhbnaaDoor
open Go.ChangeShapes Go.WideShapes Go.ChangeAt Go.RowKit Go.Nm Go.Mem
set_option linter.unusedVariables false
set_option maxHeartbeats 4000000 in
set_option maxRecDepth 100000 in
theorem ref_after_bad (ks : List KindV) (ka : Option Addr) (n kc : Nat) (hn : ks.length = n) (h1 : n ≤ 1000000) (hv : ∀ k ∈ ks, k.fields.length ≤ 1000000) (y : MoveV) (a : Option Addr) (c : Nat) (W : World) (hz : SlAt 2 KindAt W ka ks) (hp : pE ks y ≠ 0) :
    Calls Tryd.prog 13 #[.slice ka n kc, .agg #[.int .i64 y.do_, .string y.kind, .string y.field, .string y.name, .int .i64 y.value, .string y.new.name, .int .i64 y.new.bits, .int .i64 y.new.low, .string y.whole.name, .slice a y.whole.fields.length c]] W (OnePost ks y W) := by
  have he : oneE ks y = pE ks y := by unfold oneE; rw [if_pos hp]
  have hb0 := (Below.refl W.heap.size W).alloc (Nat.le_refl _) (.cells #[.int .i64 y.do_, .string y.kind, .string y.field, .string y.name, .int .i64 y.value, .string y.new.name, .int .i64 y.new.bits, .int .i64 y.new.low, .string y.whole.name, .slice a y.whole.fields.length c] 45)
  have hrow := heap_alloc_new W (.cells #[.int .i64 y.do_, .string y.kind, .string y.field, .string y.name, .int .i64 y.value, .string y.new.name, .int .i64 y.new.bits, .int .i64 y.new.low, .string y.whole.name, .slice a y.whole.fields.length c] 45)
  have cW := ref_where ks ka n kc hn (by omega) (fun k hk => by have := hv k hk; omega) y _ (hz.below KindAt.abides hb0)
  obtain ⟨I, hI⟩ : ∃ e, e = iK ks y := ⟨_, rfl⟩
  obtain ⟨J, hJ⟩ : ∃ e, e = jW ks y := ⟨_, rfl⟩
  rw [← hI, ← hJ] at cW
  have hval : pE ks y = if y.do_ < 0 ∨ 6 < y.do_ then 1 else 4 := by
    unfold pE at hp ⊢
    by_cases q1 : y.do_ < 0 ∨ 6 < y.do_
    · rw [if_pos q1, if_pos q1]
    · rw [if_neg q1] at hp ⊢
      rw [if_neg q1]
      by_cases q2 : y.do_ = 0
      · rw [if_pos q2] at hp; exact absurd rfl hp
      · rw [if_neg q2] at hp ⊢
        by_cases q3 : iK ks y < 0
        · rw [if_pos q3]
        · rw [if_neg q3] at hp ⊢
          by_cases q4 : y.do_ ≤ 3
          · rw [if_pos q4] at hp; exact absurd rfl hp
          · rw [if_neg q4] at hp ⊢
            by_cases q5 : jK ks y < 0
            · rw [if_pos q5]
            · rw [if_neg q5] at hp; exact absurd rfl hp
  have hcond : ¬ (y.do_ < 0 ∨ 6 < y.do_) → y.do_ ≠ 0 ∧ (I < 0 ∨ (3 < y.do_ ∧ J < 0)) := by
    intro q1
    unfold pE at hp
    rw [if_neg q1] at hp
    by_cases q2 : y.do_ = 0
    · rw [if_pos q2] at hp; exact absurd rfl hp
    · refine ⟨q2, ?_⟩
      rw [if_neg q2] at hp
      by_cases q3 : iK ks y < 0
      · exact Or.inl (by rw [hI]; exact q3)
      · rw [if_neg q3] at hp
        by_cases q4 : y.do_ ≤ 3
        · rw [if_pos q4] at hp; exact absurd rfl hp
        · rw [if_neg q4] at hp
          by_cases q5 : jK ks y < 0
          · exact Or.inr ⟨by omega, by rw [hJ]; unfold jW; rw [if_neg q3]; exact q5⟩
          · rw [if_neg q5] at hp; exact absurd rfl hp
  obtain ⟨d, hd⟩ : ∃ d, d = y.do_ := ⟨_, rfl⟩
  rw [hval] at he
  rw [← hd] at cW hb0 hrow he hcond ⊢
  have CW := Lib.hid cW
  have HB := Lib.hid hb0
  have HROW := Lib.hid hrow
  have HE := Lib.hid he
  have HC := Lib.hid hcond
  clear cW hb0 hrow he hcond hI hJ hp hz hv hn hval hd
  go_enter Tryd.func13, Tryd.ntmps13
  by_cases q1 : d < 0
  · have HE1 := Lib.hid (HE.out.trans (if_pos (Or.inl q1)))
    go_wp2_with fail
    go_ret2
    exact OnePost.bad HE1.out (by decide) HB.out
  · by_cases q2 : 6 < d
    · have HE1 := Lib.hid (HE.out.trans (if_pos (Or.inr q2)))
      go_wp2_with fail
      go_ret2
      exact OnePost.bad HE1.out (by decide) HB.out
    · have HE1 := Lib.hid (HE.out.trans (if_neg (by omega)))
      obtain ⟨q3, q4⟩ := HC.out (by omega)
      have t1 := decide_eq_false q1
      have t2 := decide_eq_false q2
      have t3 := decide_eq_true (show 0 < d by omega)
      clear HC HE q1 q2 q3
      go_wp2_with fail
      refine CW.out.mono ?_
      rintro e w1 ⟨rfl, hb1⟩
      have HB1 := Lib.hid (bt HB.out hb1)
      have r0 := cell_of_row _ _ 0 _ _ _ (heap_below HROW.out hb1)
      clear hb1 CW
      by_cases q5 : I < 0
      · have t4 := decide_eq_true q5
        clear q4 q5
        go_wp2_with fail
        go_ret2
        exact OnePost.bad HE1.out (by decide) HB1.out
      · have q6 : 3 < d ∧ J < 0 := q4.resolve_left q5
        have t4 := decide_eq_false q5
        have t5 := decide_eq_true q6.1
        have t6 := decide_eq_true q6.2
        clear q4 q5 q6
        go_wp2_with fail
        go_ret2
        exact OnePost.bad HE1.out (by decide) HB1.out
theorem ref_after (ks : List KindV) (ka : Option Addr) (n kc : Nat) (hn : ks.length = n) (h1 : n ≤ 1000000) (hv : ∀ k ∈ ks, k.fields.length ≤ 1000000) (y : MoveV) (a : Option Addr) (c : Nat) (W : World) (hz : SlAt 2 KindAt W ka ks) (hy : MvFine W y a c) :
    Calls Tryd.prog 13 #[.slice ka n kc, .agg #[.int .i64 y.do_, .string y.kind, .string y.field, .string y.name, .int .i64 y.value, .string y.new.name, .int .i64 y.new.bits, .int .i64 y.new.low, .string y.whole.name, .slice a y.whole.fields.length c]] W (OnePost ks y W) := by
  by_cases hp : pE ks y = 0
  · have hz0 := (pE_zero hp).1
    rcases (show y.do_ = 0 ∨ y.do_ = 1 ∨ y.do_ = 2 ∨ y.do_ = 3 ∨ y.do_ = 4 ∨ y.do_ = 5 ∨ y.do_ = 6 by omega) with h | h | h | h | h | h | h
    · have := ref_after_0 ks ka n kc hn h1 hv y a c W hz hy hp h; rw [h]; exact this
    · have := ref_after_1 ks ka n kc hn h1 hv y a c W hz hy hp h; rw [h]; exact this
    · have := ref_after_2 ks ka n kc hn h1 hv y a c W hz hy hp h; rw [h]; exact this
    · have := ref_after_3 ks ka n kc hn h1 hv y a c W hz hy hp h; rw [h]; exact this
    · have := ref_after_4 ks ka n kc hn h1 hv y a c W hz hy hp h; rw [h]; exact this
    · have := ref_after_5 ks ka n kc hn h1 hv y a c W hz hy hp h; rw [h]; exact this
    · have := ref_after_6 ks ka n kc hn h1 hv y a c W hz hy hp h; rw [h]; exact this
  · exact ref_after_bad ks ka n kc hn h1 hv y a c W hz hp
end Go.Proofs.YtijeninfmjhbnaaDoor
end
/- tourref3.After. -/
section
namespace Go.Proofs.YtijeninfmjhbnaaDoor
open Go.ChangeShapes Go.WideShapes Go.ChangeAt Go.RowKit Go.Nm Go.Mem
set_option linter.unusedVariables false
set_option maxHeartbeats 8000000 in
set_option maxRecDepth 100000 in
theorem ref_After (ks : List KindV) (ka : Option Addr) (n kc : Nat) (hn : ks.length = n) (h1 : n ≤ 17592186044000) (hkc : n ≤ kc) (hkm : kc ≤ 9223372036854775807) (l : List MoveV) (la : Option Addr) (m lc : Nat) (hm : l.length = m) (hwb : ∀ y ∈ l, y.whole.fields.length ≤ 4398046510976) (W : World) (hz : SlAt 2 KindAt W ka ks) (hl : SlAt 10 MvAt W la l) :
    Calls Tryd.prog 11 #[.slice ka n kc, .slice la m lc] W (KindsPost ks l W) := by
  obtain ⟨K, hK⟩ : ∃ K, K = kindsE ks := ⟨_, rfl⟩
  have cK := ref_KindsError ks ka n kc hn (by omega) W hz
  rw [← hK] at cK
  have CK := Lib.hid cK
  have HK := Lib.hid hK
  have HN := Lib.hid hn
  have HM := Lib.hid hm
  have HZ := Lib.hid hz
  have HL := Lib.hid hl
  have HWB := Lib.hid hwb
  clear cK hK hn hm hz hl hwb
  go_enter Tryd.func11, Tryd.ntmps11
  go_wp2_with fail
  refine CK.out.mono ?_
  rintro e w1 ⟨rfl, hb1⟩
  have HB1 := Lib.hid hb1
  clear hb1 CK
  by_cases hK0 : K = 0
  · have hk0 : kindsE ks = 0 := by rw [← HK.out]; exact hK0
    have hs := kinds_small hk0
    have hn16 : n ≤ 16 := by rw [← HN.out]; exact hs.1
    have HK0 := Lib.hid hk0
    subst hK0
    by_cases hm100 : 100 < m
    · have HE := Lib.hid (show afterE ks l = 2 by unfold afterE; rw [hk0, if_neg (by simp), if_pos (by rw [HM.out]; exact hm100)])
      clear hk0 hs
      go_wp2_with fail
      go_ret2
      exact KindsPost.bad HE.out (by decide) HB1.out
    · have hmE : afterE ks l = movesE ks l := by unfold afterE; rw [hk0, if_neg (by simp), if_neg (by rw [HM.out]; exact hm100)]
      have HME := Lib.hid hmE
      have HN16 := Lib.hid hn16
      have HM1 := Lib.hid (show m ≤ 100 by omega)
      clear hk0 hs hmE hn16
      have HB2 := HB1
      have HCUR := Lib.hid (show Cur ks l 0 w1 (.slice ka n kc) from ⟨ks, n, ka, kc, rfl, HN.out, hkc, hkm, HZ.out.below KindAt.abides HB1.out, HK0.out, HME.out.symm, rfl⟩)
      clear HB1
      go_wp2_with fail
      go_loopg [0, 8, 9, 10, 21] m (fun gk v0 _ _ _ vi wx => ∃ i : Nat, i ≤ m ∧ gk = m - i ∧ vi = .int .i64 i ∧ Hid (Cur ks l i wx v0) ∧ Hid (Below W.heap.size W wx))
      case atStart => exact ⟨0, Nat.zero_le _, rfl, rfl, HCUR, HB2⟩
      case round =>
        clear HCUR HB2
        obtain ⟨i, hi, g2, rfl, HCUR, HB⟩ := hrel
        have G2 := Lib.hid g2
        clear g2
        obtain ⟨cur, nc, ca, cc, hv0, hcl, hcc, hcm, hcs, hck, hce, hcK⟩ := HCUR.out
        subst hv0
        by_cases hlt : i < m
        · have hil : i < l.length := by rw [HM.out]; exact hlt
          obtain ⟨x, rfl, _, _⟩ := HL.out (by omega)
          obtain ⟨xb, xo, rfl, fa, fc, hcl2, hfine⟩ := mv_cells (HL.out.below MvAt.abides HB.out) i hil
          obtain ⟨y, hy⟩ : ∃ y, y = l[i] := ⟨_, rfl⟩
          rw [← hy] at hcl2 hfine
          have hwy : y.whole.fields.length ≤ 4398046510976 := HWB.out y (by rw [hy]; exact List.getElem_mem _)
          have hks := kinds_small hck
          rw [List.drop_eq_getElem_cons hil, ← hy] at hce hcK
          unfold movesE at hce
          replace hcK : movesK (oneK cur y) (l.drop (i + 1)) = movesK ks l := hcK
          have hba := (Below.refl wr.heap.size wr).alloc (Nat.le_refl _) (.cells #[.int .i64 y.do_, .string y.kind, .string y.field, .string y.name, .int .i64 y.value, .string y.new.name, .int .i64 y.new.bits, .int .i64 y.new.low, .string y.whole.name, .slice fa y.whole.fields.length fc] 45)
          have HBA := Lib.hid (bt HB.out hba)
          have c1 := ref_after cur ca nc cc hcl (by rw [← hcl]; omega) (fun k hk => by have := hks.2 k hk; omega) y fa fc _ (hcs.below KindAt.abides hba) (hfine.below hba)
          obtain ⟨yd, e0⟩ : ∃ x, x = y.do_ := ⟨_, rfl⟩
          obtain ⟨yk, e1⟩ : ∃ x, x = y.kind := ⟨_, rfl⟩
          obtain ⟨yf, e2⟩ : ∃ x, x = y.field := ⟨_, rfl⟩
          obtain ⟨yn, e3⟩ : ∃ x, x = y.name := ⟨_, rfl⟩
          obtain ⟨yv, e4⟩ : ∃ x, x = y.value := ⟨_, rfl⟩
          obtain ⟨yq, e5⟩ : ∃ x, x = y.new.name := ⟨_, rfl⟩
          obtain ⟨yb, e6⟩ : ∃ x, x = y.new.bits := ⟨_, rfl⟩
          obtain ⟨yl, e7⟩ : ∃ x, x = y.new.low := ⟨_, rfl⟩
          obtain ⟨yw, e8⟩ : ∃ x, x = y.whole.name := ⟨_, rfl⟩
          obtain ⟨yz, e9⟩ : ∃ x, x = y.whole.fields.length := ⟨_, rfl⟩
          unfold mvL at hcl2
          rw [← e0, ← e1, ← e2, ← e3, ← e4, ← e5, ← e6, ← e7, ← e8, ← e9] at c1 hcl2
          rw [← e0, ← e1, ← e2, ← e3, ← e4, ← e5, ← e6, ← e7, ← e8, ← e9] at HBA
          have q0 := hcl2 0 _ rfl
          have q1 := hcl2 1 _ rfl
          have q2 := hcl2 2 _ rfl
          have q3 := hcl2 3 _ rfl
          have q4 := hcl2 4 _ rfl
          have q5 := hcl2 5 _ rfl
          have q6 := hcl2 6 _ rfl
          have q7 := hcl2 7 _ rfl
          have q8 := hcl2 8 _ rfl
          have q9 := hcl2 9 _ rfl
          rw [Nat.add_zero] at q0
          have C1 := Lib.hid c1
          have HCE := Lib.hid hce
          have HCK := Lib.hid hcK
          have HLT := Lib.hid (show ∃ k, i + 1 + k = m from ⟨m - (i + 1), by omega⟩)
          have w9 : IntKind.i64.wrap ((i : Int) + 1) = ((i + 1 : Nat) : Int) := by have := HM1.out; rw [IntKind.wrap_i64]; omega
          clear c1 hcl2 hfine hy hwy hks hba hce hcK hcs hck hcl hcc hcm e0 e1 e2 e3 e4 e5 e6 e7 e8 e9 hil HCUR
          go_wp2_with fail
          refine C1.out.mono ?_
          rintro e w3 ⟨hpost, hb3⟩
          have HB3 := Lib.hid (bt HBA.out hb3)
          clear hb3 C1 q0 q1 q2 q3 q4 q5 q6 q7 q8 q9 HBA
          rcases hpost with ⟨he, rfl⟩ | ⟨he, a4, c4, rfl, h4a, h4b, hs4⟩
          · obtain ⟨E, hE⟩ : ∃ e, e = oneE cur y := ⟨_, rfl⟩
            have HE := Lib.hid (show afterE ks l = E by have := HCE.out; rw [if_pos he, ← hE] at this; exact this.symm)
            rw [← hE] at he ⊢
            have t1 : (E != 0) = true := by rw [bne_iff_ne]; exact he
            have HNE := Lib.hid he
            clear hE he HCE HCK
            go_wp2_with fail
            go_ret2
            exact KindsPost.bad HE.out HNE.out HB3.out
          · have hce2 := HCE.out
            rw [if_neg (by rw [he]; simp)] at hce2
            obtain ⟨n4, hn4⟩ : ∃ n4, n4 = (oneK cur y).length := ⟨_, rfl⟩
            rw [← hn4] at h4a ⊢
            have HC2 := Lib.hid (show Cur ks l (i + 1) w3 (.slice a4 n4 c4) from ⟨oneK cur y, n4, a4, c4, rfl, hn4.symm, h4a, h4b, hs4, (oneE_kinds he).2, hce2, HCK.out⟩)
            clear he h4a h4b hs4 hce2 hn4 HCE HCK
            go_wp2_with fail
            go_roundg (m - (i + 1))
            case measure => rw [G2.out]; obtain ⟨k, hk⟩ := HLT.out; omega
            case rel => obtain ⟨k, hk⟩ := HLT.out; exact ⟨i + 1, by omega, rfl, (by first | rfl | go_num | simp), HC2, HB3⟩
        · obtain rfl : i = m := by omega
          rw [List.drop_eq_nil_of_le (by rw [HM.out]; exact Nat.le_refl _)] at hce hcK
          have HE := Lib.hid (show afterE ks l = 0 from hce.symm)
          have HKK := Lib.hid (show cur = movesK ks l from hcK)
          have HC := Lib.hid (And.intro hcl (And.intro hcc (And.intro hcm hcs)))
          clear hce hcK hcl hcc hcm hcs hck HCUR
          go_wp2_with fail
          go_ret2
          exact KindsPost.ok HE.out (by rw [← HKK.out]; exact HC.out.1) HC.out.2.1 HC.out.2.2.1 (by rw [← HKK.out]; exact HC.out.2.2.2) HB.out
  · have HE := Lib.hid (show afterE ks l = K by unfold afterE; rw [← HK.out, if_pos hK0])
    have t0 : (K != 0) = true := by rw [bne_iff_ne]; exact hK0
    have HNE := Lib.hid hK0
    clear hK0
    go_wp2_with fail
    go_ret2
    exact KindsPost.bad HE.out HNE.out HB1.out
end Go.Proofs.YtijeninfmjhbnaaDoor
end
/- Systems as they lie in memory, whole: names, lists of kinds, operations, components. -/
section
namespace Go.Proofs.YtijeninfmjhbnaaDoor
open Go.RowKit Go.ChangeShapes Go.WideShapes Go.Deep Go.Mem
set_option linter.unusedVariables false
structure ArgV where
  has : Bool
  n : Int
  rk : Int
  rf : Int
  deriving Inhabited, DecidableEq
structure OpV where
  do_ : Int
  tk : Int
  tf : Int
  a : ArgV
  b : ArgV
  deriving Inhabited, DecidableEq
structure SystV where
  name : ByteArray
  withs : List Int
  without : List Int
  reads : List Int
  writes : List Int
  ops : List OpV
  spawn : List CompV
  deriving Inhabited, DecidableEq
abbrev argA (x : ArgV) : Value := .agg #[.bool x.has, .int .i64 x.n, .int .i64 x.rk, .int .i64 x.rf]
abbrev opA (y : OpV) : Value := .agg #[.int .i64 y.do_, .int .i64 y.tk, .int .i64 y.tf, .bool y.a.has, .int .i64 y.a.n, .int .i64 y.a.rk, .int .i64 y.a.rf, .bool y.b.has, .int .i64 y.b.n, .int .i64 y.b.rk, .int .i64 y.b.rf]
def ArgAt (w : World) (p : Addr) (x : ArgV) : Prop := w.cell? p = some (.bool x.has) ∧ w.cell? ⟨p.block, p.off + 1, none⟩ = some (.int .i64 x.n) ∧ w.cell? ⟨p.block, p.off + 2, none⟩ = some (.int .i64 x.rk) ∧ w.cell? ⟨p.block, p.off + 3, none⟩ = some (.int .i64 x.rf)
def OpAt (w : World) (p : Addr) (y : OpV) : Prop := (w.cell? p = some (.int .i64 y.do_) ∧ w.cell? ⟨p.block, p.off + 1, none⟩ = some (.int .i64 y.tk) ∧ w.cell? ⟨p.block, p.off + 2, none⟩ = some (.int .i64 y.tf)) ∧
  (w.cell? ⟨p.block, p.off + 3, none⟩ = some (.bool y.a.has) ∧ w.cell? ⟨p.block, p.off + 4, none⟩ = some (.int .i64 y.a.n) ∧ w.cell? ⟨p.block, p.off + 5, none⟩ = some (.int .i64 y.a.rk) ∧ w.cell? ⟨p.block, p.off + 6, none⟩ = some (.int .i64 y.a.rf)) ∧
  (w.cell? ⟨p.block, p.off + 7, none⟩ = some (.bool y.b.has) ∧ w.cell? ⟨p.block, p.off + 8, none⟩ = some (.int .i64 y.b.n) ∧ w.cell? ⟨p.block, p.off + 9, none⟩ = some (.int .i64 y.b.rk) ∧ w.cell? ⟨p.block, p.off + 10, none⟩ = some (.int .i64 y.b.rf))
theorem OpAt.abides : Abides OpAt := fun w w' p y h hb => by
  obtain ⟨⟨h0, h1, h2⟩, ⟨h3, h4, h5, h6⟩, h7, h8, h9, h10⟩ := h
  exact ⟨⟨cell_abides h0 hb, cell_abides h1 hb, cell_abides h2 hb⟩, ⟨cell_abides h3 hb, cell_abides h4 hb, cell_abides h5 hb, cell_abides h6 hb⟩, cell_abides h7 hb, cell_abides h8 hb, cell_abides h9 hb, cell_abides h10 hb⟩
/-- a system as a value -/
structure SystIn (w : World) (v : Value) (y : SystV) : Prop where
  out : ∃ a1 c1 a2 c2 a3 c3 a4 c4 a5 c5 a6 c6, v = .agg #[.string y.name, .slice a1 y.withs.length c1, .slice a2 y.without.length c2, .slice a3 y.reads.length c3, .slice a4 y.writes.length c4, .slice a5 y.ops.length c5, .slice a6 y.spawn.length c6] ∧
    (IntsAt .i64 w a1 y.withs ∧ IntsAt .i64 w a2 y.without ∧ IntsAt .i64 w a3 y.reads ∧ IntsAt .i64 w a4 y.writes ∧ SlAt 11 OpAt w a5 y.ops ∧ SlAt 2 CompAt w a6 y.spawn) ∧
    (y.withs.length ≤ c1 ∧ y.without.length ≤ c2 ∧ y.reads.length ≤ c3 ∧ y.writes.length ≤ c4 ∧ y.ops.length ≤ c5 ∧ y.spawn.length ≤ c6) ∧ (c1 ≤ maxLen ∧ c2 ≤ maxLen ∧ c3 ≤ maxLen ∧ c4 ≤ maxLen ∧ c5 ≤ maxLen ∧ c6 ≤ maxLen) ∧ y.name.size ≤ maxLen
theorem SystIn.below {w w' : World} {v : Value} {y : SystV} (h : SystIn w v y) (hb : Below w.heap.size w w') : SystIn w' v y := by
  obtain ⟨a1, c1, a2, c2, a3, c3, a4, c4, a5, c5, a6, c6, rfl, ⟨h1, h2, h3, h4, h5, h6⟩, h7⟩ := h.out
  exact ⟨a1, c1, a2, c2, a3, c3, a4, c4, a5, c5, a6, c6, rfl, ⟨h1.below hb, h2.below hb, h3.below hb, h4.below hb, h5.below OpAt.abides hb, h6.below CompAt.abides hb⟩, h7⟩
def costOp (_ : OpV) : Nat := 1
def costSyst (y : SystV) : Nat := y.name.size + y.withs.length + y.without.length + y.reads.length + y.writes.length + y.ops.length + (y.spawn.map costComp).sum
section
variable {H : Type} {enc : TypeId × Value → H} {w : World} {base : Nat} {spare : Nat → Bool} {held : Bool}
set_option maxRecDepth 100000 in
theorem read_ref (fuel : Nat) (v0 v1 : Value) (x : DataW H × List MemPlace) (ht : DataW.trod enc Tryd.prog w base spare held fuel 53 [v0, v1] = some x) : ∃ k f : Int, v0 = .int .i64 k ∧ v1 = .int .i64 f := by
  obtain ⟨xs, n, _, rfl, _, hxl, hf⟩ := DataW.trod_struct Tryd.underlying53 ht
  have g0 : DataW.trod enc Tryd.prog w base spare held n 3 (([v0, v1].drop 0).take (Tryd.prog.cellsOf 3)) = xs[0]? := hf 0 _ rfl
  have g1 : DataW.trod enc Tryd.prog w base spare held n 3 (([v0, v1].drop 1).take (Tryd.prog.cellsOf 3)) = xs[1]? := hf 1 _ rfl
  rw [show Tryd.prog.cellsOf 3 = 1 by kernel_rfl] at g0 g1
  match xs, hxl with
  | [y0, y1], _ =>
    obtain ⟨k, e0, _, _⟩ := DataW.trod_int Tryd.underlying3 (show DataW.trod enc Tryd.prog w base spare held n 3 [v0] = some y0 from g0)
    obtain ⟨f, e1, _, _⟩ := DataW.trod_int Tryd.underlying3 (show DataW.trod enc Tryd.prog w base spare held n 3 [v1] = some y1 from g1)
    injection e0 with e0; injection e1 with e1
    exact ⟨k, f, e0, e1⟩
set_option maxRecDepth 100000 in
theorem read_arg (fuel : Nat) (v0 v1 v2 v3 : Value) (x : DataW H × List MemPlace) (ht : DataW.trod enc Tryd.prog w base spare held fuel 55 [v0, v1, v2, v3] = some x) : ∃ y : ArgV, v0 = .bool y.has ∧ v1 = .int .i64 y.n ∧ v2 = .int .i64 y.rk ∧ v3 = .int .i64 y.rf := by
  obtain ⟨xs, n, _, rfl, _, hxl, hf⟩ := DataW.trod_struct Tryd.underlying55 ht
  have g0 : DataW.trod enc Tryd.prog w base spare held n 4 (([v0, v1, v2, v3].drop 0).take (Tryd.prog.cellsOf 4)) = xs[0]? := hf 0 _ rfl
  have g1 : DataW.trod enc Tryd.prog w base spare held n 3 (([v0, v1, v2, v3].drop 1).take (Tryd.prog.cellsOf 3)) = xs[1]? := hf 1 _ rfl
  have g2 : DataW.trod enc Tryd.prog w base spare held n 53 (([v0, v1, v2, v3].drop 2).take (Tryd.prog.cellsOf 53)) = xs[2]? := hf 2 _ rfl
  rw [show Tryd.prog.cellsOf 4 = 1 by kernel_rfl] at g0
  rw [show Tryd.prog.cellsOf 3 = 1 by kernel_rfl] at g1
  rw [show Tryd.prog.cellsOf 53 = 2 by kernel_rfl] at g2
  match xs, hxl with
  | [y0, y1, y2], _ =>
    obtain ⟨h, e0, _⟩ := DataW.trod_bool Tryd.underlying4 (show DataW.trod enc Tryd.prog w base spare held n 4 [v0] = some y0 from g0)
    obtain ⟨k, e1, _, _⟩ := DataW.trod_int Tryd.underlying3 (show DataW.trod enc Tryd.prog w base spare held n 3 [v1] = some y1 from g1)
    obtain ⟨r, f, e2, e3⟩ := read_ref n v2 v3 y2 (show DataW.trod enc Tryd.prog w base spare held n 53 [v2, v3] = some y2 from g2)
    injection e0 with e0; injection e1 with e1
    exact ⟨⟨h, k, r, f⟩, e0, e1, e2, e3⟩
set_option maxRecDepth 100000 in
theorem read_op (fuel : Nat) (cs : List Value) (x : DataW H × List MemPlace) (p : Addr) (hl : cs.length = 11) (hc : ∀ j, j < 11 → w.cell? (p.add j) = cs[j]?) (ht : DataW.trod enc Tryd.prog w base spare held fuel 57 cs = some x) : ∃ y, OpAt w p y ∧ costOp y ≤ Rows.uptoBulk x.1 := by
  obtain ⟨xs, n, _, rfl, _, hxl, hf⟩ := DataW.trod_struct Tryd.underlying57 ht
  match cs, hl with
  | [v0, v1, v2, v3, v4, v5, v6, v7, v8, v9, v10], _ =>
    have g0 : DataW.trod enc Tryd.prog w base spare held n 3 (([v0, v1, v2, v3, v4, v5, v6, v7, v8, v9, v10].drop 0).take (Tryd.prog.cellsOf 3)) = xs[0]? := hf 0 _ rfl
    have g1 : DataW.trod enc Tryd.prog w base spare held n 53 (([v0, v1, v2, v3, v4, v5, v6, v7, v8, v9, v10].drop 1).take (Tryd.prog.cellsOf 53)) = xs[1]? := hf 1 _ rfl
    have g2 : DataW.trod enc Tryd.prog w base spare held n 55 (([v0, v1, v2, v3, v4, v5, v6, v7, v8, v9, v10].drop 3).take (Tryd.prog.cellsOf 55)) = xs[2]? := hf 2 _ rfl
    have g3 : DataW.trod enc Tryd.prog w base spare held n 55 (([v0, v1, v2, v3, v4, v5, v6, v7, v8, v9, v10].drop 7).take (Tryd.prog.cellsOf 55)) = xs[3]? := hf 3 _ rfl
    rw [show Tryd.prog.cellsOf 3 = 1 by kernel_rfl] at g0
    rw [show Tryd.prog.cellsOf 53 = 2 by kernel_rfl] at g1
    rw [show Tryd.prog.cellsOf 55 = 4 by kernel_rfl] at g2 g3
    match xs, hxl with
    | [y0, y1, y2, y3], _ =>
      obtain ⟨d, e0, _, _⟩ := DataW.trod_int Tryd.underlying3 (show DataW.trod enc Tryd.prog w base spare held n 3 [v0] = some y0 from g0)
      obtain ⟨tk, tf, e1, e2⟩ := read_ref n v1 v2 y1 (show DataW.trod enc Tryd.prog w base spare held n 53 [v1, v2] = some y1 from g1)
      obtain ⟨a, a0, a1, a2, a3⟩ := read_arg n v3 v4 v5 v6 y2 (show DataW.trod enc Tryd.prog w base spare held n 55 [v3, v4, v5, v6] = some y2 from g2)
      obtain ⟨b, b0, b1, b2, b3⟩ := read_arg n v7 v8 v9 v10 y3 (show DataW.trod enc Tryd.prog w base spare held n 55 [v7, v8, v9, v10] = some y3 from g3)
      injection e0 with e0
      subst e0 e1 e2 a0 a1 a2 a3 b0 b1 b2 b3
      have c0 := hc 0 (by decide)
      have c1 := hc 1 (by decide)
      have c2 := hc 2 (by decide)
      have c3 := hc 3 (by decide)
      have c4 := hc 4 (by decide)
      have c5 := hc 5 (by decide)
      have c6 := hc 6 (by decide)
      have c7 := hc 7 (by decide)
      have c8 := hc 8 (by decide)
      have c9 := hc 9 (by decide)
      have c10 := hc 10 (by decide)
      exact ⟨⟨d, tk, tf, a, b⟩, ⟨⟨by simpa [Addr.add] using c0, by simpa [Addr.add] using c1, by simpa [Addr.add] using c2⟩, ⟨by simpa [Addr.add] using c3, by simpa [Addr.add] using c4, by simpa [Addr.add] using c5, by simpa [Addr.add] using c6⟩, by simpa [Addr.add] using c7, by simpa [Addr.add] using c8, by simpa [Addr.add] using c9, by simpa [Addr.add] using c10⟩, Bulk.one_le _⟩
set_option maxRecDepth 100000 in
theorem read_ops {fuel : Nat} {cs : List Value} {x : DataW H × List MemPlace} (h : DataW.trod enc Tryd.prog w base spare held fuel 24 cs = some x) :
    ∃ (a : Option Addr) (l : List OpV) (cap : Nat), cs = [.slice a l.length cap] ∧ l.length ≤ cap ∧ cap ≤ maxLen ∧ SlAt 11 OpAt w a l ∧ (l.map costOp).sum + 1 ≤ Rows.uptoBulk x.1 :=
  read_slice Tryd.underlying24 (by kernel_rfl) (by decide) read_op h
theorem op_cost : ∀ l : List OpV, (l.map costOp).sum = l.length := fun l => by induction l with | nil => rfl | cons a l ih => simp [ih, costOp]; omega
set_option maxRecDepth 100000 in
theorem read_syst {fuel : Nat} {cs : List Value} {x : DataW H × List MemPlace} (hl : cs.length = 7) (ht : DataW.trod enc Tryd.prog w base spare held fuel 27 cs = some x) : ∃ y : SystV, SystIn w (.agg cs.toArray) y ∧ costSyst y ≤ Rows.uptoBulk x.1 := by
  obtain ⟨xs, n, _, rfl, _, hxl, hf⟩ := DataW.trod_struct Tryd.underlying27 ht
  match cs, hl with
  | [v0, v1, v2, v3, v4, v5, v6], _ =>
    have g0 : DataW.trod enc Tryd.prog w base spare held n 9 (([v0, v1, v2, v3, v4, v5, v6].drop 0).take (Tryd.prog.cellsOf 9)) = xs[0]? := hf 0 _ rfl
    have g1 : DataW.trod enc Tryd.prog w base spare held n 23 (([v0, v1, v2, v3, v4, v5, v6].drop 1).take (Tryd.prog.cellsOf 23)) = xs[1]? := hf 1 _ rfl
    have g2 : DataW.trod enc Tryd.prog w base spare held n 23 (([v0, v1, v2, v3, v4, v5, v6].drop 2).take (Tryd.prog.cellsOf 23)) = xs[2]? := hf 2 _ rfl
    have g3 : DataW.trod enc Tryd.prog w base spare held n 23 (([v0, v1, v2, v3, v4, v5, v6].drop 3).take (Tryd.prog.cellsOf 23)) = xs[3]? := hf 3 _ rfl
    have g4 : DataW.trod enc Tryd.prog w base spare held n 23 (([v0, v1, v2, v3, v4, v5, v6].drop 4).take (Tryd.prog.cellsOf 23)) = xs[4]? := hf 4 _ rfl
    have g5 : DataW.trod enc Tryd.prog w base spare held n 24 (([v0, v1, v2, v3, v4, v5, v6].drop 5).take (Tryd.prog.cellsOf 24)) = xs[5]? := hf 5 _ rfl
    have g6 : DataW.trod enc Tryd.prog w base spare held n 25 (([v0, v1, v2, v3, v4, v5, v6].drop 6).take (Tryd.prog.cellsOf 25)) = xs[6]? := hf 6 _ rfl
    rw [show Tryd.prog.cellsOf 9 = 1 by kernel_rfl] at g0
    rw [show Tryd.prog.cellsOf 23 = 1 by kernel_rfl] at g1 g2 g3 g4
    rw [show Tryd.prog.cellsOf 24 = 1 by kernel_rfl] at g5
    rw [show Tryd.prog.cellsOf 25 = 1 by kernel_rfl] at g6
    match xs, hxl with
    | [y0, y1, y2, y3, y4, y5, y6], _ =>
      obtain ⟨s0, e0, z0, k0⟩ := DataW.trod_string Tryd.underlying9 (show DataW.trod enc Tryd.prog w base spare held n 9 [v0] = some y0 from g0)
      obtain ⟨a1, l1, c1, e1, p1, q1, h1, b1⟩ := read_ints (show DataW.trod enc Tryd.prog w base spare held n 23 [v1] = some y1 from g1)
      obtain ⟨a2, l2, c2, e2, p2, q2, h2, b2⟩ := read_ints (show DataW.trod enc Tryd.prog w base spare held n 23 [v2] = some y2 from g2)
      obtain ⟨a3, l3, c3, e3, p3, q3, h3, b3⟩ := read_ints (show DataW.trod enc Tryd.prog w base spare held n 23 [v3] = some y3 from g3)
      obtain ⟨a4, l4, c4, e4, p4, q4, h4, b4⟩ := read_ints (show DataW.trod enc Tryd.prog w base spare held n 23 [v4] = some y4 from g4)
      obtain ⟨a5, l5, c5, e5, p5, q5, h5, b5⟩ := read_ops (show DataW.trod enc Tryd.prog w base spare held n 24 [v5] = some y5 from g5)
      obtain ⟨a6, l6, c6, e6, p6, q6, h6, b6⟩ := read_comps (show DataW.trod enc Tryd.prog w base spare held n 25 [v6] = some y6 from g6)
      injection e0 with e0; injection e1 with e1; injection e2 with e2; injection e3 with e3; injection e4 with e4; injection e5 with e5; injection e6 with e6
      subst e0 e1 e2 e3 e4 e5 e6
      have hs : Rows.uptoBulk y0.1 = s0.size + 1 := by rw [z0]; simp only [Rows.uptoBulk]; rfl
      rw [op_cost] at b5
      simp only [List.map_cons, List.map_nil, Rows.uptoBulk, Rows.uptoBulkAll]
      refine ⟨⟨s0, l1, l2, l3, l4, l5, l6⟩, ⟨a1, c1, a2, c2, a3, c3, a4, c4, a5, c5, a6, c6, rfl, ⟨h1, h2, h3, h4, h5, h6⟩, ⟨p1, p2, p3, p4, p5, p6⟩, ⟨q1, q2, q3, q4, q5, q6⟩, k0⟩, ?_⟩
      unfold costSyst
      simp only
      omega
end
end Go.Proofs.YtijeninfmjhbnaaDoor
end
/- Maps of the call's own, told as functions of natural keys: map[int][]int (MapI), map[int]map[int][]int (MapO). -/
section
namespace Go.Proofs.YtijeninfmjhbnaaDoor
open Go.ChangeShapes Go.WideShapes Go.ChangeAt Go.RowKit Go.Nm Go.Mem Go.Maps
set_option linter.unusedVariables false
theorem keyInt : Keyed Tryd.prog 3 := int_keyed Tryd.underlying3
theorem zeroRow (w : World) : (zeroValue 23).run Tryd.prog w = .ok (.slice none 0 0) w := by kernel_rfl
theorem zeroMap (w : World) : (zeroValue 70).run Tryd.prog w = .ok (.map none) w := by kernel_rfl
abbrev RV (v : Value) : Option (DataW Value × List MemPlace) := some (.held v, [])
abbrev OwnV (w : World) (M n : Nat) (D : DataW Value) : Prop := w.ownsMap Tryd.prog 3 RV M n D
abbrev keyN (i : Nat) : Lit := .int .i64 (i : Int)
theorem keyN_ne {i j : Nat} (h : i ≠ j) : keyN i ≠ keyN j := by
  intro e
  injection e with _ e
  omega
theorem keyN_of {i : Nat} (h : i ≤ 9223372036854775807) : keyOf Tryd.prog 3 (.int .i64 (i : Int)) = some (keyN i) := keyOf_int_mk Tryd.underlying3 (by simp [Lit.wf, IntKind.min, IntKind.max, IntKind.bits, IntKind.signed]; omega)
theorem below_gn {w w' : World} (h : Below w.heap.size w w') (row : Option Nat) : w.grownBy w' row := ⟨h.os, h.tape, h.output, h.size, fun k hk _ => h.block k hk⟩
theorem own_block {w : World} {b n : Nat} {D : DataW Value} (h : OwnV w b n D) : ∃ es c, w.heap[b]? = some (.map es c) := by
  obtain ⟨es, c, h, _⟩ := h
  exact ⟨es, c, h⟩
theorem own_nocell {w : World} {b n : Nat} {D : DataW Value} (h : OwnV w b n D) (q : Nat) (s) : w.cell? ⟨b, q, s⟩ = none := by
  obtain ⟨es, c, h⟩ := own_block h
  simp [World.cell?, h]
theorem ints_own {w w' : World} {a : Option Addr} {L : List Int} {b n : Nat} {D : DataW Value} (h : IntsAt .i64 w a L) (hm : OwnV w b n D) (hg : w.grownBy w' (some b)) : IntsAt .i64 w' a L := by
  intro hn
  obtain ⟨x, rfl, hx, hc⟩ := h hn
  have hne : x.block ≠ b := by
    intro e
    have h0 := hc 0 hn
    obtain ⟨xb, xo, xs⟩ := x
    simp only at e
    subst e
    unfold Addr.add at h0
    split at h0
    · rw [own_nocell hm] at h0
      cases h0
    · rw [own_nocell hm] at h0
      cases h0
  refine ⟨x, rfl, Nat.lt_of_lt_of_le hx hg.size, fun i hi => ?_⟩
  rw [World.cell?_of_block (w := w) (hg.block _ (by rw [block_of_add]; exact hx) (fun e => hne (by rw [block_of_add] at e; injection e)))]
  exact hc i hi
abbrev Part := Nat → Option (List Int)
def updF {α : Type} (F : Nat → Option α) (k : Nat) (v : α) : Nat → Option α := fun i => if i = k then some v else F i
theorem updF_same {α : Type} (F : Nat → Option α) (k : Nat) (v : α) : updF F k v k = some v := if_pos rfl
theorem updF_other {α : Type} (F : Nat → Option α) {k i : Nat} (v : α) (h : i ≠ k) : updF F k v i = F i := if_neg h
/-- ints that lie in the blocks from lo on -/
structure IntsU (lo : Nat) (w : World) (a : Option Addr) (L : List Int) : Prop where
  ints : IntsAt .i64 w a L
  lo : ∀ x, a = some x → lo ≤ x.block
theorem IntsU.below {lo : Nat} {w w' : World} {a : Option Addr} {L : List Int} (h : IntsU lo w a L) (hb : Below w.heap.size w w') : IntsU lo w' a L := ⟨h.ints.below hb, h.lo⟩
theorem IntsU.own {lo : Nat} {w w' : World} {a : Option Addr} {L : List Int} {b n : Nat} {D : DataW Value} (h : IntsU lo w a L) (hm : OwnV w b n D) (hg : w.grownBy w' (some b)) : IntsU lo w' a L := ⟨ints_own h.ints hm hg, h.lo⟩
def MapI (w : World) (b n : Nat) (F : Part) : Prop := ∃ D, OwnV w b n D ∧ ∀ i : Nat, Maps.has D (keyN i) = (F i).isSome ∧ ∀ L, F i = some L → ∃ a c, D.atKey (keyN i) (.held (.slice none 0 0)) = .held (.slice a L.length c) ∧ IntsU b w a L
theorem MapI.lt {w : World} {b n : Nat} {F : Part} (h : MapI w b n F) : b < w.heap.size := by
  obtain ⟨D, h, _⟩ := h
  exact World.ownsMap.lt h
theorem MapI.new (w : World) : MapI (w.alloc (.map #[] 0)) w.heap.size 0 (fun _ => none) := ⟨_, World.ownsMap_made w Tryd.prog 3 RV, fun i => ⟨rfl, fun L h => by cases h⟩⟩
theorem MapI.below {w w' : World} {b n : Nat} {F : Part} (h : MapI w b n F) (hb : Below w.heap.size w w') : MapI w' b n F := by
  obtain ⟨D, h, hF⟩ := h
  refine ⟨D, h.kept (row := none) (below_gn hb _) (by simp), fun i => ⟨(hF i).1, fun L hL => ?_⟩⟩
  obtain ⟨a, c, h1, h2⟩ := (hF i).2 L hL
  exact ⟨a, c, h1, h2.below hb⟩
/-- another map is written -/
theorem MapI.beside {w w' : World} {b n b2 n2 : Nat} {F : Part} {D2 : DataW Value} (h : MapI w b n F) (h2 : OwnV w b2 n2 D2) (hne : b ≠ b2) (hg : w.grownBy w' (some b2)) : MapI w' b n F := by
  obtain ⟨D, h, hF⟩ := h
  refine ⟨D, h.kept hg (fun e => hne (by injection e)), fun i => ⟨(hF i).1, fun L hL => ?_⟩⟩
  obtain ⟨a, c, h3, h4⟩ := (hF i).2 L hL
  exact ⟨a, c, h3, h4.own h2 hg⟩
theorem MapI.put {w w' : World} {b n : Nat} {F : Part} {D : DataW Value} (hD : OwnV w b n D) (hF : ∀ i : Nat, Maps.has D (keyN i) = (F i).isSome ∧ ∀ L, F i = some L → ∃ a c, D.atKey (keyN i) (.held (.slice none 0 0)) = .held (.slice a L.length c) ∧ IntsU b w a L)
    (k : Nat) (L : List Int) (a : Option Addr) (c : Nat) (hL : IntsU b w a L) (h' : OwnV w' b (n + 1) (D.put (keyN k) (.held (.slice a L.length c)))) (hg : w.grownBy w' (some b)) : MapI w' b (n + 1) (updF F k L) := by
  refine ⟨_, h', fun i => ?_⟩
  by_cases e : i = k
  · subst e
    refine ⟨?_, fun L' hL' => ?_⟩
    · rw [updF_same, Maps.has_put_same (World.ownsMap.isMap hD) (show WideAt.IsKeyLit (keyN i) from trivial)]; rfl
    · rw [updF_same] at hL'
      injection hL' with hL'
      subst hL'
      exact ⟨a, c, Maps.atKey_put_same (World.ownsMap.isMap hD) (show WideAt.IsKeyLit (keyN i) from trivial) _ _, hL.own hD hg⟩
  · refine ⟨?_, fun L' hL' => ?_⟩
    · rw [updF_other F L e, Maps.has_put_other (keyN_ne e)]; exact (hF i).1
    · rw [updF_other F L e] at hL'
      obtain ⟨a2, c2, h1, h2⟩ := (hF i).2 L' hL'
      exact ⟨a2, c2, by rw [Maps.atKey_put_other (keyN_ne e)]; exact h1, h2.own hD hg⟩
def MapO (w : World) (base b n : Nat) (G : Nat → Option Part) : Prop := ∃ (D : DataW Value) (B : Nat → Nat), OwnV w b n D ∧ ∀ i : Nat, Maps.has D (keyN i) = (G i).isSome ∧ (G i = none → D.atKey (keyN i) (.held (.map none)) = .held (.map none)) ∧ ∀ F, G i = some F → D.atKey (keyN i) (.held (.map none)) = .held (.map (some (B i))) ∧ base ≤ B i ∧ B i ≠ b ∧ (∃ m, MapI w (B i) m F) ∧ ∀ j, (G j).isSome = true → B j = B i → j = i
theorem MapO.lt {w : World} {base b n : Nat} {G : Nat → Option Part} (h : MapO w base b n G) : b < w.heap.size := by
  obtain ⟨D, B, h, _⟩ := h
  exact World.ownsMap.lt h
theorem MapO.new (w : World) (base : Nat) : MapO (w.alloc (.map #[] 0)) base w.heap.size 0 (fun _ => none) := ⟨_, fun _ => 0, World.ownsMap_made w Tryd.prog 3 RV, fun i => ⟨rfl, fun _ => rfl, fun L h => by cases h⟩⟩
theorem MapO.below {w w' : World} {base b n : Nat} {G : Nat → Option Part} (h : MapO w base b n G) (hb : Below w.heap.size w w') : MapO w' base b n G := by
  obtain ⟨D, B, h, hG⟩ := h
  refine ⟨D, B, h.kept (row := none) (below_gn hb _) (by simp), fun i => ⟨(hG i).1, (hG i).2.1, fun F hF => ?_⟩⟩
  obtain ⟨h1, h0, h2, ⟨m, h3⟩, h4⟩ := (hG i).2.2 F hF
  exact ⟨h1, h0, h2, ⟨m, h3.below hb⟩, h4⟩
theorem MapO.put {w w' : World} {base b n : Nat} {G : Nat → Option Part} {D : DataW Value} {B : Nat → Nat} (hD : OwnV w b n D) (hG : ∀ i : Nat, Maps.has D (keyN i) = (G i).isSome ∧ (G i = none → D.atKey (keyN i) (.held (.map none)) = .held (.map none)) ∧ ∀ F, G i = some F → D.atKey (keyN i) (.held (.map none)) = .held (.map (some (B i))) ∧ base ≤ B i ∧ B i ≠ b ∧ (∃ m, MapI w (B i) m F) ∧ ∀ j, (G j).isSome = true → B j = B i → j = i)
    (k : Nat) (F : Part) (bi m : Nat) (hF : MapI w bi m F) (hbb : base ≤ bi) (hbi : bi ≠ b) (hfr : ∀ j F', G j = some F' → B j ≠ bi) (h' : OwnV w' b (n + 1) (D.put (keyN k) (.held (.map (some bi))))) (hg : w.grownBy w' (some b)) : MapO w' base b (n + 1) (updF G k F) := by
  refine ⟨_, fun i => if i = k then bi else B i, h', fun i => ?_⟩
  by_cases e : i = k
  · subst e
    refine ⟨?_, ?_, fun F' hF' => ?_⟩
    · rw [updF_same, Maps.has_put_same (World.ownsMap.isMap hD) (show WideAt.IsKeyLit (keyN i) from trivial)]; rfl
    · rw [updF_same]; intro h; cases h
    · rw [updF_same] at hF'
      injection hF' with hF'
      subst hF'
      simp only [if_pos]
      refine ⟨Maps.atKey_put_same (World.ownsMap.isMap hD) (show WideAt.IsKeyLit (keyN i) from trivial) _ _, hbb, hbi, ⟨m, hF.beside hD hbi hg⟩, fun j hj hB => ?_⟩
      by_cases ej : j = i
      · exact ej
      · rw [updF_other G F ej] at hj
        rw [if_neg ej] at hB
        obtain ⟨F2, hF2⟩ := Option.isSome_iff_exists.1 hj
        exact absurd hB (hfr j F2 hF2)
  · refine ⟨?_, ?_, fun F' hF' => ?_⟩
    · rw [updF_other G F e, Maps.has_put_other (keyN_ne e)]; exact (hG i).1
    · rw [updF_other G F e, Maps.atKey_put_other (keyN_ne e)]; exact (hG i).2.1
    · rw [updF_other G F e] at hF'
      obtain ⟨h1, h0, h2, ⟨m2, h3⟩, h4⟩ := (hG i).2.2 F' hF'
      simp only [if_neg e]
      refine ⟨by rw [Maps.atKey_put_other (keyN_ne e)]; exact h1, h0, h2, ⟨m2, h3.beside hD h2 hg⟩, fun j hj hB => ?_⟩
      by_cases ej : j = k
      · subst ej
        rw [if_pos rfl] at hB
        exact absurd hB.symm (hfr i F' hF')
      · rw [updF_other G F ej] at hj
        rw [if_neg ej] at hB
        exact h4 j hj hB
end Go.Proofs.YtijeninfmjhbnaaDoor
end
