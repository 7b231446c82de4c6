/- Lemmas for the law MigrateBack: MigOne, MigKinds, MigBackP, RevL, MigRev, MigBack. No conditions. -/
import Derived.Test.YtijeninfmjhbnaaDoorM14
import Derived.Test.YtijeninfmjhbnaaDoorM15
import Derived.Test.YtijeninfmjhbnaaDoorM08
import Derived.Deep.LoopGhost
import Derived.Shelf.SlGeneric
import Derived.Ground.SlgnProg
import Derived.Shelf.SlicesQ.Reverse
import Derived.Test.YtijeninfmjhbnaaDoorProg
import Derived.Test.YtijeninfmjhbnaaDoorM05
import Derived.Sort.OwnSorted
/- migrate.one, for all moves. -/
section
namespace Go.Proofs.YtijeninfmjhbnaaDoor
open Go.ChangeShapes Go.WideShapes Go.ChangeAt Go.RowKit Go.Nm Go.Mem
set_option linter.unusedVariables false
set_option maxRecDepth 100000 in
theorem mig_one_bad (ks : List KindV) (ka : Option Addr) (n kc : Nat) (hn : ks.length = n) (h1 : n ≤ 1000000) (hv : ∀ k ∈ ks, k.fields.length ≤ 1000000) (y : MoveV) (a : Option Addr) (c : Nat) (W : World) (hz : SlAt 2 KindAt W ka ks) (hp : pE ks y ≠ 0) :
    Calls Tryd.prog 32 #[.slice ka n kc, .agg #[.int .i64 y.do_, .string y.kind, .string y.field, .string y.name, .int .i64 y.value, .string y.new.name, .int .i64 y.new.bits, .int .i64 y.new.low, .string y.whole.name, .slice a y.whole.fields.length c]] W (OneT ks y W) := by
  have he : oneE ks y = pE ks y := by unfold oneE; rw [if_pos hp]
  have hb0 := (Below.refl W.heap.size W).alloc (Nat.le_refl _) (.cells #[.int .i64 y.do_, .string y.kind, .string y.field, .string y.name, .int .i64 y.value, .string y.new.name, .int .i64 y.new.bits, .int .i64 y.new.low, .string y.whole.name, .slice a y.whole.fields.length c] 45)
  have cP := mig_place ks ka n kc hn (by omega) (fun k hk => by have := hv k hk; omega) y a c _ (hz.below KindAt.abides hb0)
  obtain ⟨E, hE⟩ : ∃ e, e = pE ks y := ⟨_, rfl⟩
  obtain ⟨I, hI⟩ : ∃ e, e = pI ks y := ⟨_, rfl⟩
  obtain ⟨J, hJ⟩ : ∃ e, e = pJ ks y := ⟨_, rfl⟩
  rw [← hE, ← hI, ← hJ] at cP
  rw [← hE] at he hp
  have CP := Lib.hid cP
  have HB := Lib.hid hb0
  have HE := Lib.hid he
  have t1 : (E != 0) = true := by rw [bne_iff_ne]; exact hp
  have HP := Lib.hid hp
  clear cP hb0 he hE hI hJ hp hz hv hn
  go_enter Tryd.func32, Tryd.ntmps32
  go_wp2_with fail
  refine CP.out.mono ?_
  rintro e w1 ⟨rfl, hb1⟩
  go_wp2_with fail
  go_ret2
  exact OneT.bad HE.out HP.out (bt HB.out hb1)
theorem mig_oneT (ks : List KindV) (ka : Option Addr) (n kc : Nat) (hn : ks.length = n) (h1 : n ≤ 1000000) (hv : ∀ k ∈ ks, k.fields.length ≤ 1000000) (y : MoveV) (a : Option Addr) (c : Nat) (W : World) (hz : SlAt 2 KindAt W ka ks) (hy : MvFine W y a c) (hwb : y.whole.fields.length ≤ 4398046510976) :
    Calls Tryd.prog 32 #[.slice ka n kc, .agg #[.int .i64 y.do_, .string y.kind, .string y.field, .string y.name, .int .i64 y.value, .string y.new.name, .int .i64 y.new.bits, .int .i64 y.new.low, .string y.whole.name, .slice a y.whole.fields.length c]] W (OneT ks y W) := by
  by_cases hp : pE ks y = 0
  · have hz0 := (pE_zero hp).1
    rcases (show y.do_ = 0 ∨ y.do_ = 1 ∨ y.do_ = 2 ∨ y.do_ = 3 ∨ y.do_ = 4 ∨ y.do_ = 5 ∨ y.do_ = 6 by omega) with h | h | h | h | h | h | h
    · have := mig_one_0 ks ka n kc hn h1 hv y a c W hz hy hwb hp h; rw [h]; exact this
    · have := mig_one_1 ks ka n kc hn h1 hv y a c W hz hy hwb hp h; rw [h]; exact this
    · have := mig_one_2 ks ka n kc hn h1 hv y a c W hz hy hwb hp h; rw [h]; exact this
    · have := mig_one_3 ks ka n kc hn h1 hv y a c W hz hy hwb hp h; rw [h]; exact this
    · have := mig_one_4 ks ka n kc hn h1 hv y a c W hz hy hwb hp h; rw [h]; exact this
    · have := mig_one_5 ks ka n kc hn h1 hv y a c W hz hy hwb hp h; rw [h]; exact this
    · have := mig_one_6 ks ka n kc hn h1 hv y a c W hz hy hwb hp h; rw [h]; exact this
  · exact mig_one_bad ks ka n kc hn h1 hv y a c W hz hp
theorem mig_one (ks : List KindV) (ka : Option Addr) (n kc : Nat) (hn : ks.length = n) (h1 : n ≤ 1000000) (hv : ∀ k ∈ ks, k.fields.length ≤ 1000000) (y : MoveV) (a : Option Addr) (c : Nat) (W : World) (hz : SlAt 2 KindAt W ka ks) (hy : MvFine W y a c) (hwb : y.whole.fields.length ≤ 4398046510976) :
    Calls Tryd.prog 32 #[.slice ka n kc, .agg #[.int .i64 y.do_, .string y.kind, .string y.field, .string y.name, .int .i64 y.value, .string y.new.name, .int .i64 y.new.bits, .int .i64 y.new.low, .string y.whole.name, .slice a y.whole.fields.length c]] W (OnePost ks y W) := (mig_oneT ks ka n kc hn h1 hv y a c W hz hy hwb).mono fun _ _ h => h.post
end Go.Proofs.YtijeninfmjhbnaaDoor
end
/- migrate.Kinds. -/
section
namespace Go.Proofs.YtijeninfmjhbnaaDoor
open Go.ChangeShapes Go.WideShapes Go.ChangeAt Go.RowKit Go.Nm Go.Mem
set_option linter.unusedVariables false
def KindsPost (ks : List KindV) (l : List MoveV) (W : World) (e : Ending) (w' : World) : Prop :=
  ((afterE ks l ≠ 0 ∧ e = .returned (.tuple #[.slice none 0 0, .int .i64 (afterE ks l)])) ∨ (afterE ks l = 0 ∧ ∃ a c, e = .returned (.tuple #[.slice a (movesK ks l).length c, .int .i64 0]) ∧ (movesK ks l).length ≤ c ∧ c ≤ 9223372036854775807 ∧ SlAt 2 KindAt w' a (movesK ks l))) ∧ Below W.heap.size W w'
theorem KindsPost.bad {ks : List KindV} {l : List MoveV} {W w' : World} {E : Int} (h : afterE ks l = E) (h0 : E ≠ 0) (hb : Below W.heap.size W w') : KindsPost ks l W (.returned (.tuple #[.slice none 0 0, .int .i64 E])) w' := ⟨Or.inl ⟨by rw [h]; exact h0, by rw [h]⟩, hb⟩
theorem KindsPost.ok {ks : List KindV} {l : List MoveV} {W w' : World} {a : Option Addr} {n c : Nat} (h : afterE ks l = 0) (hn : (movesK ks l).length = n) (hc : n ≤ c) (hm : c ≤ 9223372036854775807) (hs : SlAt 2 KindAt w' a (movesK ks l)) (hb : Below W.heap.size W w') : KindsPost ks l W (.returned (.tuple #[.slice a n c, .int .i64 0])) w' := ⟨Or.inr ⟨h, a, c, by rw [hn], by rw [hn]; exact hc, hm, hs⟩, hb⟩
/-- the kinds in a round of the moves -/
def Cur (ks : List KindV) (l : List MoveV) (i : Nat) (w : World) (v : Value) : Prop := ∃ (cur : List KindV) (n : Nat) (a : Option Addr) (c : Nat), v = .slice a n c ∧ cur.length = n ∧ n ≤ c ∧ c ≤ 9223372036854775807 ∧ SlAt 2 KindAt w a cur ∧ kindsE cur = 0 ∧ movesE cur (l.drop i) = afterE ks l ∧ movesK cur (l.drop i) = movesK ks l
theorem mv_cells {w : World} {x : Addr} {l : List MoveV} (h : SlAt 10 MvAt w (some x) l) (i : Nat) (hi : i < l.length) : ∃ xb xo, x = ⟨xb, xo, none⟩ ∧ ∃ a c, CellsK w xb (xo + i * 10) (mvL l[i] a c) ∧ MvFine w l[i] a c := by
  obtain ⟨y, hy, hb, hc⟩ := h (by omega)
  injection hy with hy
  subst hy
  obtain ⟨xb, xo, sp⟩ := x
  have hsp : sp = none := by
    obtain ⟨a, c, h0, _, _⟩ := hc 0 (by omega)
    have := h0 0 _ rfl
    obtain ⟨_, _, _, _, h3⟩ := hc 0 (by omega)
    simpa [Addr.add] using h3
  subst hsp
  obtain ⟨a, c, h0, h1, _⟩ := hc i hi
  rw [Addr.add_lit] at h0
  exact ⟨xb, xo, rfl, a, c, h0, h1⟩
set_option maxHeartbeats 8000000 in
set_option maxRecDepth 100000 in
theorem mig_Kinds (ks : List KindV) (ka : Option Addr) (n kc : Nat) (hn : ks.length = n) (h1 : n ≤ 17592186044000) (hkc : n ≤ kc) (hkm : kc ≤ 9223372036854775807) (l : List MoveV) (la : Option Addr) (m lc : Nat) (hm : l.length = m) (hwb : ∀ y ∈ l, y.whole.fields.length ≤ 4398046510976) (W : World) (hz : SlAt 2 KindAt W ka ks) (hl : SlAt 10 MvAt W la l) :
    Calls Tryd.prog 30 #[.slice ka n kc, .slice la m lc] W (KindsPost ks l W) := by
  obtain ⟨K, hK⟩ : ∃ K, K = kindsE ks := ⟨_, rfl⟩
  have cK := kind_Check ks ka n kc hn (by omega) hkc hkm W hz
  rw [← hK] at cK
  have CK := Lib.hid cK
  have HK := Lib.hid hK
  have HN := Lib.hid hn
  have HM := Lib.hid hm
  have HZ := Lib.hid hz
  have HL := Lib.hid hl
  have HWB := Lib.hid hwb
  clear cK hK hn hm hz hl hwb
  go_enter Tryd.func30, Tryd.ntmps30
  go_wp2_with fail
  refine CK.out.mono ?_
  rintro e w1 ⟨rfl, hb1⟩
  have HB1 := Lib.hid hb1
  clear hb1 CK
  by_cases hK0 : K = 0
  · have hk0 : kindsE ks = 0 := by rw [← HK.out]; exact hK0
    have hs := kinds_small hk0
    have hn16 : n ≤ 16 := by rw [← HN.out]; exact hs.1
    have HK0 := Lib.hid hk0
    subst hK0
    by_cases hm100 : 100 < m
    · have HE := Lib.hid (show afterE ks l = 2 by unfold afterE; rw [hk0, if_neg (by simp), if_pos (by rw [HM.out]; exact hm100)])
      clear hk0 hs
      go_wp2_with fail
      go_ret2
      exact KindsPost.bad HE.out (by decide) HB1.out
    · have hmE : afterE ks l = movesE ks l := by unfold afterE; rw [hk0, if_neg (by simp), if_neg (by rw [HM.out]; exact hm100)]
      have HME := Lib.hid hmE
      have CC := Lib.hid (kind_Copy ks ka n kc HN.out (by omega) (fun k hk => by have := hs.2 k hk; omega) w1 (HZ.out.below KindAt.abides HB1.out))
      have HN16 := Lib.hid hn16
      have HM1 := Lib.hid (show m ≤ 100 by omega)
      clear hk0 hs hmE hn16
      go_wp2_with fail
      refine CC.out.mono ?_
      rintro e w2 ⟨⟨a2, rfl, hs2⟩, hb2⟩
      have HB2 := Lib.hid (bt HB1.out hb2)
      have HCUR := Lib.hid (show Cur ks l 0 w2 (.slice a2 n n) from ⟨ks, n, a2, n, rfl, HN.out, Nat.le_refl _, by have := HN16.out; omega, hs2, HK0.out, HME.out.symm, rfl⟩)
      clear hs2 hb2 CC HB1
      go_wp2_with fail
      go_loopg [0, 8, 9, 10, 23] m (fun gk v0 _ _ _ vi wx => ∃ i : Nat, i ≤ m ∧ gk = m - i ∧ vi = .int .i64 i ∧ Hid (Cur ks l i wx v0) ∧ Hid (Below W.heap.size W wx))
      case atStart => exact ⟨0, Nat.zero_le _, rfl, rfl, HCUR, HB2⟩
      case round =>
        clear HCUR HB2
        obtain ⟨i, hi, g2, rfl, HCUR, HB⟩ := hrel
        have G2 := Lib.hid g2
        clear g2
        obtain ⟨cur, nc, ca, cc, hv0, hcl, hcc, hcm, hcs, hck, hce, hcK⟩ := HCUR.out
        subst hv0
        by_cases hlt : i < m
        · have hil : i < l.length := by rw [HM.out]; exact hlt
          obtain ⟨x, rfl, _, _⟩ := HL.out (by omega)
          obtain ⟨xb, xo, rfl, fa, fc, hcl2, hfine⟩ := mv_cells (HL.out.below MvAt.abides HB.out) i hil
          obtain ⟨y, hy⟩ : ∃ y, y = l[i] := ⟨_, rfl⟩
          rw [← hy] at hcl2 hfine
          have hwy : y.whole.fields.length ≤ 4398046510976 := HWB.out y (by rw [hy]; exact List.getElem_mem _)
          have hks := kinds_small hck
          rw [List.drop_eq_getElem_cons hil, ← hy] at hce hcK
          unfold movesE at hce
          replace hcK : movesK (oneK cur y) (l.drop (i + 1)) = movesK ks l := hcK
          have hba := (Below.refl wr.heap.size wr).alloc (Nat.le_refl _) (.cells #[.int .i64 y.do_, .string y.kind, .string y.field, .string y.name, .int .i64 y.value, .string y.new.name, .int .i64 y.new.bits, .int .i64 y.new.low, .string y.whole.name, .slice fa y.whole.fields.length fc] 45)
          have HBA := Lib.hid (bt HB.out hba)
          have c1 := mig_one cur ca nc cc hcl (by rw [← hcl]; omega) (fun k hk => by have := hks.2 k hk; omega) y fa fc _ (hcs.below KindAt.abides hba) (hfine.below hba) hwy
          obtain ⟨yd, e0⟩ : ∃ x, x = y.do_ := ⟨_, rfl⟩
          obtain ⟨yk, e1⟩ : ∃ x, x = y.kind := ⟨_, rfl⟩
          obtain ⟨yf, e2⟩ : ∃ x, x = y.field := ⟨_, rfl⟩
          obtain ⟨yn, e3⟩ : ∃ x, x = y.name := ⟨_, rfl⟩
          obtain ⟨yv, e4⟩ : ∃ x, x = y.value := ⟨_, rfl⟩
          obtain ⟨yq, e5⟩ : ∃ x, x = y.new.name := ⟨_, rfl⟩
          obtain ⟨yb, e6⟩ : ∃ x, x = y.new.bits := ⟨_, rfl⟩
          obtain ⟨yl, e7⟩ : ∃ x, x = y.new.low := ⟨_, rfl⟩
          obtain ⟨yw, e8⟩ : ∃ x, x = y.whole.name := ⟨_, rfl⟩
          obtain ⟨yz, e9⟩ : ∃ x, x = y.whole.fields.length := ⟨_, rfl⟩
          unfold mvL at hcl2
          rw [← e0, ← e1, ← e2, ← e3, ← e4, ← e5, ← e6, ← e7, ← e8, ← e9] at c1 hcl2
          rw [← e0, ← e1, ← e2, ← e3, ← e4, ← e5, ← e6, ← e7, ← e8, ← e9] at HBA
          have q0 := hcl2 0 _ rfl
          have q1 := hcl2 1 _ rfl
          have q2 := hcl2 2 _ rfl
          have q3 := hcl2 3 _ rfl
          have q4 := hcl2 4 _ rfl
          have q5 := hcl2 5 _ rfl
          have q6 := hcl2 6 _ rfl
          have q7 := hcl2 7 _ rfl
          have q8 := hcl2 8 _ rfl
          have q9 := hcl2 9 _ rfl
          rw [Nat.add_zero] at q0
          have C1 := Lib.hid c1
          have HCE := Lib.hid hce
          have HCK := Lib.hid hcK
          have HLT := Lib.hid (show ∃ k, i + 1 + k = m from ⟨m - (i + 1), by omega⟩)
          have w9 : IntKind.i64.wrap ((i : Int) + 1) = ((i + 1 : Nat) : Int) := by have := HM1.out; rw [IntKind.wrap_i64]; omega
          clear c1 hcl2 hfine hy hwy hks hba hce hcK hcs hck hcl hcc hcm e0 e1 e2 e3 e4 e5 e6 e7 e8 e9 hil HCUR
          go_wp2_with fail
          refine C1.out.mono ?_
          rintro e w3 ⟨hpost, hb3⟩
          have HB3 := Lib.hid (bt HBA.out hb3)
          clear hb3 C1 q0 q1 q2 q3 q4 q5 q6 q7 q8 q9 HBA
          rcases hpost with ⟨he, rfl⟩ | ⟨he, a4, c4, rfl, h4a, h4b, hs4⟩
          · obtain ⟨E, hE⟩ : ∃ e, e = oneE cur y := ⟨_, rfl⟩
            have HE := Lib.hid (show afterE ks l = E by have := HCE.out; rw [if_pos he, ← hE] at this; exact this.symm)
            rw [← hE] at he ⊢
            have t1 : (E != 0) = true := by rw [bne_iff_ne]; exact he
            have HNE := Lib.hid he
            clear hE he HCE HCK
            go_wp2_with fail
            go_ret2
            exact KindsPost.bad HE.out HNE.out HB3.out
          · have hce2 := HCE.out
            rw [if_neg (by rw [he]; simp)] at hce2
            obtain ⟨n4, hn4⟩ : ∃ n4, n4 = (oneK cur y).length := ⟨_, rfl⟩
            rw [← hn4] at h4a ⊢
            have HC2 := Lib.hid (show Cur ks l (i + 1) w3 (.slice a4 n4 c4) from ⟨oneK cur y, n4, a4, c4, rfl, hn4.symm, h4a, h4b, hs4, (oneE_kinds he).2, hce2, HCK.out⟩)
            clear he h4a h4b hs4 hce2 hn4 HCE HCK
            go_wp2_with fail
            go_roundg (m - (i + 1))
            case measure => rw [G2.out]; obtain ⟨k, hk⟩ := HLT.out; omega
            case rel => obtain ⟨k, hk⟩ := HLT.out; exact ⟨i + 1, by omega, rfl, (by first | rfl | go_num | simp), HC2, HB3⟩
        · obtain rfl : i = m := by omega
          rw [List.drop_eq_nil_of_le (by rw [HM.out]; exact Nat.le_refl _)] at hce hcK
          have HE := Lib.hid (show afterE ks l = 0 from hce.symm)
          have HKK := Lib.hid (show cur = movesK ks l from hcK)
          have HC := Lib.hid (And.intro hcl (And.intro hcc (And.intro hcm hcs)))
          clear hce hcK hcl hcc hcm hcs hck HCUR
          go_wp2_with fail
          go_ret2
          exact KindsPost.ok HE.out (by rw [← HKK.out]; exact HC.out.1) HC.out.2.1 HC.out.2.2.1 (by rw [← HKK.out]; exact HC.out.2.2.2) HB.out
  · have HE := Lib.hid (show afterE ks l = K by unfold afterE; rw [← HK.out, if_pos hK0])
    have t0 : (K != 0) = true := by rw [bne_iff_ne]; exact hK0
    have HNE := Lib.hid hK0
    clear hK0
    go_wp2_with fail
    go_ret2
    exact KindsPost.bad HE.out HNE.out HB1.out
end Go.Proofs.YtijeninfmjhbnaaDoor
end
/- The moves that lead back: plain. -/
section
namespace Go.Proofs.YtijeninfmjhbnaaDoor
set_option linter.unusedVariables false
open Go.Nm
def backB : List KindV → List MoveV → Bool
  | _, [] => true
  | ks, y :: r => invB ks y && backB (oneK ks y) r
def backL : List KindV → List MoveV → List MoveV
  | _, [] => []
  | ks, y :: r => invV ks y :: backL (oneK ks y) r
theorem backL_len (l : List MoveV) : ∀ ks, (backL ks l).length = l.length := by
  induction l with
  | nil => intro ks; rfl
  | cons y r ih => intro ks; unfold backL; rw [List.length_cons, List.length_cons, ih]
/-- the cells of a move that undoes another one -/
def zcell (y : MoveV) : List Value := [.int .i64 y.do_, .string y.kind, .string y.field, .string y.name, .int .i64 0, .string (⟨#[]⟩ : ByteArray), .int .i64 y.new.bits, .int .i64 y.new.low, .string (⟨#[]⟩ : ByteArray), .slice none 0 0]
theorem zcell_len (y : MoveV) : (zcell y).length = 10 := rfl
theorem zcell_one (y : MoveV) : ∀ v ∈ zcell y, v.oneCell' = true := by
  intro v hv
  unfold zcell at hv
  simp only [List.mem_cons, List.not_mem_nil, or_false] at hv
  rcases hv with rfl | rfl | rfl | rfl | rfl | rfl | rfl | rfl | rfl | rfl <;> rfl
def zcells (l : List MoveV) : List Value := l.flatMap zcell
theorem zcells_len (l : List MoveV) : (zcells l).length = l.length * 10 := by
  induction l with
  | nil => rfl
  | cons y r ih => unfold zcells at ih ⊢; rw [List.flatMap_cons, List.length_append, ih, zcell_len, List.length_cons]; omega
theorem zcells_append (l k : List MoveV) : zcells (l ++ k) = zcells l ++ zcells k := by unfold zcells; rw [List.flatMap_append]
theorem zcells_one (l : List MoveV) : ∀ v ∈ zcells l, v.oneCell' = true := by
  intro v hv
  obtain ⟨y, _, hy⟩ := List.mem_flatMap.1 hv
  exact zcell_one y v hy
theorem zcells_get : ∀ (l : List MoveV) (i : Nat) (h : i < l.length) (j : Nat), j < 10 → (zcells l)[i * 10 + j]? = (zcell l[i])[j]?
  | [], i, h, _, _ => by simp at h
  | y :: r, 0, _, j, hj => by
    show (zcell y ++ zcells r)[0 * 10 + j]? = _
    rw [List.getElem?_append_left (by rw [zcell_len]; omega)]
    simp
  | y :: r, i + 1, h, j, hj => by
    show (zcell y ++ zcells r)[(i + 1) * 10 + j]? = _
    rw [List.getElem?_append_right (by rw [zcell_len]; omega), zcell_len, show (i + 1) * 10 + j - 10 = i * 10 + j by omega]
    exact zcells_get r i (by simpa using h) j hj
end Go.Proofs.YtijeninfmjhbnaaDoor
end
/- Layings of the kit's shelf at this translation, in plain words. -/
section
namespace Go.Proofs
open Go.Shelf
def Tryd.revMoves_ren : Go.Shelf.Ren := ⟨fun | 35 => 33 | n => n, fun | 22 => 33 | 23 => 45 | 3 => 3 | 4 => 4 | 0 => 0 | n => n, fun | n => n⟩
theorem Tryd.revMoves : Go.Proofs.SlLaysE0.n35 Tryd.prog Tryd.revMoves_ren := {
  mixed := by kernel_rfl
  f35 := ⟨Tryd.f33.name, by decide, Tryd.func33.trans (congrArg some (by kernel_rfl))⟩
  t0 := Tryd.underlying0
  a0 := Tryd.isAgg0
  z0 := Tryd.sizeOf0
  v0 := Tryd.zeroValue0
  t3 := Tryd.underlying3
  a3 := Tryd.isAgg3
  z3 := Tryd.sizeOf3
  v3 := Tryd.zeroValue3
  t4 := Tryd.underlying4
  a4 := Tryd.isAgg4
  z4 := Tryd.sizeOf4
  v4 := Tryd.zeroValue4
  t22 := Tryd.underlying33
  a22 := Tryd.isAgg33
  z22 := Tryd.sizeOf33
  v22 := Tryd.zeroValue33 }
end Go.Proofs
end
/- slices.Reverse at a row of moves of the call's own. -/
section
namespace Go.Proofs.YtijeninfmjhbnaaDoor
open Go.ChangeShapes Go.WideShapes Go.ChangeAt Go.RowKit Go.Nm Go.Mem Go.Shelf
open Go.Sort (putRow putCells mapBlock flatK get_flatK HoldsK onCells)
set_option linter.unusedVariables false
theorem heap_revG {w : World} {g n : Nat} {cur : Array Value} {e : TypeId} {fr : Nat × Nat} (F : Array Value) (hb : w.heap[g]? = some (.cells cur e fr)) :
    (putRow id (Sort.ahead w n) g 0 F).heap[g]? = some (.cells (putCells id 0 F cur) e fr) := by
  simp [putRow, mapBlock, Sort.ahead, Array.getElem?_modify, hb, onCells]
theorem grownBy_revG {w : World} {g n : Nat} (F : Array Value) : w.grownBy (putRow id (Sort.ahead w n) g 0 F) (some g) := by
  refine ⟨rfl, rfl, rfl, by simp, fun k hk hne => ?_⟩
  have : g ≠ k := fun e => hne (by rw [e])
  simp [putRow, mapBlock, Sort.ahead, Array.getElem?_modify, this]
theorem take_putRevG (cur F : Array Value) (h : F.size ≤ cur.size) : (putCells id 0 F cur).toList.take F.size = F.toList := by
  apply List.ext_getElem?
  intro j
  by_cases hj : j < F.size
  · rw [List.getElem?_take_of_lt hj, Array.getElem?_toList]
    simp [putCells, hj, show j < cur.size by omega]
  · rw [List.getElem?_take_eq_none (by omega), List.getElem?_eq_none (by simp; omega)]
theorem flatZ (D : List MoveV) : (flatK zcell 10 D.toArray).toList = zcells D := by
  apply List.ext_getElem?
  intro t
  by_cases ht : t < D.length * 10
  · have hs : t < (flatK zcell 10 D.toArray).size := by simp; omega
    have hg := get_flatK zcell 10 D.toArray t (by simpa using ht)
    rw [getElem!_pos _ t hs] at hg
    rw [Array.getElem?_toList, Array.getElem?_eq_getElem hs, hg]
    have h3 : t / 10 < D.length := by omega
    have hz := zcells_get D (t / 10) h3 (t % 10) (by omega)
    rw [show t / 10 * 10 + t % 10 = t by omega] at hz
    have e1 : (D.toArray[t / 10]! : MoveV) = D[t / 10]'h3 := by rw [getElem!_pos D.toArray (t / 10) (by simpa using h3)]; simp
    have h4 : t % 10 < (zcell (D[t / 10]'h3)).length := by rw [zcell_len]; omega
    rw [hz, e1, getElem!_pos (zcell (D[t / 10]'h3)) (t % 10) h4, List.getElem?_eq_getElem h4]
  · rw [List.getElem?_eq_none (by simp; omega), List.getElem?_eq_none (by rw [zcells_len]; omega)]
theorem rev_moves (l : List MoveV) (m : Nat) (hm : l.length = m) (v : Value) (B : Nat) (W : World) (hB : B ≤ W.heap.size) (ho : W.ownsRow B 45 10 v m (zcells l)) (hs : m ≤ 9223372036854775807) :
    Calls Tryd.prog 33 #[v] W (fun e w' => e = .returned (.tuple #[]) ∧ w'.ownsRow B 45 10 v m (zcells l.reverse) ∧ W.grownBy w' v.ownBlock ∧ Below B W w') := by
  rcases ho.2 with ⟨rfl, h0⟩ | ⟨g, cap, cur, rfl, hBg, hb, hnc, hcm, hcs, htk⟩
  · have hl : l = [] := List.eq_nil_of_length_eq_zero (by omega)
    subst hl
    have hcon := @AnyQ.slices_Reverse_empty _ _ Tryd.revMoves none 0 W
    change Calls Tryd.prog 33 _ _ _ at hcon
    refine hcon.mono ?_
    rintro e w' ⟨he, rfl⟩
    exact ⟨he, ho, World.grownBy.refl _ _, Below.refl _ _⟩
  · have hfl := flatZ l
    have hfs : (flatK zcell 10 l.toArray).size = m * 10 := by simp [hm]
    have hH : HoldsK zcell 10 W g 0 l.toArray := by
      intro j hj
      refine ⟨?_, by simp [World.frozen?, hb]⟩
      rw [Nat.zero_add, ho.cellAt j (by rw [hfs] at hj; exact hj), ← hfl, Array.getElem?_toList, getElem!_pos _ j hj, Array.getElem?_eq_getElem hj]
      rfl
    have hcon := AnyQ.slices_Reverse Tryd.revMoves 10 Tryd.isAgg45 Tryd.sizeOf45 zcell zcell_len zcell_one g 0 cap l.toArray W hH (by simp; omega)
    change Calls Tryd.prog 33 _ _ _ at hcon
    rw [show l.toArray.size = m by simp [hm]] at hcon
    refine hcon.mono ?_
    rintro e w' ⟨he, n, hw⟩
    have hw2 : w' = putRow id (Sort.ahead W n) g 0 (flatK zcell 10 l.toArray.reverse) := hw
    have hfl2 := flatZ l.reverse
    rw [show l.reverse.toArray = l.toArray.reverse by simp] at hfl2
    have hfs2 : (flatK zcell 10 l.toArray.reverse).size = m * 10 := by simp [hm]
    have hgb : W.grownBy w' (some g) := by rw [hw2]; exact grownBy_revG _
    refine ⟨he, ⟨by rw [← hfl2, Array.length_toList, hfs2], Or.inr ⟨g, cap, _, rfl, hBg, by rw [hw2]; exact heap_revG _ hb, hnc, hcm, by simp [putCells, hcs], ?_⟩⟩, hgb, (Below.refl B W).grown hgb hB (fun r hr => by injection hr with hr; rw [← hr]; exact hBg)⟩
    rw [← hfl2, ← hfs2]
    exact take_putRevG cur _ (by rw [hfs2, hcs]; exact Nat.mul_le_mul_right _ hnc)
end Go.Proofs.YtijeninfmjhbnaaDoor
end
/- migrate.Back. -/
section
namespace Go.Proofs.YtijeninfmjhbnaaDoor
open Go.ChangeShapes Go.WideShapes Go.ChangeAt Go.RowKit Go.Nm Go.Mem
set_option linter.unusedVariables false
def BackPost (ks : List KindV) (l : List MoveV) (W : World) (e : Ending) (w' : World) : Prop :=
  ((afterE ks l ≠ 0 ∧ e = .returned (.tuple #[.slice none 0 0, .int .i64 (afterE ks l)])) ∨ (afterE ks l = 0 ∧ backB ks l = false ∧ e = .returned (.tuple #[.slice none 0 0, .int .i64 4])) ∨ (afterE ks l = 0 ∧ backB ks l = true ∧ ∃ v, e = .returned (.tuple #[v, .int .i64 0]) ∧ w'.ownsRow W.heap.size 45 10 v l.length (zcells (backL ks l).reverse))) ∧ Below W.heap.size W w'
theorem BackPost.bad {ks : List KindV} {l : List MoveV} {W w' : World} {E : Int} (h : afterE ks l = E) (h0 : E ≠ 0) (hb : Below W.heap.size W w') : BackPost ks l W (.returned (.tuple #[.slice none 0 0, .int .i64 E])) w' := ⟨Or.inl ⟨by rw [h]; exact h0, by rw [h]⟩, hb⟩
theorem BackPost.none {ks : List KindV} {l : List MoveV} {W w' : World} (h : afterE ks l = 0) (h0 : backB ks l = false) (hb : Below W.heap.size W w') : BackPost ks l W (.returned (.tuple #[.slice none 0 0, .int .i64 4])) w' := ⟨Or.inr (Or.inl ⟨h, h0, rfl⟩), hb⟩
theorem BackPost.ok {ks : List KindV} {l : List MoveV} {W w' : World} {v : Value} (h : afterE ks l = 0) (h0 : backB ks l = true) (ho : w'.ownsRow W.heap.size 45 10 v l.length (zcells (backL ks l).reverse)) (hb : Below W.heap.size W w') : BackPost ks l W (.returned (.tuple #[v, .int .i64 0])) w' := ⟨Or.inr (Or.inr ⟨h, h0, v, rfl, ho⟩), hb⟩
theorem inf_move : (Tryd.prog.info? 45).map (fun i => (i.zero, i.size, i.bytes)) = some (some (.agg #[.int .i64 0, .string ByteArray.empty, .string ByteArray.empty, .string ByteArray.empty, .int .i64 0, .string ByteArray.empty, .int .i64 0, .int .i64 0, .string ByteArray.empty, .slice none 0 0]), 10, 136) := by kernel_rfl
/-- kinds that no write into a row of moves turns -/
def KF (lo : Nat) (w : World) (a : Option Addr) (ks : List KindV) : Prop := SlAt 2 KindAt w a ks ∧ ∀ w1, Below w.heap.size w w1 → ∀ g cs fr w2, lo ≤ g → w1.heap[g]? = some (.cells cs 45 fr) → w1.grownBy w2 (some g) → SlAt 2 KindAt w2 a ks
theorem KF.below {lo : Nat} {w w' : World} {a : Option Addr} {ks : List KindV} (h : KF lo w a ks) (hb : Below w.heap.size w w') : KF lo w' a ks := ⟨h.1.below KindAt.abides hb, fun w1 hb1 => h.2 w1 (hb.trans (hb1.mono hb.size))⟩
theorem KF.ofT {lo : Nat} {w : World} {a : Option Addr} {ks : List KindV} (h : TKat w a ks) : KF lo w a ks := ⟨h.1, fun w1 hb g cs fr w2 _ hg => h.2 w1 hb g cs _ fr w2 hg (by decide) (by decide)⟩
theorem KF.ofArg {W w : World} {a : Option Addr} {ks : List KindV} (h : SlAt 2 KindAt W a ks) (hb : Below W.heap.size W w) : KF W.heap.size w a ks := ⟨h.below KindAt.abides hb, fun w1 hb1 g cs fr w2 hlo hg hgb => h.below KindAt.abides ((bt hb hb1).grown hgb (Nat.le_trans hb.size hb1.size) (fun r hr => by injection hr with hr; rw [← hr]; exact hlo))⟩
theorem KF.app {lo n : Nat} {w w' : World} {a : Option Addr} {ks : List KindV} {v : Value} {xs : List Value} (h : KF lo w a ks) (ho : w.ownsRow lo 45 10 v n xs) (hg : w.grownBy w' v.ownBlock) : SlAt 2 KindAt w' a ks := by
  rcases ho.2 with ⟨rfl, _⟩ | ⟨g, cap, cur, rfl, hl, hh, _⟩
  · exact h.1.below KindAt.abides ⟨hg.os, hg.tape, hg.output, hg.size, fun k hk => hg.block k hk (by intro e; cases e)⟩
  · exact h.2 w (Below.refl _ _) g _ _ w' hl hh hg
def CurB (ks : List KindV) (l : List MoveV) (lo i : Nat) (w : World) (v v8 : Value) : Prop := ∃ (cur : List KindV) (n : Nat) (a : Option Addr) (c : Nat) (acc : List MoveV), v = .slice a n c ∧ cur.length = n ∧ n ≤ c ∧ c ≤ 9223372036854775807 ∧ KF lo w a cur ∧ kindsE cur = 0 ∧ movesE cur (l.drop i) = 0 ∧ acc.length = i ∧ acc ++ backL cur (l.drop i) = backL ks l ∧ backB cur (l.drop i) = backB ks l ∧ w.ownsRow lo 45 10 v8 i (zcells acc)
set_option maxHeartbeats 8000000 in
set_option maxRecDepth 100000 in
theorem mig_Back (ks : List KindV) (ka : Option Addr) (n kc : Nat) (hn : ks.length = n) (h1 : n ≤ 17592186044000) (hkc : n ≤ kc) (hkm : kc ≤ 9223372036854775807) (l : List MoveV) (la : Option Addr) (m lc : Nat) (hm : l.length = m) (hwb : ∀ y ∈ l, y.whole.fields.length ≤ 4398046510976) (W : World) (hz : SlAt 2 KindAt W ka ks) (hl : SlAt 10 MvAt W la l) :
    Calls Tryd.prog 9 #[.slice ka n kc, .slice la m lc] W (BackPost ks l W) := by
  have cK := mig_Kinds ks ka n kc hn h1 hkc hkm l la m lc hm hwb W hz hl
  have CK := Lib.hid cK
  have HN := Lib.hid hn
  have HKC := Lib.hid (And.intro hkc hkm)
  have HM := Lib.hid hm
  have HZ := Lib.hid hz
  have HL := Lib.hid hl
  have HWB := Lib.hid hwb
  clear cK hn hm hz hl hwb hkc hkm
  go_enter Tryd.func9, Tryd.ntmps9
  go_wp2_with fail
  refine CK.out.mono ?_
  rintro e w1 ⟨hpost, hb1⟩
  have HB1 := Lib.hid hb1
  clear hb1 CK
  rcases hpost with ⟨he, rfl⟩ | ⟨he, a0, c0, rfl, _, _, _⟩
  · obtain ⟨E, hE⟩ : ∃ e, e = afterE ks l := ⟨_, rfl⟩
    have HE := Lib.hid hE.symm
    rw [← hE] at he ⊢
    have t1 : (E != 0) = true := by rw [bne_iff_ne]; exact he
    have HNE := Lib.hid he
    clear hE he
    go_wp2_with fail
    go_ret2
    exact BackPost.bad HE.out HNE.out HB1.out
  · obtain ⟨nk, hnk⟩ : ∃ n, n = (movesK ks l).length := ⟨_, rfl⟩
    rw [← hnk]
    have HE := Lib.hid he
    have hk0 : kindsE ks = 0 := by
      unfold afterE at he
      by_cases h : kindsE ks = 0
      · exact h
      · rw [if_pos h] at he; exact absurd he h
    have hm100 : m ≤ 100 := by
      unfold afterE at he
      rw [if_neg (by rw [hk0]; simp)] at he
      by_cases h : 100 < l.length
      · rw [if_pos h] at he; exact absurd he (by decide)
      · rw [HM.out] at h; omega
    have hme : movesE ks l = 0 := by
      unfold afterE at he
      rw [if_neg (by rw [hk0]; simp), if_neg (by rw [HM.out]; omega)] at he
      exact he
    have HM1 := Lib.hid hm100
    have HCUR := Lib.hid (show CurB ks l W.heap.size 0 w1 (.slice ka n kc) (.slice none 0 0) from ⟨ks, n, ka, kc, [], rfl, HN.out, HKC.out.1, HKC.out.2, KF.ofArg HZ.out HB1.out, hk0, hme, rfl, rfl, rfl, World.ownsRow_nil _ _ _ _⟩)
    clear hnk he hk0 hm100 hme h1
    go_wp2_with fail
    go_loopg [0, 8, 10, 11, 12, 24] m (fun gk v0 v8 _ _ _ vi wx => ∃ (i : Nat) (V : Value), V = v8 ∧ i ≤ m ∧ gk = m - i ∧ vi = .int .i64 i ∧ Hid (CurB ks l W.heap.size i wx v0 v8) ∧ Hid (Below W.heap.size W wx))
    case atStart => exact ⟨0, _, rfl, Nat.zero_le _, rfl, rfl, HCUR, HB1⟩
    case round =>
      clear HCUR HB1
      obtain ⟨i, V8, hV8, hi, g2, rfl, HCUR, HB⟩ := hrel
      subst hV8
      have G2 := Lib.hid g2
      clear g2
      obtain ⟨cur, nc, ca, cc, acc, hv0, hcl, hcc, hcm, hcs, hck, hce, hal, hcL, hcB, hrow⟩ := HCUR.out
      subst hv0
      by_cases hlt : i < m
      · have hil : i < l.length := by rw [HM.out]; exact hlt
        obtain ⟨x, rfl, _, _⟩ := HL.out (by omega)
        obtain ⟨xb, xo, rfl, fa, fc, hcl0, hfine⟩ := mv_cells HL.out i hil
        have hcl2 := hcl0.below HB.out
        clear hcl0
        obtain ⟨y, hy⟩ : ∃ y, y = l[i] := ⟨_, rfl⟩
        rw [← hy] at hcl2 hfine
        have hwy : y.whole.fields.length ≤ 4398046510976 := HWB.out y (by rw [hy]; exact List.getElem_mem _)
        have hks := kinds_small hck
        rw [List.drop_eq_getElem_cons hil, ← hy] at hce hcL hcB
        unfold movesE at hce
        have hoe : oneE cur y = 0 := by
          by_cases h : oneE cur y = 0
          · exact h
          · rw [if_pos h] at hce; exact absurd hce h
        rw [if_neg (by rw [hoe]; simp)] at hce
        replace hcL : acc ++ (invV cur y :: backL (oneK cur y) (l.drop (i + 1))) = backL ks l := hcL
        replace hcB : (invB cur y && backB (oneK cur y) (l.drop (i + 1))) = backB ks l := hcB
        have hba := (Below.refl wr.heap.size wr).alloc (Nat.le_refl _) (.cells #[.int .i64 y.do_, .string y.kind, .string y.field, .string y.name, .int .i64 y.value, .string y.new.name, .int .i64 y.new.bits, .int .i64 y.new.low, .string y.whole.name, .slice fa y.whole.fields.length fc] 45)
        have h10 := heap_alloc_new wr (.cells #[.int .i64 y.do_, .string y.kind, .string y.field, .string y.name, .int .i64 y.value, .string y.new.name, .int .i64 y.new.bits, .int .i64 y.new.low, .string y.whole.name, .slice fa y.whole.fields.length fc] 45)
        have HBA := Lib.hid (bt HB.out hba)
        have cI := mig_inverse cur ca nc cc hcl (by rw [← hcl]; omega) (fun k hk => by have := hks.2 k hk; omega) y fa fc _ (hcs.below hba).1 hck hoe
        have c1 := fun w (hz : SlAt 2 KindAt w ca cur) hf => mig_oneT cur ca nc cc hcl (by rw [← hcl]; omega) (fun k hk => by have := hks.2 k hk; omega) y fa fc w hz hf hwy
        have HCS := Lib.hid (hcs.below hba)
        have HFI := Lib.hid hfine
        have HRW := Lib.hid (own_below hrow hba)
        obtain ⟨z, hz⟩ : ∃ z, z = invV cur y := ⟨_, rfl⟩
        obtain ⟨zb, hzb⟩ : ∃ z, z = invB cur y := ⟨_, rfl⟩
        unfold InvPost at cI
        rw [← hz, ← hzb] at cI
        rw [← hz] at hcL
        rw [← hzb] at hcB
        obtain ⟨yd, e0⟩ : ∃ x, x = y.do_ := ⟨_, rfl⟩
        obtain ⟨yk, e1⟩ : ∃ x, x = y.kind := ⟨_, rfl⟩
        obtain ⟨yf, e2⟩ : ∃ x, x = y.field := ⟨_, rfl⟩
        obtain ⟨yn, e3⟩ : ∃ x, x = y.name := ⟨_, rfl⟩
        obtain ⟨yv, e4⟩ : ∃ x, x = y.value := ⟨_, rfl⟩
        obtain ⟨yq, e5⟩ : ∃ x, x = y.new.name := ⟨_, rfl⟩
        obtain ⟨yb, e6⟩ : ∃ x, x = y.new.bits := ⟨_, rfl⟩
        obtain ⟨yl, e7⟩ : ∃ x, x = y.new.low := ⟨_, rfl⟩
        obtain ⟨yw, e8⟩ : ∃ x, x = y.whole.name := ⟨_, rfl⟩
        obtain ⟨yz, e9⟩ : ∃ x, x = y.whole.fields.length := ⟨_, rfl⟩
        unfold mvL at hcl2
        rw [← e0, ← e1, ← e2, ← e3, ← e4, ← e5, ← e6, ← e7, ← e8, ← e9] at c1 cI hcl2 HBA h10
        rw [← e0, ← e1, ← e2, ← e3, ← e4, ← e5, ← e6, ← e7, ← e8, ← e9] at HCS HRW
        have q0 := hcl2 0 _ rfl
        have q1 := hcl2 1 _ rfl
        have q2 := hcl2 2 _ rfl
        have q3 := hcl2 3 _ rfl
        have q4 := hcl2 4 _ rfl
        have q5 := hcl2 5 _ rfl
        have q6 := hcl2 6 _ rfl
        have q7 := hcl2 7 _ rfl
        have q8 := hcl2 8 _ rfl
        have q9 := hcl2 9 _ rfl
        rw [Nat.add_zero] at q0
        have H10 := Lib.hid h10
        have C1 := Lib.hid c1
        have CI := Lib.hid cI
        have HCE := Lib.hid hce
        have HOE := Lib.hid hoe
        have HCL := Lib.hid hcL
        have HCB := Lib.hid hcB
        have HAL := Lib.hid hal
        have HNC := Lib.hid (And.intro hcl (And.intro hcc hcm))
        have HLT := Lib.hid (show ∃ k, i + 1 + k = m from ⟨m - (i + 1), by omega⟩)
        have HLE := Lib.hid (show ∀ g, V8.ownBlock = some g → W.heap.size ≤ g ∧ g < wr.heap.size from own_lt hrow)
        have w9 : IntKind.i64.wrap ((i : Int) + 1) = ((i + 1 : Nat) : Int) := by have := HM1.out; rw [IntKind.wrap_i64]; omega
        clear c1 cI hcl2 hfine hy hwy hks hba hce hcL hcB hcs hck hcl hcc hcm e0 e1 e2 e3 e4 e5 e6 e7 e8 e9 hil HCUR h10 hrow hal hoe hz hzb
        go_wp2_with fail
        refine CI.out.mono ?_
        rintro e w3 ⟨rfl, hb3⟩
        have H10b := Lib.hid (heap_below H10.out hb3)
        have HCS3 := Lib.hid (HCS.out.below hb3)
        have HRW3 := Lib.hid (own_below HRW.out hb3)
        have hsz3 := hb3.size
        rw [World.size_alloc] at hsz3
        have HSZ := Lib.hid hsz3
        have HB3 := Lib.hid (bt HBA.out hb3)
        clear hb3 hsz3 CI q0 q1 q2 q3 q4 q5 q6 q7 q8 q9 HBA H10 HCS HRW
        obtain ⟨zd, f0⟩ : ∃ x, x = z.do_ := ⟨_, rfl⟩
        obtain ⟨zk, f1⟩ : ∃ x, x = z.kind := ⟨_, rfl⟩
        obtain ⟨zf, f2⟩ : ∃ x, x = z.field := ⟨_, rfl⟩
        obtain ⟨zn, f3⟩ : ∃ x, x = z.name := ⟨_, rfl⟩
        obtain ⟨zbb, f4⟩ : ∃ x, x = z.new.bits := ⟨_, rfl⟩
        obtain ⟨zl, f5⟩ : ∃ x, x = z.new.low := ⟨_, rfl⟩
        rw [← f0, ← f1, ← f2, ← f3, ← f4, ← f5]
        have HZC := Lib.hid (show zcells [z] = [.int .i64 zd, .string zk, .string zf, .string zn, .int .i64 0, .string (⟨#[]⟩ : ByteArray), .int .i64 zbb, .int .i64 zl, .string (⟨#[]⟩ : ByteArray), .slice none 0 0] by rw [f0, f1, f2, f3, f4, f5]; rfl)
        clear f0 f1 f2 f3 f4 f5
        cases zb with
        | false =>
          have HBF := Lib.hid (show backB ks l = false by rw [← HCB.out]; rfl)
          have hbx := (Below.refl w3.heap.size w3).alloc (Nat.le_refl _) (.cells #[.int .i64 zd, .string zk, .string zf, .string zn, .int .i64 0, .string (⟨#[]⟩ : ByteArray), .int .i64 zbb, .int .i64 zl, .string (⟨#[]⟩ : ByteArray), .slice none 0 0] 45)
          have HB4 := Lib.hid (bt HB3.out hbx)
          clear hbx
          go_wp2_with fail
          go_ret2
          exact BackPost.none HE.out HBF.out HB4.out
        | true =>
          have hbx := (Below.refl w3.heap.size w3).alloc (Nat.le_refl _) (.cells #[.int .i64 zd, .string zk, .string zf, .string zn, .int .i64 0, .string (⟨#[]⟩ : ByteArray), .int .i64 zbb, .int .i64 zl, .string (⟨#[]⟩ : ByteArray), .slice none 0 0] 45)
          obtain ⟨w4, hw4⟩ : ∃ w, w = w3.alloc (.cells #[.int .i64 zd, .string zk, .string zf, .string zn, .int .i64 0, .string (⟨#[]⟩ : ByteArray), .int .i64 zbb, .int .i64 zl, .string (⟨#[]⟩ : ByteArray), .slice none 0 0] 45) := ⟨_, rfl⟩
          rw [← hw4] at hbx
          have HW4 := Lib.hid hw4
          have H10c := Lib.hid (heap_below H10b.out hbx)
          have HCS4 := Lib.hid (HCS3.out.below hbx)
          have hrow4 := own_below HRW3.out hbx
          have HB4 := Lib.hid (bt HB3.out hbx)
          have hs4 : W.heap.size ≤ w4.heap.size := HB4.out.size
          have hz4 : wr.heap.size + 1 ≤ w4.heap.size := Nat.le_trans HSZ.out hbx.size
          have HZ4 := Lib.hid hz4
          have hb100 := HM1.out
          clear hw4 hbx HRW3 HCS3 H10b HB3 hz4
          go_wp2_with (rw [← HW4.out]; at_builtin; (refine wpList_append_new rfl _ _ 33 rfl W.heap.size 45 (.agg #[.int .i64 0, .string ByteArray.empty, .string ByteArray.empty, .string ByteArray.empty, .int .i64 0, .string ByteArray.empty, .int .i64 0, .int .i64 0, .string ByteArray.empty, .slice none 0 0]) 10 136 Tryd.underlying33 inf_move rfl (by decide) V8 i _ rfl hrow4 _ _ (by rw [HW4.out, World.size_alloc]; rfl) rfl rfl (by omega) (by decide) hs4 ?_))
          intro g' cap' w5 hown' hg hor hlt'
          have hne10 : some wr.heap.size ≠ V8.ownBlock := by intro e; have := HLE.out _ e.symm; omega
          have h10d := (hg.block wr.heap.size (by have := HZ4.out; omega) hne10).trans H10c.out
          have hcs5 := HCS4.out.app hrow4 hg
          have hown5 : w5.ownsRow W.heap.size 45 10 (.slice (some ⟨g', 0, none⟩) (i + 1) cap') (i + 1) (zcells (acc ++ [z])) := by rw [zcells_append, HZC.out]; exact hown'
          have HB5 := Lib.hid (show Below W.heap.size W w5 from HB4.out.grown hg hs4 (fun r hr => (HLE.out r hr).1))
          have c1 := C1.out w5 hcs5 (HFI.out.below HB5.out)
          have r0 := cell_of_row _ _ 0 _ _ _ h10d
          have r1 := cell_of_row _ _ 1 _ _ _ h10d
          have r2 := cell_of_row _ _ 2 _ _ _ h10d
          have r3 := cell_of_row _ _ 3 _ _ _ h10d
          have r4 := cell_of_row _ _ 4 _ _ _ h10d
          have r5 := cell_of_row _ _ 5 _ _ _ h10d
          have r6 := cell_of_row _ _ 6 _ _ _ h10d
          have r7 := cell_of_row _ _ 7 _ _ _ h10d
          have r8 := cell_of_row _ _ 8 _ _ _ h10d
          have r9 := cell_of_row _ _ 9 _ _ _ h10d
          have C5 := Lib.hid c1
          have HO5 := Lib.hid hown5
          clear c1 C1 h10d hown5 hcs5 hne10 hown' hg hor hlt' hrow4 hs4 hb100 HCS4 H10c HLE
          go_wp2_with fail
          refine C5.out.mono ?_
          rintro e w6 ⟨hpost, hb6⟩
          have HB6 := Lib.hid (bt HB5.out hb6)
          have HO6 := Lib.hid (own_below HO5.out hb6)
          clear hb6 C5 r0 r1 r2 r3 r4 r5 r6 r7 r8 r9 HO5 HB5
          rcases hpost with ⟨he, _⟩ | ⟨_, a4, c4, rfl, h4a, h4b, hs4⟩
          · exact absurd HOE.out he
          · obtain ⟨n4, hn4⟩ : ∃ n4, n4 = (oneK cur y).length := ⟨_, rfl⟩
            rw [← hn4] at h4a ⊢
            have HC2 := Lib.hid (show CurB ks l W.heap.size (i + 1) w6 (.slice a4 n4 c4) (.slice (some ⟨g', 0, none⟩) (i + 1) cap') from ⟨oneK cur y, n4, a4, c4, acc ++ [z], rfl, hn4.symm, h4a, h4b, KF.ofT hs4, (oneE_kinds HOE.out).2, HCE.out, by rw [List.length_append, HAL.out]; rfl, by rw [List.append_assoc]; exact HCL.out, by rw [← HCB.out]; rfl, HO6.out⟩)
            clear h4a h4b hs4 hn4 HCE HCL HCB HAL HOE HO6
            go_wp2_with fail
            go_roundg (m - (i + 1))
            case measure => rw [G2.out]; obtain ⟨k, hk⟩ := HLT.out; omega
            case rel => obtain ⟨k, hk⟩ := HLT.out; exact ⟨i + 1, _, rfl, by omega, rfl, (by first | rfl | go_num | simp), HC2, HB6⟩
      · obtain rfl : i = m := by omega
        rw [List.drop_eq_nil_of_le (by rw [HM.out]; exact Nat.le_refl _)] at hce hcL hcB
        have hL : acc = backL ks l := by rw [← hcL]; exact (List.append_nil _).symm
        have hBt : backB ks l = true := hcB.symm
        have CR := Lib.hid (rev_moves acc i hal V8 W.heap.size wr HB.out.size hrow (by have := HM1.out; omega))
        have HL2 := Lib.hid hL
        have HBT := Lib.hid hBt
        clear hce hcL hcB hcl hcc hcm hcs hck hL hBt hrow HCUR
        go_wp2_with fail
        refine CR.out.mono ?_
        rintro e w2 ⟨rfl, ho2, _, hb2⟩
        have HB2 := Lib.hid (HB.out.trans hb2)
        have HO2 := Lib.hid ho2
        clear ho2 hb2 CR
        go_wp2_with fail
        go_ret2
        exact BackPost.ok HE.out HBT.out (by rw [HM.out, ← HL2.out]; exact HO2.out) HB2.out
end Go.Proofs.YtijeninfmjhbnaaDoor
end
