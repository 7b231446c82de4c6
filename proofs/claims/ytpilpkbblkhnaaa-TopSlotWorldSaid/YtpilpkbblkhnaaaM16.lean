/- Lemmas for the law TopSlotWorld: KindHold, WHeld. No conditions. -/
import Derived.Test.YtpilpkbblkhnaaaM15
import Derived.Test.YtpilpkbblkhnaaaM14
import Derived.Test.YtpilpkbblkhnaaaM11
/- kind.Holds. -/
section
namespace Go.Proofs.Ytpilpkbblkhnaaa
open Go.ChangeShapes Go.WideShapes Go.ChangeAt Go.RowKit Go.Nm Go.Mem
set_option linter.unusedVariables false
def holdsB (k : KindV) (vals : List Int) : Bool := decide (fitE k vals = 0) && decide (fitL k.fields vals = vals)
theorem fit_len {k : KindV} {vals : List Int} (h : fitE k vals = 0) : (fitL k.fields vals).length = vals.length := by
  unfold fitE at h
  by_cases h1 : kindE k ≠ 0
  · rw [if_pos h1] at h; exact absurd h h1
  · rw [if_neg h1] at h
    by_cases h2 : vals.length ≠ k.fields.length
    · rw [if_pos h2] at h; exact absurd h (by decide)
    · unfold fitL
      rw [List.length_zipWith]; omega
set_option maxHeartbeats 8000000 in
theorem kind_Holds (k : KindV) (a : Option Addr) (n cap : Nat) (vals : List Int) (av : Option Addr) (m cv : Nat) (hn : k.fields.length = n) (hm : vals.length = m) (hm9 : m ≤ 17592186044000) (hnm : k.name.size ≤ 9223372036854775807) (hnc : n ≤ cap) (hcm : cap ≤ 9223372036854775807) (W : World) (hz : SlAt 3 FieldAt W a k.fields) (hv : IntsAt .i64 W av vals) :
    Calls Try.prog 69 #[.agg #[.string k.name, .slice a n cap], .slice av m cv] W fun e w' => e = .returned (.bool (holdsB k vals)) ∧ Below W.heap.size W w' := by
  have hb0 := (Below.refl W.heap.size W).alloc (Nat.le_refl _) (.cells #[.string k.name, .slice a n cap] 58)
  have hc := kind_Fit k a n cap vals av m cv hn hm (by omega) hnm hnc hcm _ (hz.below FieldAt.abides hb0) (hv.below hb0)
  have HB0 := Lib.hid hb0
  have HM := Lib.hid hm
  have HV := Lib.hid hv
  obtain ⟨R, hR⟩ : ∃ R, R = holdsB k vals := ⟨_, rfl⟩
  rw [← hR]
  have HR := Lib.hid hR
  have HC := Lib.hid hc
  clear hb0 hc hm hv hR hz
  obtain ⟨nm, hnme⟩ : ∃ nm, nm = k.name := ⟨_, rfl⟩
  rw [← hnme] at HC HB0 ⊢
  clear hnme hnm
  by_cases he : fitE k vals = 0
  · have HE := Lib.hid he
    have HLN := Lib.hid (fit_len he)
    have HR2 := Lib.hid (show R = decide (fitL k.fields vals = vals) by rw [HR.out]; unfold holdsB; rw [he]; rfl)
    clear he
    go_enter Try.func69, Try.ntmps69
    go_wp2_with fail
    refine HC.out.mono ?_
    rintro e w1 ⟨_, hpo, hb1⟩
    obtain ⟨ao, co, rfl, hout⟩ := hpo HE.out
    obtain ⟨zs, hzs⟩ : ∃ zs, zs = fitL k.fields vals := ⟨_, rfl⟩
    rw [← hzs] at hout HR2 HLN
    rw [HM.out] at HLN
    rw [HM.out]
    have hbw := HB0.out.trans (hb1.mono (by simp))
    have HB1 := Lib.hid hbw
    have HA := Lib.hid hout
    have hs1 := hbw.size
    clear hpo hb1 hbw HC HB0 hout hzs
    go_wp2_with fail
    go_loopg [7, 18] m (fun gk v7 vi wx => ∃ i : Nat, i ≤ m ∧ gk = m - i ∧ vi = .int .i64 i ∧ (∀ j, j < i → zs.getD j 0 = vals.getD j 0) ∧ Below w1.heap.size w1 wx)
    case atStart => exact ⟨0, Nat.zero_le _, rfl, rfl, fun j h => by omega, Below.refl _ _⟩
    case round =>
      obtain ⟨i, hi, g2, rfl, heq, hb⟩ := hrel
      have G2 := Lib.hid g2
      have HEQ := Lib.hid heq
      have HB := Lib.hid hb
      clear g2 heq hb
      by_cases hlt : i < m
      · obtain ⟨x, rfl, hx, hcx⟩ := (HA.out.below HB.out) (by rw [HLN.out]; omega)
        obtain ⟨y, rfl, hy, hcy⟩ := (HV.out.below (HB1.out.trans (HB.out.mono HB1.out.size))) (by rw [HM.out]; omega)
        obtain ⟨p, hp⟩ : ∃ p, p = zs.getD i 0 := ⟨_, rfl⟩
        obtain ⟨q, hq⟩ : ∃ q, q = vals.getD i 0 := ⟨_, rfl⟩
        have cx : wr.cell? (x.add i) = some (.int .i64 p) := by rw [hp]; exact hcx i (by rw [HLN.out]; exact hlt)
        have cy : wr.cell? (y.add i) = some (.int .i64 q) := by rw [hq]; exact hcy i (by rw [HM.out]; exact hlt)
        have i1 : (0 : Int) ≤ (i : Int) := by omega
        have i2 : (i : Int) < (m : Int) := by omega
        have HPQ := Lib.hid (And.intro hp hq)
        clear hcx hcy hp hq
        by_cases e : p = q
        · subst e
          have hee : (p != p) = false := by simp
          go_wp2
          go_quiet (fail)
          go_wp2
          go_roundg (m - (i + 1))
          case measure => rw [G2.out]; omega
          case rel => exact ⟨i + 1, by omega, rfl, by go_num, fun j hj => by
            by_cases q : j = i
            · rw [q, ← HPQ.out.1, ← HPQ.out.2]
            · exact HEQ.out j (by omega), below_drewN HB.out _⟩
        · have hee : (p != q) = true := by rw [bne_iff_ne]; exact e
          have HF := Lib.hid (show R = false by
            rw [HR2.out, decide_eq_false_iff_not]
            exact list_ne_of_getD i (by rw [HLN.out]; exact hlt) (by rw [HLN.out, HM.out]) (by rw [← HPQ.out.1, ← HPQ.out.2]; exact e))
          clear e
          go_wp2
          go_quiet (fail)
          go_wp2
          go_ret
          exact ⟨by rw [HF.out]; rfl, HB1.out.trans ((below_drewN HB.out _).mono HB1.out.size)⟩
      · have hie : i = m := by omega
        have HF := Lib.hid (show R = true by
          rw [HR2.out, decide_eq_true_iff]
          refine List.ext_getElem (by rw [HLN.out, HM.out]) (fun j h1 h2 => ?_)
          have := HEQ.out j (by rw [HM.out] at h2; omega)
          rw [List.getD_eq_getElem?_getD, List.getD_eq_getElem?_getD, List.getElem?_eq_getElem h1, List.getElem?_eq_getElem h2] at this
          exact this)
        clear hie
        go_wp2_with fail
        go_ret
        exact ⟨by rw [HF.out]; rfl, HB1.out.trans (HB.out.mono HB1.out.size)⟩
  · have HE := Lib.hid he
    have HF := Lib.hid (show R = false by rw [HR.out]; unfold holdsB; rw [decide_eq_false he]; rfl)
    obtain ⟨e1, he1⟩ : ∃ e1, e1 = fitE k vals := ⟨_, rfl⟩
    have t1 : (e1 != 0) = true := by rw [bne_iff_ne, he1]; exact he
    have HE1 := Lib.hid he1
    clear he he1
    go_enter Try.func69, Try.ntmps69
    go_wp2_with fail
    refine HC.out.mono ?_
    rintro e w1 ⟨hpo, _, hb1⟩
    obtain rfl := hpo HE.out
    rw [← HE1.out]
    have HB1 := Lib.hid (HB0.out.trans (hb1.mono (by simp)))
    clear hb1 hpo
    go_wp2_with fail
    go_ret
    exact ⟨by rw [HF.out]; rfl, HB1.out⟩
end Go.Proofs.Ytpilpkbblkhnaaa
end
/- world.held. -/
section
namespace Go.Proofs.Ytpilpkbblkhnaaa
open Go.ChangeShapes Go.WideShapes Go.ChangeAt Go.RowKit Go.Nm Go.Mem
set_option linter.unusedVariables false
def lastK (l : List CompV) (i : Nat) : Int := if i = 0 then -1 else (l.getD (i - 1) default).kind
/-- the first i components: in increasing order, of kinds that are there, with fit values -/
def heldAt (k : List KindV) (l : List CompV) : Nat → Bool
  | 0 => true
  | i + 1 => heldAt k l i && (decide (lastK l i < (l.getD i default).kind) && (decide ((l.getD i default).kind < k.length) && holdsB (k.getD (l.getD i default).kind.toNat default) (l.getD i default).vals))
theorem heldAt_succ (k : List KindV) (l : List CompV) (i : Nat) : heldAt k l (i + 1) = (heldAt k l i && (decide (lastK l i < (l.getD i default).kind) && (decide ((l.getD i default).kind < k.length) && holdsB (k.getD (l.getD i default).kind.toNat default) (l.getD i default).vals))) := rfl
def heldB (k : List KindV) (l : List CompV) : Bool := heldAt k l l.length
theorem heldAt_stays (k : List KindV) (l : List CompV) (i : Nat) (h : heldAt k l i = false) : ∀ n, i ≤ n → heldAt k l n = false := by
  intro n
  induction n with
  | zero => intro hn; obtain rfl : i = 0 := by omega
            exact h
  | succ n ih =>
    intro hn
    by_cases e : i = n + 1
    · rw [← e]; exact h
    · rw [heldAt_succ, ih (by omega), Bool.false_and]
theorem heldAt_low (k : List KindV) (l : List CompV) (i : Nat) (h : heldAt k l i = true) : -1 ≤ lastK l i := by
  induction i with
  | zero => exact Int.le_refl _
  | succ i ih =>
    rw [heldAt_succ, Bool.and_eq_true, Bool.and_eq_true] at h
    have h1 := ih h.1
    have h2 := of_decide_eq_true h.2.1
    unfold lastK at h2 ⊢
    rw [if_neg (by omega), Nat.add_sub_cancel]
    unfold lastK at h1
    omega
theorem lastK_succ (l : List CompV) (i : Nat) : lastK l (i + 1) = (l.getD i default).kind := by unfold lastK; rw [if_neg (by omega), Nat.add_sub_cancel]
theorem list22 {α : Type} {vs : List α} (h : vs.length = 22) : ∃ x0 x1 x2 x3 x4 x5 x6 x7 x8 x9 x10 x11 x12 x13 x14 x15 x16 x17 x18 x19 x20 x21, vs = [x0, x1, x2, x3, x4, x5, x6, x7, x8, x9, x10, x11, x12, x13, x14, x15, x16, x17, x18, x19, x20, x21] := by
  obtain ⟨x0, t0, rfl, h0⟩ := cons_of h
  obtain ⟨x1, t1, rfl, h1⟩ := cons_of h0
  obtain ⟨x2, t2, rfl, h2⟩ := cons_of h1
  obtain ⟨x3, t3, rfl, h3⟩ := cons_of h2
  obtain ⟨x4, t4, rfl, h4⟩ := cons_of h3
  obtain ⟨x5, t5, rfl, h5⟩ := cons_of h4
  obtain ⟨x6, t6, rfl, h6⟩ := cons_of h5
  obtain ⟨x7, t7, rfl, h7⟩ := cons_of h6
  obtain ⟨x8, t8, rfl, h8⟩ := cons_of h7
  obtain ⟨x9, t9, rfl, h9⟩ := cons_of h8
  obtain ⟨x10, t10, rfl, h10⟩ := cons_of h9
  obtain ⟨x11, t11, rfl, h11⟩ := cons_of h10
  obtain ⟨x12, t12, rfl, h12⟩ := cons_of h11
  obtain ⟨x13, t13, rfl, h13⟩ := cons_of h12
  obtain ⟨x14, t14, rfl, h14⟩ := cons_of h13
  obtain ⟨x15, t15, rfl, h15⟩ := cons_of h14
  obtain ⟨x16, t16, rfl, h16⟩ := cons_of h15
  obtain ⟨x17, t17, rfl, h17⟩ := cons_of h16
  obtain ⟨x18, t18, rfl, h18⟩ := cons_of h17
  obtain ⟨x19, t19, rfl, h19⟩ := cons_of h18
  obtain ⟨x20, t20, rfl, h20⟩ := cons_of h19
  obtain ⟨x21, t21, rfl, h21⟩ := cons_of h20
  exact ⟨x0, x1, x2, x3, x4, x5, x6, x7, x8, x9, x10, x11, x12, x13, x14, x15, x16, x17, x18, x19, x20, x21, by rw [List.eq_nil_of_length_eq_zero h21]⟩
def F_helda (wr n cap : Nat) (a : Option Addr) (kq la : Int) (av : Option Addr) (nv cv : Nat) (jq : Nat) (v : Value) (w : World) : Prop :=
  match jq with
  | 0 => v = .pointer (some ⟨wr, 0, none⟩)
  | 1 => v = .int .i64 kq
  | 2 => v = .int .i64 la
  | 3 => v = .bool true
  | 4 => v = .bool true
  | 5 => v = undef
  | 6 => v = undef
  | 7 => v = undef
  | 8 => v = undef
  | 9 => v = undef
  | 10 => v = .bool true
  | 11 => v = .bool true
  | 12 => v = undef
  | 13 => v = undef
  | 14 => v = undef
  | 15 => v = undef
  | 16 => v = undef
  | 17 => v = undef
  | 18 => v = undef
  | 19 => v = undef
  | 20 => v = undef
  | 21 => v = .bool true
  | _ => True
theorem F_helda_mono (wr n cap : Nat) (a : Option Addr) (kq la : Int) (av : Option Addr) (nv cv : Nat) : Facts (F_helda wr n cap  a  kq la  av  nv cv ) := ⟨by
  intro jq v w w' h hb
  unfold F_helda at h ⊢
  split at h
  all_goals first
    | exact h
    | trivial⟩
def F_heldb (wr n cap : Nat) (a : Option Addr) (kq la : Int) (av : Option Addr) (nv cv : Nat) (jq : Nat) (v : Value) (w : World) : Prop :=
  match jq with
  | 0 => v = .pointer (some ⟨wr, 0, none⟩)
  | 1 => v = .int .i64 kq
  | 2 => v = .int .i64 la
  | 3 => v = .bool false
  | 4 => v = .bool false
  | 5 => v = .pointer (some ⟨wr, 0, none⟩)
  | 6 => v = .int .i64 kq
  | 7 => v = .slice a n cap
  | 8 => v = .int .i64 (n : Int)
  | 9 => v = .bool true
  | 10 => v = .bool true
  | 11 => v = .bool true
  | 12 => v = undef
  | 13 => v = undef
  | 14 => v = undef
  | 15 => v = undef
  | 16 => v = undef
  | 17 => v = undef
  | 18 => v = undef
  | 19 => v = undef
  | 20 => v = undef
  | 21 => v = .bool true
  | _ => True
theorem F_heldb_mono (wr n cap : Nat) (a : Option Addr) (kq la : Int) (av : Option Addr) (nv cv : Nat) : Facts (F_heldb wr n cap  a  kq la  av  nv cv ) := ⟨by
  intro jq v w w' h hb
  unfold F_heldb at h ⊢
  split at h
  all_goals first
    | exact h
    | trivial⟩
def F_heldc (wr n cap kb ko q : Nat) (la : Int) (av : Option Addr) (nv cv : Nat) (nm : ByteArray) (af : Option Addr) (nf cf : Nat) (jq : Nat) (v : Value) (w : World) : Prop :=
  match jq with
  | 0 => v = .pointer (some ⟨wr, 0, none⟩)
  | 1 => v = .int .i64 (q : Int)
  | 2 => v = .int .i64 la
  | 3 => v = .bool false
  | 4 => v = .bool false
  | 5 => v = .pointer (some ⟨wr, 0, none⟩)
  | 6 => v = .int .i64 (q : Int)
  | 7 => v = .slice (some ⟨kb, ko, none⟩) n cap
  | 8 => v = .int .i64 (n : Int)
  | 9 => v = .bool false
  | 10 => v = .bool false
  | 11 => v = .bool false
  | 12 => v = .slice (some ⟨kb, ko, none⟩) n cap
  | 13 => v = .pointer (some ⟨wr, 0, none⟩)
  | 14 => v = .int .i64 (q : Int)
  | 15 => v = .pointer (some ⟨kb, ko + q * 2, none⟩)
  | 16 => v = .agg #[.string nm, .slice af nf cf]
  | 17 => v = .pointer (some ⟨wr, 1, none⟩)
  | 18 => v = .slice av nv cv
  | 19 => v = .bool false
  | 20 => v = .bool true
  | 21 => v = .bool true
  | _ => True
theorem F_heldc_mono (wr n cap kb ko q : Nat) (la : Int) (av : Option Addr) (nv cv : Nat) (nm : ByteArray) (af : Option Addr) (nf cf : Nat) : Facts (F_heldc wr n cap kb ko q  la  av  nv cv  nm  af  nf cf ) := ⟨by
  intro jq v w w' h hb
  unfold F_heldc at h ⊢
  split at h
  all_goals first
    | exact h
    | trivial⟩
def F_heldd (wr n cap kb ko q : Nat) (la : Int) (av : Option Addr) (nv cv : Nat) (nm : ByteArray) (af : Option Addr) (nf cf : Nat) (jq : Nat) (v : Value) (w : World) : Prop :=
  match jq with
  | 0 => v = .pointer (some ⟨wr, 0, none⟩)
  | 1 => v = .int .i64 (q : Int)
  | 2 => v = .int .i64 la
  | 3 => v = .bool false
  | 4 => v = .bool false
  | 5 => v = .pointer (some ⟨wr, 0, none⟩)
  | 6 => v = .int .i64 (q : Int)
  | 7 => v = .slice (some ⟨kb, ko, none⟩) n cap
  | 8 => v = .int .i64 (n : Int)
  | 9 => v = .bool false
  | 10 => v = .bool false
  | 11 => v = .bool false
  | 12 => v = .slice (some ⟨kb, ko, none⟩) n cap
  | 13 => v = .pointer (some ⟨wr, 0, none⟩)
  | 14 => v = .int .i64 (q : Int)
  | 15 => v = .pointer (some ⟨kb, ko + q * 2, none⟩)
  | 16 => v = .agg #[.string nm, .slice af nf cf]
  | 17 => v = .pointer (some ⟨wr, 1, none⟩)
  | 18 => v = .slice av nv cv
  | 19 => v = .bool true
  | 20 => v = .bool false
  | 21 => v = .bool false
  | _ => True
theorem F_heldd_mono (wr n cap kb ko q : Nat) (la : Int) (av : Option Addr) (nv cv : Nat) (nm : ByteArray) (af : Option Addr) (nf cf : Nat) : Facts (F_heldd wr n cap kb ko q  la  av  nv cv  nm  af  nf cf ) := ⟨by
  intro jq v w w' h hb
  unfold F_heldd at h ⊢
  split at h
  all_goals first
    | exact h
    | trivial⟩

set_option maxHeartbeats 8000000 in
theorem world_held (k : List KindV) (a : Option Addr) (n cap : Nat) (l : List CompV) (al : Option Addr) (m cl : Nat) (hn : k.length = n) (hm : l.length = m) (hm9 : m ≤ 9223372036854775807) (hv : ∀ c ∈ l, c.vals.length ≤ 17592186044000) (W : World) (hz : SlAt 2 KindAt W a k) (hl : SlAt 2 CompAt W al l) :
    Calls Try.prog 52 #[.slice a n cap, .slice al m cl] W fun e w' => e = .returned (.bool (heldB k l)) ∧ Below W.heap.size W w' := by
  have HN := Lib.hid hn
  have HM := Lib.hid hm
  have HZ := Lib.hid hz
  have HL := Lib.hid hl
  have HV := Lib.hid hv
  clear hn hm hz hl hv
  go_enter Try.func52, Try.ntmps52
  go_wp2_with fail
  go_loopg [10, 5, 7] m (fun gk v10 v5 _ wx => ∃ i : Nat, i ≤ m ∧ gk = m - i ∧ v10 = .int .i64 i ∧ v5 = .int .i64 (lastK l i) ∧ heldAt k l i = true ∧ Below W.heap.size W wx)
  case atStart => exact ⟨0, Nat.zero_le _, rfl, rfl, rfl, rfl, Below.refl _ _⟩
  case round =>
    obtain ⟨i, i1, i2, rfl, rfl, hheld, hb⟩ := hrel
    have I2 := Lib.hid i2
    have HB0 := Lib.hid hb
    have HH := Lib.hid hheld
    clear i2 hb hheld
    by_cases hi : i < m
    · obtain ⟨x, rfl, _, _⟩ := HL.out (by rw [HM.out]; omega)
      obtain ⟨xb, xo, rfl, av, cv, hcl, hiv⟩ := comp_cells (HL.out.below CompAt.abides HB0.out) i (by rw [HM.out]; exact hi)
      have hgd : l.getD i default = l[i]'(by rw [HM.out]; exact hi) := by rw [List.getD_eq_getElem?_getD, List.getElem?_eq_getElem (by rw [HM.out]; exact hi)]; rfl
      have hs := heldAt_succ k l i
      have hls := lastK_succ l i
      have hst := fun h => heldAt_stays k l (i + 1) h m hi
      have hlow := heldAt_low k l i HH.out
      rw [hgd] at hs hls
      obtain ⟨y, hy⟩ : ∃ y, y = l[i]'(by rw [HM.out]; exact hi) := ⟨_, rfl⟩
      have hyv := HV.out _ (List.getElem_mem (by rw [HM.out]; exact hi) : l[i]'(by rw [HM.out]; exact hi) ∈ l)
      rw [← hy] at hcl hiv hs hls hyv
      obtain ⟨nv, hnv⟩ : ∃ nv, nv = y.vals.length := ⟨_, rfl⟩
      rw [← hnv] at hcl hyv
      obtain ⟨kq, hkq⟩ : ∃ kq, kq = y.kind := ⟨_, rfl⟩
      rw [← hkq] at hcl hs hls
      obtain ⟨la, hla⟩ : ∃ la, la = lastK l i := ⟨_, rfl⟩
      rw [← hla] at hs hlow ⊢
      rw [HH.out, Bool.true_and] at hs
      have e0 := hcl.at 0 (by simp)
      have e1 := hcl.at 1 (by simp)
      simp only [List.getElem_cons_zero, List.getElem_cons_succ, Nat.add_zero] at e0 e1
      have hro := new_row wr #[.int .i64 kq, .slice av nv cv] 60
      have q0 := hro.at 0 (by simp)
      have q1 := hro.at 1 (by simp)
      simp only [List.getElem_cons_zero, List.getElem_cons_succ, Nat.zero_add] at q0 q1
      have hbA : Below wr.heap.size wr (wr.alloc (.cells #[.int .i64 kq, .slice av nv cv] 60 (0, 0))) := (Below.refl _ _).alloc (Nat.le_refl _) _
      have Q0 := Lib.hid q0
      have Q1 := Lib.hid q1
      have HS := Lib.hid hs
      have HLS := Lib.hid hls
      have HST := Lib.hid hst
      have HNV := Lib.hid hnv
      have HIV := Lib.hid (hiv.below hbA)
      have HB := Lib.hid (bt HB0.out hbA)
      have HNN := HN.out
      have HRT : ∀ (b : Bool), heldAt k l (i + 1) = b → b = false → heldB k l = false := fun b h1 h2 => by
        unfold heldB
        rw [HM.out]
        exact HST.out (by rw [h1, h2])
      have HRT := Lib.hid HRT
      clear hgd hy hkq hla hnv hs hls hst hcl hiv hro q0 q1 hbA
      by_cases hA : kq ≤ la
      · have hres : heldAt k l (i + 1) = false := by rw [HS.out, decide_eq_false (by omega), Bool.false_and]
        have HRES := Lib.hid (HRT.out _ hres rfl)
        clear hres
        go_wp2_with fail
        refine wp_region_facts_t rfl 22 (by kernel_rfl) (F_helda wr.heap.size n cap a kq la av nv cv) (F_helda_mono wr.heap.size n cap a kq la av nv cv) ?_ ?_
        · refine ⟨?_, ?_, ?_, ?_, ?_, ?_, ?_, ?_, ?_, ?_, ?_, ?_, ?_, ?_, ?_, ?_, ?_, ?_, ?_, ?_, ?_, ?_, trivial⟩
          · intro vs w' F hb hd hF hl hT
            have e := (hF 7).trans (look_out _ 7 _ _ (by kernel_rfl))
            exact one_field _ _ _ rfl rfl _ _ e (0) (fun w => by kernel_rfl) ⟨_, rfl, Below.refl _ _, rfl⟩
          · intro vs w' F hb hd hF hl hT
            have e := ((hF 14).trans (look_at _ 14 0 _ _ (by kernel_rfl) (by kernel_rfl) hl)).trans (dep_of (Fact := F_helda wr.heap.size n cap a kq la av nv cv) hd 0 (by kernel_rfl))
            exact one_load _ _ rfl rfl _ _ e (cell_abides Q0.out hb) (by kernel_rfl) ⟨_, rfl, Below.refl _ _, rfl⟩
          · intro vs w' F hb hd hF hl hT
            have e := (hF 5).trans (look_out _ 5 _ _ (by kernel_rfl))
            exact one_move _ rfl (by first | exact Or.inl rfl | exact Or.inr rfl) ⟨_, rfl, Below.refl _ _, e⟩
          · intro vs w' F hb hd hF hl hT
            have e1 := ((hF 15).trans (look_at _ 15 1 _ _ (by kernel_rfl) (by kernel_rfl) hl)).trans (dep_of (Fact := F_helda wr.heap.size n cap a kq la av nv cv) hd 1 (by kernel_rfl))
            have e2 := ((hF 16).trans (look_at _ 16 2 _ _ (by kernel_rfl) (by kernel_rfl) hl)).trans (dep_of (Fact := F_helda wr.heap.size n cap a kq la av nv cv) hd 2 (by kernel_rfl))
            exact rg_leq _ _ _ _ rfl rfl .i64 (kq) (la) true e1 e2 (decide_eq_true (by omega)) ⟨_, rfl, Below.refl _ _, rfl⟩
          · intro vs w' F hb hd hF hl hT
            have e := ((hF 17).trans (look_at _ 17 3 _ _ (by kernel_rfl) (by kernel_rfl) hl)).trans (dep_of (Fact := F_helda wr.heap.size n cap a kq la av nv cv) hd 3 (by kernel_rfl))
            exact one_move _ rfl (by first | exact Or.inl rfl | exact Or.inr rfl) ⟨_, rfl, Below.refl _ _, e⟩
          · intro vs w' F hb hd hF hl hT
            have eg := ((hF 18).trans (look_at _ 18 4 _ _ (by kernel_rfl) (by kernel_rfl) hl)).trans (dep_of (Fact := F_helda wr.heap.size n cap a kq la av nv cv) hd 4 (by kernel_rfl))
            exact wpList_off rfl (t := 18) (d := true) (by kernel_rfl) eg (by decide) ⟨_, rfl, Below.refl _ _, rfl⟩
          · intro vs w' F hb hd hF hl hT
            have eg := ((hF 18).trans (look_at _ 18 4 _ _ (by kernel_rfl) (by kernel_rfl) hl)).trans (dep_of (Fact := F_helda wr.heap.size n cap a kq la av nv cv) hd 4 (by kernel_rfl))
            exact wpList_off rfl (t := 18) (d := true) (by kernel_rfl) eg (by decide) ⟨_, rfl, Below.refl _ _, rfl⟩
          · intro vs w' F hb hd hF hl hT
            have eg := ((hF 18).trans (look_at _ 18 4 _ _ (by kernel_rfl) (by kernel_rfl) hl)).trans (dep_of (Fact := F_helda wr.heap.size n cap a kq la av nv cv) hd 4 (by kernel_rfl))
            exact wpList_off rfl (t := 18) (d := true) (by kernel_rfl) eg (by decide) ⟨_, rfl, Below.refl _ _, rfl⟩
          · intro vs w' F hb hd hF hl hT
            have eg := ((hF 18).trans (look_at _ 18 4 _ _ (by kernel_rfl) (by kernel_rfl) hl)).trans (dep_of (Fact := F_helda wr.heap.size n cap a kq la av nv cv) hd 4 (by kernel_rfl))
            exact wpList_off rfl (t := 18) (d := true) (by kernel_rfl) eg (by decide) ⟨_, rfl, Below.refl _ _, rfl⟩
          · intro vs w' F hb hd hF hl hT
            have eg := ((hF 18).trans (look_at _ 18 4 _ _ (by kernel_rfl) (by kernel_rfl) hl)).trans (dep_of (Fact := F_helda wr.heap.size n cap a kq la av nv cv) hd 4 (by kernel_rfl))
            exact wpList_off rfl (t := 18) (d := true) (by kernel_rfl) eg (by decide) ⟨_, rfl, Below.refl _ _, rfl⟩
          · intro vs w' F hb hd hF hl hT
            have ec := ((hF 18).trans (look_at _ 18 4 _ _ (by kernel_rfl) (by kernel_rfl) hl)).trans (dep_of (Fact := F_helda wr.heap.size n cap a kq la av nv cv) hd 4 (by kernel_rfl))
            exact one_pick_t _ _ _ rfl rfl _ ec rfl ⟨_, rfl, Below.refl _ _, rfl⟩
          · intro vs w' F hb hd hF hl hT
            have e := ((hF 24).trans (look_at _ 24 10 _ _ (by kernel_rfl) (by kernel_rfl) hl)).trans (dep_of (Fact := F_helda wr.heap.size n cap a kq la av nv cv) hd 10 (by kernel_rfl))
            exact one_move _ rfl (by first | exact Or.inl rfl | exact Or.inr rfl) ⟨_, rfl, Below.refl _ _, e⟩
          · intro vs w' F hb hd hF hl hT
            have eg := ((hF 25).trans (look_at _ 25 11 _ _ (by kernel_rfl) (by kernel_rfl) hl)).trans (dep_of (Fact := F_helda wr.heap.size n cap a kq la av nv cv) hd 11 (by kernel_rfl))
            exact wpList_off rfl (t := 25) (d := true) (by kernel_rfl) eg (by decide) ⟨_, rfl, Below.refl _ _, rfl⟩
          · intro vs w' F hb hd hF hl hT
            have eg := ((hF 25).trans (look_at _ 25 11 _ _ (by kernel_rfl) (by kernel_rfl) hl)).trans (dep_of (Fact := F_helda wr.heap.size n cap a kq la av nv cv) hd 11 (by kernel_rfl))
            exact wpList_off rfl (t := 25) (d := true) (by kernel_rfl) eg (by decide) ⟨_, rfl, Below.refl _ _, rfl⟩
          · intro vs w' F hb hd hF hl hT
            have eg := ((hF 25).trans (look_at _ 25 11 _ _ (by kernel_rfl) (by kernel_rfl) hl)).trans (dep_of (Fact := F_helda wr.heap.size n cap a kq la av nv cv) hd 11 (by kernel_rfl))
            exact wpList_off rfl (t := 25) (d := true) (by kernel_rfl) eg (by decide) ⟨_, rfl, Below.refl _ _, rfl⟩
          · intro vs w' F hb hd hF hl hT
            have eg := ((hF 25).trans (look_at _ 25 11 _ _ (by kernel_rfl) (by kernel_rfl) hl)).trans (dep_of (Fact := F_helda wr.heap.size n cap a kq la av nv cv) hd 11 (by kernel_rfl))
            exact wpList_off rfl (t := 25) (d := true) (by kernel_rfl) eg (by decide) ⟨_, rfl, Below.refl _ _, rfl⟩
          · intro vs w' F hb hd hF hl hT
            have eg := ((hF 25).trans (look_at _ 25 11 _ _ (by kernel_rfl) (by kernel_rfl) hl)).trans (dep_of (Fact := F_helda wr.heap.size n cap a kq la av nv cv) hd 11 (by kernel_rfl))
            exact wpList_off rfl (t := 25) (d := true) (by kernel_rfl) eg (by decide) ⟨_, rfl, Below.refl _ _, rfl⟩
          · intro vs w' F hb hd hF hl hT
            have eg := ((hF 25).trans (look_at _ 25 11 _ _ (by kernel_rfl) (by kernel_rfl) hl)).trans (dep_of (Fact := F_helda wr.heap.size n cap a kq la av nv cv) hd 11 (by kernel_rfl))
            exact wpList_off rfl (t := 25) (d := true) (by kernel_rfl) eg (by decide) ⟨_, rfl, Below.refl _ _, rfl⟩
          · intro vs w' F hb hd hF hl hT
            have eg := ((hF 25).trans (look_at _ 25 11 _ _ (by kernel_rfl) (by kernel_rfl) hl)).trans (dep_of (Fact := F_helda wr.heap.size n cap a kq la av nv cv) hd 11 (by kernel_rfl))
            exact wpList_off rfl (t := 25) (d := true) (by kernel_rfl) eg (by decide) ⟨_, rfl, Below.refl _ _, rfl⟩
          · intro vs w' F hb hd hF hl hT
            have eg := ((hF 25).trans (look_at _ 25 11 _ _ (by kernel_rfl) (by kernel_rfl) hl)).trans (dep_of (Fact := F_helda wr.heap.size n cap a kq la av nv cv) hd 11 (by kernel_rfl))
            exact wpList_off rfl (t := 25) (d := true) (by kernel_rfl) eg (by decide) ⟨_, rfl, Below.refl _ _, rfl⟩
          · intro vs w' F hb hd hF hl hT
            have eg := ((hF 25).trans (look_at _ 25 11 _ _ (by kernel_rfl) (by kernel_rfl) hl)).trans (dep_of (Fact := F_helda wr.heap.size n cap a kq la av nv cv) hd 11 (by kernel_rfl))
            exact wpList_off rfl (t := 25) (d := true) (by kernel_rfl) eg (by decide) ⟨_, rfl, Below.refl _ _, rfl⟩
          · intro vs w' F hb hd hF hl hT
            have ec := ((hF 25).trans (look_at _ 25 11 _ _ (by kernel_rfl) (by kernel_rfl) hl)).trans (dep_of (Fact := F_helda wr.heap.size n cap a kq la av nv cv) hd 11 (by kernel_rfl))
            exact one_pick_t _ _ _ rfl rfl _ ec rfl ⟨_, rfl, Below.refl _ _, rfl⟩
        · intro vs8 W8 hl hb hI
          have hv : vs8.getD 21 undef = .bool true := hI 21 (by omega)
          obtain ⟨x0, x1, x2, x3, x4, x5, x6, x7, x8, x9, x10, x11, x12, x13, x14, x15, x16, x17, x18, x19, x20, x21, hvs⟩ := list22 hl
          subst hvs
          replace hv : x21 = .bool true := hv
          subst hv
          clear hI hl
          simp only [fillAll, Act.put, List.setIfInBounds_toArray, List.set_cons_succ, List.set_cons_zero]
          show wpList _ _ _ [] _ _
          go_wp2
          go_ret
          exact ⟨by rw [HRES.out]; rfl, bt HB.out hb⟩
      · by_cases hB : (n : Int) ≤ kq
        · have hres : heldAt k l (i + 1) = false := by rw [HS.out, decide_eq_false (p := kq < (k.length : Int)) (by rw [HNN]; omega), Bool.false_and, Bool.and_false]
          have HRES := Lib.hid (HRT.out _ hres rfl)
          clear hres
          go_wp2_with fail
          refine wp_region_facts_t rfl 22 (by kernel_rfl) (F_heldb wr.heap.size n cap a kq la av nv cv) (F_heldb_mono wr.heap.size n cap a kq la av nv cv) ?_ ?_
          · refine ⟨?_, ?_, ?_, ?_, ?_, ?_, ?_, ?_, ?_, ?_, ?_, ?_, ?_, ?_, ?_, ?_, ?_, ?_, ?_, ?_, ?_, ?_, trivial⟩
            · intro vs w' F hb hd hF hl hT
              have e := (hF 7).trans (look_out _ 7 _ _ (by kernel_rfl))
              exact one_field _ _ _ rfl rfl _ _ e (0) (fun w => by kernel_rfl) ⟨_, rfl, Below.refl _ _, rfl⟩
            · intro vs w' F hb hd hF hl hT
              have e := ((hF 14).trans (look_at _ 14 0 _ _ (by kernel_rfl) (by kernel_rfl) hl)).trans (dep_of (Fact := F_heldb wr.heap.size n cap a kq la av nv cv) hd 0 (by kernel_rfl))
              exact one_load _ _ rfl rfl _ _ e (cell_abides Q0.out hb) (by kernel_rfl) ⟨_, rfl, Below.refl _ _, rfl⟩
            · intro vs w' F hb hd hF hl hT
              have e := (hF 5).trans (look_out _ 5 _ _ (by kernel_rfl))
              exact one_move _ rfl (by first | exact Or.inl rfl | exact Or.inr rfl) ⟨_, rfl, Below.refl _ _, e⟩
            · intro vs w' F hb hd hF hl hT
              have e1 := ((hF 15).trans (look_at _ 15 1 _ _ (by kernel_rfl) (by kernel_rfl) hl)).trans (dep_of (Fact := F_heldb wr.heap.size n cap a kq la av nv cv) hd 1 (by kernel_rfl))
              have e2 := ((hF 16).trans (look_at _ 16 2 _ _ (by kernel_rfl) (by kernel_rfl) hl)).trans (dep_of (Fact := F_heldb wr.heap.size n cap a kq la av nv cv) hd 2 (by kernel_rfl))
              exact rg_leq _ _ _ _ rfl rfl .i64 (kq) (la) false e1 e2 (decide_eq_false (by omega)) ⟨_, rfl, Below.refl _ _, rfl⟩
            · intro vs w' F hb hd hF hl hT
              have e := ((hF 17).trans (look_at _ 17 3 _ _ (by kernel_rfl) (by kernel_rfl) hl)).trans (dep_of (Fact := F_heldb wr.heap.size n cap a kq la av nv cv) hd 3 (by kernel_rfl))
              exact one_move _ rfl (by first | exact Or.inl rfl | exact Or.inr rfl) ⟨_, rfl, Below.refl _ _, e⟩
            · intro vs w' F hb hd hF hl hT
              have eg := ((hF 18).trans (look_at _ 18 4 _ _ (by kernel_rfl) (by kernel_rfl) hl)).trans (dep_of (Fact := F_heldb wr.heap.size n cap a kq la av nv cv) hd 4 (by kernel_rfl))
              refine wpList_on rfl (t := 18) (by kernel_rfl) eg ?_
              have e := (hF 7).trans (look_out _ 7 _ _ (by kernel_rfl))
              exact one_field _ _ _ rfl rfl _ _ e (0) (fun w => by kernel_rfl) ⟨_, rfl, Below.refl _ _, rfl⟩
            · intro vs w' F hb hd hF hl hT
              have eg := ((hF 18).trans (look_at _ 18 4 _ _ (by kernel_rfl) (by kernel_rfl) hl)).trans (dep_of (Fact := F_heldb wr.heap.size n cap a kq la av nv cv) hd 4 (by kernel_rfl))
              refine wpList_on rfl (t := 18) (by kernel_rfl) eg ?_
              have e := ((hF 19).trans (look_at _ 19 5 _ _ (by kernel_rfl) (by kernel_rfl) hl)).trans (dep_of (Fact := F_heldb wr.heap.size n cap a kq la av nv cv) hd 5 (by kernel_rfl))
              exact one_load _ _ rfl rfl _ _ e (cell_abides Q0.out hb) (by kernel_rfl) ⟨_, rfl, Below.refl _ _, rfl⟩
            · intro vs w' F hb hd hF hl hT
              have eg := ((hF 18).trans (look_at _ 18 4 _ _ (by kernel_rfl) (by kernel_rfl) hl)).trans (dep_of (Fact := F_heldb wr.heap.size n cap a kq la av nv cv) hd 4 (by kernel_rfl))
              refine wpList_on rfl (t := 18) (by kernel_rfl) eg ?_
              have e := (hF 0).trans (look_out _ 0 _ _ (by kernel_rfl))
              exact one_move _ rfl (by first | exact Or.inl rfl | exact Or.inr rfl) ⟨_, rfl, Below.refl _ _, e⟩
            · intro vs w' F hb hd hF hl hT
              have eg := ((hF 18).trans (look_at _ 18 4 _ _ (by kernel_rfl) (by kernel_rfl) hl)).trans (dep_of (Fact := F_heldb wr.heap.size n cap a kq la av nv cv) hd 4 (by kernel_rfl))
              refine wpList_on rfl (t := 18) (by kernel_rfl) eg ?_
              have e := ((hF 21).trans (look_at _ 21 7 _ _ (by kernel_rfl) (by kernel_rfl) hl)).trans (dep_of (Fact := F_heldb wr.heap.size n cap a kq la av nv cv) hd 7 (by kernel_rfl))
              exact rg_len _ 24 58 rfl rfl Try.underlying24 a (n) (cap) e ⟨_, rfl, Below.refl _ _, rfl⟩
            · intro vs w' F hb hd hF hl hT
              have eg := ((hF 18).trans (look_at _ 18 4 _ _ (by kernel_rfl) (by kernel_rfl) hl)).trans (dep_of (Fact := F_heldb wr.heap.size n cap a kq la av nv cv) hd 4 (by kernel_rfl))
              refine wpList_on rfl (t := 18) (by kernel_rfl) eg ?_
              have e1 := ((hF 20).trans (look_at _ 20 6 _ _ (by kernel_rfl) (by kernel_rfl) hl)).trans (dep_of (Fact := F_heldb wr.heap.size n cap a kq la av nv cv) hd 6 (by kernel_rfl))
              have e2 := ((hF 22).trans (look_at _ 22 8 _ _ (by kernel_rfl) (by kernel_rfl) hl)).trans (dep_of (Fact := F_heldb wr.heap.size n cap a kq la av nv cv) hd 8 (by kernel_rfl))
              exact rg_geq _ _ _ _ rfl rfl .i64 (kq) ((n : Int)) true e1 e2 (decide_eq_true (by omega)) ⟨_, rfl, Below.refl _ _, rfl⟩
            · intro vs w' F hb hd hF hl hT
              have ec := ((hF 18).trans (look_at _ 18 4 _ _ (by kernel_rfl) (by kernel_rfl) hl)).trans (dep_of (Fact := F_heldb wr.heap.size n cap a kq la av nv cv) hd 4 (by kernel_rfl))
              have e := ((hF 23).trans (look_at _ 23 9 _ _ (by kernel_rfl) (by kernel_rfl) hl)).trans (dep_of (Fact := F_heldb wr.heap.size n cap a kq la av nv cv) hd 9 (by kernel_rfl))
              exact one_pick_f _ _ _ rfl rfl _ ec e ⟨_, rfl, Below.refl _ _, rfl⟩
            · intro vs w' F hb hd hF hl hT
              have e := ((hF 24).trans (look_at _ 24 10 _ _ (by kernel_rfl) (by kernel_rfl) hl)).trans (dep_of (Fact := F_heldb wr.heap.size n cap a kq la av nv cv) hd 10 (by kernel_rfl))
              exact one_move _ rfl (by first | exact Or.inl rfl | exact Or.inr rfl) ⟨_, rfl, Below.refl _ _, e⟩
            · intro vs w' F hb hd hF hl hT
              have eg := ((hF 25).trans (look_at _ 25 11 _ _ (by kernel_rfl) (by kernel_rfl) hl)).trans (dep_of (Fact := F_heldb wr.heap.size n cap a kq la av nv cv) hd 11 (by kernel_rfl))
              exact wpList_off rfl (t := 25) (d := true) (by kernel_rfl) eg (by decide) ⟨_, rfl, Below.refl _ _, rfl⟩
            · intro vs w' F hb hd hF hl hT
              have eg := ((hF 25).trans (look_at _ 25 11 _ _ (by kernel_rfl) (by kernel_rfl) hl)).trans (dep_of (Fact := F_heldb wr.heap.size n cap a kq la av nv cv) hd 11 (by kernel_rfl))
              exact wpList_off rfl (t := 25) (d := true) (by kernel_rfl) eg (by decide) ⟨_, rfl, Below.refl _ _, rfl⟩
            · intro vs w' F hb hd hF hl hT
              have eg := ((hF 25).trans (look_at _ 25 11 _ _ (by kernel_rfl) (by kernel_rfl) hl)).trans (dep_of (Fact := F_heldb wr.heap.size n cap a kq la av nv cv) hd 11 (by kernel_rfl))
              exact wpList_off rfl (t := 25) (d := true) (by kernel_rfl) eg (by decide) ⟨_, rfl, Below.refl _ _, rfl⟩
            · intro vs w' F hb hd hF hl hT
              have eg := ((hF 25).trans (look_at _ 25 11 _ _ (by kernel_rfl) (by kernel_rfl) hl)).trans (dep_of (Fact := F_heldb wr.heap.size n cap a kq la av nv cv) hd 11 (by kernel_rfl))
              exact wpList_off rfl (t := 25) (d := true) (by kernel_rfl) eg (by decide) ⟨_, rfl, Below.refl _ _, rfl⟩
            · intro vs w' F hb hd hF hl hT
              have eg := ((hF 25).trans (look_at _ 25 11 _ _ (by kernel_rfl) (by kernel_rfl) hl)).trans (dep_of (Fact := F_heldb wr.heap.size n cap a kq la av nv cv) hd 11 (by kernel_rfl))
              exact wpList_off rfl (t := 25) (d := true) (by kernel_rfl) eg (by decide) ⟨_, rfl, Below.refl _ _, rfl⟩
            · intro vs w' F hb hd hF hl hT
              have eg := ((hF 25).trans (look_at _ 25 11 _ _ (by kernel_rfl) (by kernel_rfl) hl)).trans (dep_of (Fact := F_heldb wr.heap.size n cap a kq la av nv cv) hd 11 (by kernel_rfl))
              exact wpList_off rfl (t := 25) (d := true) (by kernel_rfl) eg (by decide) ⟨_, rfl, Below.refl _ _, rfl⟩
            · intro vs w' F hb hd hF hl hT
              have eg := ((hF 25).trans (look_at _ 25 11 _ _ (by kernel_rfl) (by kernel_rfl) hl)).trans (dep_of (Fact := F_heldb wr.heap.size n cap a kq la av nv cv) hd 11 (by kernel_rfl))
              exact wpList_off rfl (t := 25) (d := true) (by kernel_rfl) eg (by decide) ⟨_, rfl, Below.refl _ _, rfl⟩
            · intro vs w' F hb hd hF hl hT
              have eg := ((hF 25).trans (look_at _ 25 11 _ _ (by kernel_rfl) (by kernel_rfl) hl)).trans (dep_of (Fact := F_heldb wr.heap.size n cap a kq la av nv cv) hd 11 (by kernel_rfl))
              exact wpList_off rfl (t := 25) (d := true) (by kernel_rfl) eg (by decide) ⟨_, rfl, Below.refl _ _, rfl⟩
            · intro vs w' F hb hd hF hl hT
              have eg := ((hF 25).trans (look_at _ 25 11 _ _ (by kernel_rfl) (by kernel_rfl) hl)).trans (dep_of (Fact := F_heldb wr.heap.size n cap a kq la av nv cv) hd 11 (by kernel_rfl))
              exact wpList_off rfl (t := 25) (d := true) (by kernel_rfl) eg (by decide) ⟨_, rfl, Below.refl _ _, rfl⟩
            · intro vs w' F hb hd hF hl hT
              have ec := ((hF 25).trans (look_at _ 25 11 _ _ (by kernel_rfl) (by kernel_rfl) hl)).trans (dep_of (Fact := F_heldb wr.heap.size n cap a kq la av nv cv) hd 11 (by kernel_rfl))
              exact one_pick_t _ _ _ rfl rfl _ ec rfl ⟨_, rfl, Below.refl _ _, rfl⟩
          · intro vs8 W8 hl hb hI
            have hv : vs8.getD 21 undef = .bool true := hI 21 (by omega)
            obtain ⟨x0, x1, x2, x3, x4, x5, x6, x7, x8, x9, x10, x11, x12, x13, x14, x15, x16, x17, x18, x19, x20, x21, hvs⟩ := list22 hl
            subst hvs
            replace hv : x21 = .bool true := hv
            subst hv
            clear hI hl
            simp only [fillAll, Act.put, List.setIfInBounds_toArray, List.set_cons_succ, List.set_cons_zero]
            show wpList _ _ _ [] _ _
            go_wp2
            go_ret
            exact ⟨by rw [HRES.out]; rfl, bt HB.out hb⟩
        · obtain ⟨q, rfl⟩ : ∃ q : Nat, kq = (q : Int) := ⟨kq.toNat, by omega⟩
          have hqn : q < n := by omega
          have hzA := HZ.out.below KindAt.abides HB.out
          obtain ⟨z, rfl, _, _⟩ := HZ.out (by rw [HNN]; omega)
          obtain ⟨kb, ko, rfl, af, cf, hck, hnm, hnc, hcm, hfl⟩ := kind_cells hzA q (by rw [HNN]; exact hqn)
          have hgq : k.getD q default = k[q]'(by rw [HNN]; exact hqn) := by rw [List.getD_eq_getElem?_getD, List.getElem?_eq_getElem (by rw [HNN]; exact hqn)]; rfl
          have hs := HS.out
          rw [Int.toNat_natCast, hgq, decide_eq_true (show la < (q : Int) by omega), decide_eq_true (show (q : Int) < (k.length : Int) by rw [HNN]; omega), Bool.true_and, Bool.true_and] at hs
          obtain ⟨kk, hkk⟩ : ∃ kk, kk = k[q]'(by rw [HNN]; exact hqn) := ⟨_, rfl⟩
          rw [← hkk] at hck hnm hnc hfl hs
          obtain ⟨nf, hnf⟩ : ∃ nf, nf = kk.fields.length := ⟨_, rfl⟩
          rw [← hnf] at hck hnc
          have CC := Lib.hid (fun w' hb => kind_Holds kk af nf cf y.vals av nv cv hnf.symm HNV.out.symm hyv hnm hnc hcm w' (SlAt.below FieldAt.abides hfl hb) (IntsAt.below HIV.out hb))
          obtain ⟨hd, hhd⟩ : ∃ hd, hd = holdsB kk y.vals := ⟨_, rfl⟩
          rw [← hhd] at hs CC
          obtain ⟨nm, hnm2⟩ : ∃ nm, nm = kk.name := ⟨_, rfl⟩
          rw [← hnm2] at hck CC
          have HCK := Lib.hid hck
          have HS2 := Lib.hid hs
          clear HS hs hgq hkk hnf hhd hnm2 hck hnm hnc hcm hfl hzA hyv
          cases hd with
          | false =>
            have HRES := Lib.hid (HRT.out _ HS2.out rfl)
            go_wp2_with fail
            refine wp_region_facts_t rfl 22 (by kernel_rfl) (F_heldc wr.heap.size n cap kb ko q la av nv cv nm af nf cf) (F_heldc_mono wr.heap.size n cap kb ko q la av nv cv nm af nf cf) ?_ ?_
            · refine ⟨?_, ?_, ?_, ?_, ?_, ?_, ?_, ?_, ?_, ?_, ?_, ?_, ?_, ?_, ?_, ?_, ?_, ?_, ?_, ?_, ?_, ?_, trivial⟩
              · intro vs w' F hb hd hF hl hT
                have e := (hF 7).trans (look_out _ 7 _ _ (by kernel_rfl))
                exact one_field _ _ _ rfl rfl _ _ e (0) (fun w => by kernel_rfl) ⟨_, rfl, Below.refl _ _, rfl⟩
              · intro vs w' F hb hd hF hl hT
                have e := ((hF 14).trans (look_at _ 14 0 _ _ (by kernel_rfl) (by kernel_rfl) hl)).trans (dep_of (Fact := F_heldc wr.heap.size n cap kb ko q la av nv cv nm af nf cf) hd 0 (by kernel_rfl))
                exact one_load _ _ rfl rfl _ _ e (cell_abides Q0.out hb) (by kernel_rfl) ⟨_, rfl, Below.refl _ _, rfl⟩
              · intro vs w' F hb hd hF hl hT
                have e := (hF 5).trans (look_out _ 5 _ _ (by kernel_rfl))
                exact one_move _ rfl (by first | exact Or.inl rfl | exact Or.inr rfl) ⟨_, rfl, Below.refl _ _, e⟩
              · intro vs w' F hb hd hF hl hT
                have e1 := ((hF 15).trans (look_at _ 15 1 _ _ (by kernel_rfl) (by kernel_rfl) hl)).trans (dep_of (Fact := F_heldc wr.heap.size n cap kb ko q la av nv cv nm af nf cf) hd 1 (by kernel_rfl))
                have e2 := ((hF 16).trans (look_at _ 16 2 _ _ (by kernel_rfl) (by kernel_rfl) hl)).trans (dep_of (Fact := F_heldc wr.heap.size n cap kb ko q la av nv cv nm af nf cf) hd 2 (by kernel_rfl))
                exact rg_leq _ _ _ _ rfl rfl .i64 ((q : Int)) (la) false e1 e2 (decide_eq_false (by omega)) ⟨_, rfl, Below.refl _ _, rfl⟩
              · intro vs w' F hb hd hF hl hT
                have e := ((hF 17).trans (look_at _ 17 3 _ _ (by kernel_rfl) (by kernel_rfl) hl)).trans (dep_of (Fact := F_heldc wr.heap.size n cap kb ko q la av nv cv nm af nf cf) hd 3 (by kernel_rfl))
                exact one_move _ rfl (by first | exact Or.inl rfl | exact Or.inr rfl) ⟨_, rfl, Below.refl _ _, e⟩
              · intro vs w' F hb hd hF hl hT
                have eg := ((hF 18).trans (look_at _ 18 4 _ _ (by kernel_rfl) (by kernel_rfl) hl)).trans (dep_of (Fact := F_heldc wr.heap.size n cap kb ko q la av nv cv nm af nf cf) hd 4 (by kernel_rfl))
                refine wpList_on rfl (t := 18) (by kernel_rfl) eg ?_
                have e := (hF 7).trans (look_out _ 7 _ _ (by kernel_rfl))
                exact one_field _ _ _ rfl rfl _ _ e (0) (fun w => by kernel_rfl) ⟨_, rfl, Below.refl _ _, rfl⟩
              · intro vs w' F hb hd hF hl hT
                have eg := ((hF 18).trans (look_at _ 18 4 _ _ (by kernel_rfl) (by kernel_rfl) hl)).trans (dep_of (Fact := F_heldc wr.heap.size n cap kb ko q la av nv cv nm af nf cf) hd 4 (by kernel_rfl))
                refine wpList_on rfl (t := 18) (by kernel_rfl) eg ?_
                have e := ((hF 19).trans (look_at _ 19 5 _ _ (by kernel_rfl) (by kernel_rfl) hl)).trans (dep_of (Fact := F_heldc wr.heap.size n cap kb ko q la av nv cv nm af nf cf) hd 5 (by kernel_rfl))
                exact one_load _ _ rfl rfl _ _ e (cell_abides Q0.out hb) (by kernel_rfl) ⟨_, rfl, Below.refl _ _, rfl⟩
              · intro vs w' F hb hd hF hl hT
                have eg := ((hF 18).trans (look_at _ 18 4 _ _ (by kernel_rfl) (by kernel_rfl) hl)).trans (dep_of (Fact := F_heldc wr.heap.size n cap kb ko q la av nv cv nm af nf cf) hd 4 (by kernel_rfl))
                refine wpList_on rfl (t := 18) (by kernel_rfl) eg ?_
                have e := (hF 0).trans (look_out _ 0 _ _ (by kernel_rfl))
                exact one_move _ rfl (by first | exact Or.inl rfl | exact Or.inr rfl) ⟨_, rfl, Below.refl _ _, e⟩
              · intro vs w' F hb hd hF hl hT
                have eg := ((hF 18).trans (look_at _ 18 4 _ _ (by kernel_rfl) (by kernel_rfl) hl)).trans (dep_of (Fact := F_heldc wr.heap.size n cap kb ko q la av nv cv nm af nf cf) hd 4 (by kernel_rfl))
                refine wpList_on rfl (t := 18) (by kernel_rfl) eg ?_
                have e := ((hF 21).trans (look_at _ 21 7 _ _ (by kernel_rfl) (by kernel_rfl) hl)).trans (dep_of (Fact := F_heldc wr.heap.size n cap kb ko q la av nv cv nm af nf cf) hd 7 (by kernel_rfl))
                exact rg_len _ 24 58 rfl rfl Try.underlying24 (some ⟨kb, ko, none⟩) (n) (cap) e ⟨_, rfl, Below.refl _ _, rfl⟩
              · intro vs w' F hb hd hF hl hT
                have eg := ((hF 18).trans (look_at _ 18 4 _ _ (by kernel_rfl) (by kernel_rfl) hl)).trans (dep_of (Fact := F_heldc wr.heap.size n cap kb ko q la av nv cv nm af nf cf) hd 4 (by kernel_rfl))
                refine wpList_on rfl (t := 18) (by kernel_rfl) eg ?_
                have e1 := ((hF 20).trans (look_at _ 20 6 _ _ (by kernel_rfl) (by kernel_rfl) hl)).trans (dep_of (Fact := F_heldc wr.heap.size n cap kb ko q la av nv cv nm af nf cf) hd 6 (by kernel_rfl))
                have e2 := ((hF 22).trans (look_at _ 22 8 _ _ (by kernel_rfl) (by kernel_rfl) hl)).trans (dep_of (Fact := F_heldc wr.heap.size n cap kb ko q la av nv cv nm af nf cf) hd 8 (by kernel_rfl))
                exact rg_geq _ _ _ _ rfl rfl .i64 ((q : Int)) ((n : Int)) false e1 e2 (decide_eq_false (by omega)) ⟨_, rfl, Below.refl _ _, rfl⟩
              · intro vs w' F hb hd hF hl hT
                have ec := ((hF 18).trans (look_at _ 18 4 _ _ (by kernel_rfl) (by kernel_rfl) hl)).trans (dep_of (Fact := F_heldc wr.heap.size n cap kb ko q la av nv cv nm af nf cf) hd 4 (by kernel_rfl))
                have e := ((hF 23).trans (look_at _ 23 9 _ _ (by kernel_rfl) (by kernel_rfl) hl)).trans (dep_of (Fact := F_heldc wr.heap.size n cap kb ko q la av nv cv nm af nf cf) hd 9 (by kernel_rfl))
                exact one_pick_f _ _ _ rfl rfl _ ec e ⟨_, rfl, Below.refl _ _, rfl⟩
              · intro vs w' F hb hd hF hl hT
                have e := ((hF 24).trans (look_at _ 24 10 _ _ (by kernel_rfl) (by kernel_rfl) hl)).trans (dep_of (Fact := F_heldc wr.heap.size n cap kb ko q la av nv cv nm af nf cf) hd 10 (by kernel_rfl))
                exact one_move _ rfl (by first | exact Or.inl rfl | exact Or.inr rfl) ⟨_, rfl, Below.refl _ _, e⟩
              · intro vs w' F hb hd hF hl hT
                have eg := ((hF 25).trans (look_at _ 25 11 _ _ (by kernel_rfl) (by kernel_rfl) hl)).trans (dep_of (Fact := F_heldc wr.heap.size n cap kb ko q la av nv cv nm af nf cf) hd 11 (by kernel_rfl))
                refine wpList_on rfl (t := 25) (by kernel_rfl) eg ?_
                have e := (hF 0).trans (look_out _ 0 _ _ (by kernel_rfl))
                exact one_move _ rfl (by first | exact Or.inl rfl | exact Or.inr rfl) ⟨_, rfl, Below.refl _ _, e⟩
              · intro vs w' F hb hd hF hl hT
                have eg := ((hF 25).trans (look_at _ 25 11 _ _ (by kernel_rfl) (by kernel_rfl) hl)).trans (dep_of (Fact := F_heldc wr.heap.size n cap kb ko q la av nv cv nm af nf cf) hd 11 (by kernel_rfl))
                refine wpList_on rfl (t := 25) (by kernel_rfl) eg ?_
                have e := (hF 7).trans (look_out _ 7 _ _ (by kernel_rfl))
                exact one_field _ _ _ rfl rfl _ _ e (0) (fun w => by kernel_rfl) ⟨_, rfl, Below.refl _ _, rfl⟩
              · intro vs w' F hb hd hF hl hT
                have eg := ((hF 25).trans (look_at _ 25 11 _ _ (by kernel_rfl) (by kernel_rfl) hl)).trans (dep_of (Fact := F_heldc wr.heap.size n cap kb ko q la av nv cv nm af nf cf) hd 11 (by kernel_rfl))
                refine wpList_on rfl (t := 25) (by kernel_rfl) eg ?_
                have e := ((hF 27).trans (look_at _ 27 13 _ _ (by kernel_rfl) (by kernel_rfl) hl)).trans (dep_of (Fact := F_heldc wr.heap.size n cap kb ko q la av nv cv nm af nf cf) hd 13 (by kernel_rfl))
                exact one_load _ _ rfl rfl _ _ e (cell_abides Q0.out hb) (by kernel_rfl) ⟨_, rfl, Below.refl _ _, rfl⟩
              · intro vs w' F hb hd hF hl hT
                have eg := ((hF 25).trans (look_at _ 25 11 _ _ (by kernel_rfl) (by kernel_rfl) hl)).trans (dep_of (Fact := F_heldc wr.heap.size n cap kb ko q la av nv cv nm af nf cf) hd 11 (by kernel_rfl))
                refine wpList_on rfl (t := 25) (by kernel_rfl) eg ?_
                have ex := ((hF 26).trans (look_at _ 26 12 _ _ (by kernel_rfl) (by kernel_rfl) hl)).trans (dep_of (Fact := F_heldc wr.heap.size n cap kb ko q la av nv cv nm af nf cf) hd 12 (by kernel_rfl))
                have ey := ((hF 28).trans (look_at _ 28 14 _ _ (by kernel_rfl) (by kernel_rfl) hl)).trans (dep_of (Fact := F_heldc wr.heap.size n cap kb ko q la av nv cv nm af nf cf) hd 14 (by kernel_rfl))
                exact one_index 24 _ _ rfl rfl (.slice (some ⟨kb, ko, none⟩) n cap) (.int .i64 (q : Int)) (.pointer (some ⟨kb, ko + q * 2, none⟩)) ex ey (fun w => rg_idx Try.underlying24 (show (Try.prog.info? 58).map (·.size) = some 2 by kernel_rfl) (kb) (ko) (n) (cap) (q) (by omega) w) ⟨_, rfl, Below.refl _ _, rfl⟩
              · intro vs w' F hb hd hF hl hT
                have eg := ((hF 25).trans (look_at _ 25 11 _ _ (by kernel_rfl) (by kernel_rfl) hl)).trans (dep_of (Fact := F_heldc wr.heap.size n cap kb ko q la av nv cv nm af nf cf) hd 11 (by kernel_rfl))
                refine wpList_on rfl (t := 25) (by kernel_rfl) eg ?_
                have e := ((hF 29).trans (look_at _ 29 15 _ _ (by kernel_rfl) (by kernel_rfl) hl)).trans (dep_of (Fact := F_heldc wr.heap.size n cap kb ko q la av nv cv nm af nf cf) hd 15 (by kernel_rfl))
                exact rg_load 58 _ rfl rfl (kb) (ko + q * 2) [.string nm, .slice af nf cf] e (HCK.out.below hb) _ Try.underlying58 rfl (by kernel_rfl) ⟨_, rfl, Below.refl _ _, rfl⟩
              · intro vs w' F hb hd hF hl hT
                have eg := ((hF 25).trans (look_at _ 25 11 _ _ (by kernel_rfl) (by kernel_rfl) hl)).trans (dep_of (Fact := F_heldc wr.heap.size n cap kb ko q la av nv cv nm af nf cf) hd 11 (by kernel_rfl))
                refine wpList_on rfl (t := 25) (by kernel_rfl) eg ?_
                have e := (hF 7).trans (look_out _ 7 _ _ (by kernel_rfl))
                exact one_field _ _ _ rfl rfl _ _ e (1) (fun w => by kernel_rfl) ⟨_, rfl, Below.refl _ _, rfl⟩
              · intro vs w' F hb hd hF hl hT
                have eg := ((hF 25).trans (look_at _ 25 11 _ _ (by kernel_rfl) (by kernel_rfl) hl)).trans (dep_of (Fact := F_heldc wr.heap.size n cap kb ko q la av nv cv nm af nf cf) hd 11 (by kernel_rfl))
                refine wpList_on rfl (t := 25) (by kernel_rfl) eg ?_
                have e := ((hF 31).trans (look_at _ 31 17 _ _ (by kernel_rfl) (by kernel_rfl) hl)).trans (dep_of (Fact := F_heldc wr.heap.size n cap kb ko q la av nv cv nm af nf cf) hd 17 (by kernel_rfl))
                exact one_load _ _ rfl rfl _ _ e (cell_abides Q1.out hb) (by kernel_rfl) ⟨_, rfl, Below.refl _ _, rfl⟩
              · intro vs w' F hb hd hF hl hT
                have eg := ((hF 25).trans (look_at _ 25 11 _ _ (by kernel_rfl) (by kernel_rfl) hl)).trans (dep_of (Fact := F_heldc wr.heap.size n cap kb ko q la av nv cv nm af nf cf) hd 11 (by kernel_rfl))
                refine wpList_on rfl (t := 25) (by kernel_rfl) eg ?_
                have ea0 := ((hF 30).trans (look_at _ 30 16 _ _ (by kernel_rfl) (by kernel_rfl) hl)).trans (dep_of (Fact := F_heldc wr.heap.size n cap kb ko q la av nv cv nm af nf cf) hd 16 (by kernel_rfl))
                have ea1 := ((hF 32).trans (look_at _ 32 18 _ _ (by kernel_rfl) (by kernel_rfl) hl)).trans (dep_of (Fact := F_heldc wr.heap.size n cap kb ko q la av nv cv nm af nf cf) hd 18 (by kernel_rfl))
                refine one_call _ _ rfl rfl (enters_of Try.func69 (by kernel_rfl) rfl) #[.agg #[.string nm, .slice af nf cf], .slice av nv cv] (eval2 ea0 ea1) ?_
                refine (CC.out w' hb).mono ?_
                rintro e2 w2 ⟨rfl, hb2⟩
                exact ⟨_, rfl, _, rfl, hb2, rfl⟩
              · intro vs w' F hb hd hF hl hT
                have eg := ((hF 25).trans (look_at _ 25 11 _ _ (by kernel_rfl) (by kernel_rfl) hl)).trans (dep_of (Fact := F_heldc wr.heap.size n cap kb ko q la av nv cv nm af nf cf) hd 11 (by kernel_rfl))
                refine wpList_on rfl (t := 25) (by kernel_rfl) eg ?_
                have e := ((hF 33).trans (look_at _ 33 19 _ _ (by kernel_rfl) (by kernel_rfl) hl)).trans (dep_of (Fact := F_heldc wr.heap.size n cap kb ko q la av nv cv nm af nf cf) hd 19 (by kernel_rfl))
                exact one_not _ _ rfl rfl _ true e rfl ⟨_, rfl, Below.refl _ _, rfl⟩
              · intro vs w' F hb hd hF hl hT
                have ec := ((hF 25).trans (look_at _ 25 11 _ _ (by kernel_rfl) (by kernel_rfl) hl)).trans (dep_of (Fact := F_heldc wr.heap.size n cap kb ko q la av nv cv nm af nf cf) hd 11 (by kernel_rfl))
                have e := ((hF 34).trans (look_at _ 34 20 _ _ (by kernel_rfl) (by kernel_rfl) hl)).trans (dep_of (Fact := F_heldc wr.heap.size n cap kb ko q la av nv cv nm af nf cf) hd 20 (by kernel_rfl))
                exact one_pick_f _ _ _ rfl rfl _ ec e ⟨_, rfl, Below.refl _ _, rfl⟩
            · intro vs8 W8 hl hb hI
              have hv : vs8.getD 21 undef = .bool true := hI 21 (by omega)
              obtain ⟨x0, x1, x2, x3, x4, x5, x6, x7, x8, x9, x10, x11, x12, x13, x14, x15, x16, x17, x18, x19, x20, x21, hvs⟩ := list22 hl
              subst hvs
              replace hv : x21 = .bool true := hv
              subst hv
              clear hI hl
              simp only [fillAll, Act.put, List.setIfInBounds_toArray, List.set_cons_succ, List.set_cons_zero]
              show wpList _ _ _ [] _ _
              go_wp2
              go_ret
              exact ⟨by rw [HRES.out]; rfl, bt HB.out hb⟩
          | true =>
            go_wp2_with fail
            refine wp_region_facts_t rfl 22 (by kernel_rfl) (F_heldd wr.heap.size n cap kb ko q la av nv cv nm af nf cf) (F_heldd_mono wr.heap.size n cap kb ko q la av nv cv nm af nf cf) ?_ ?_
            · refine ⟨?_, ?_, ?_, ?_, ?_, ?_, ?_, ?_, ?_, ?_, ?_, ?_, ?_, ?_, ?_, ?_, ?_, ?_, ?_, ?_, ?_, ?_, trivial⟩
              · intro vs w' F hb hd hF hl hT
                have e := (hF 7).trans (look_out _ 7 _ _ (by kernel_rfl))
                exact one_field _ _ _ rfl rfl _ _ e (0) (fun w => by kernel_rfl) ⟨_, rfl, Below.refl _ _, rfl⟩
              · intro vs w' F hb hd hF hl hT
                have e := ((hF 14).trans (look_at _ 14 0 _ _ (by kernel_rfl) (by kernel_rfl) hl)).trans (dep_of (Fact := F_heldd wr.heap.size n cap kb ko q la av nv cv nm af nf cf) hd 0 (by kernel_rfl))
                exact one_load _ _ rfl rfl _ _ e (cell_abides Q0.out hb) (by kernel_rfl) ⟨_, rfl, Below.refl _ _, rfl⟩
              · intro vs w' F hb hd hF hl hT
                have e := (hF 5).trans (look_out _ 5 _ _ (by kernel_rfl))
                exact one_move _ rfl (by first | exact Or.inl rfl | exact Or.inr rfl) ⟨_, rfl, Below.refl _ _, e⟩
              · intro vs w' F hb hd hF hl hT
                have e1 := ((hF 15).trans (look_at _ 15 1 _ _ (by kernel_rfl) (by kernel_rfl) hl)).trans (dep_of (Fact := F_heldd wr.heap.size n cap kb ko q la av nv cv nm af nf cf) hd 1 (by kernel_rfl))
                have e2 := ((hF 16).trans (look_at _ 16 2 _ _ (by kernel_rfl) (by kernel_rfl) hl)).trans (dep_of (Fact := F_heldd wr.heap.size n cap kb ko q la av nv cv nm af nf cf) hd 2 (by kernel_rfl))
                exact rg_leq _ _ _ _ rfl rfl .i64 ((q : Int)) (la) false e1 e2 (decide_eq_false (by omega)) ⟨_, rfl, Below.refl _ _, rfl⟩
              · intro vs w' F hb hd hF hl hT
                have e := ((hF 17).trans (look_at _ 17 3 _ _ (by kernel_rfl) (by kernel_rfl) hl)).trans (dep_of (Fact := F_heldd wr.heap.size n cap kb ko q la av nv cv nm af nf cf) hd 3 (by kernel_rfl))
                exact one_move _ rfl (by first | exact Or.inl rfl | exact Or.inr rfl) ⟨_, rfl, Below.refl _ _, e⟩
              · intro vs w' F hb hd hF hl hT
                have eg := ((hF 18).trans (look_at _ 18 4 _ _ (by kernel_rfl) (by kernel_rfl) hl)).trans (dep_of (Fact := F_heldd wr.heap.size n cap kb ko q la av nv cv nm af nf cf) hd 4 (by kernel_rfl))
                refine wpList_on rfl (t := 18) (by kernel_rfl) eg ?_
                have e := (hF 7).trans (look_out _ 7 _ _ (by kernel_rfl))
                exact one_field _ _ _ rfl rfl _ _ e (0) (fun w => by kernel_rfl) ⟨_, rfl, Below.refl _ _, rfl⟩
              · intro vs w' F hb hd hF hl hT
                have eg := ((hF 18).trans (look_at _ 18 4 _ _ (by kernel_rfl) (by kernel_rfl) hl)).trans (dep_of (Fact := F_heldd wr.heap.size n cap kb ko q la av nv cv nm af nf cf) hd 4 (by kernel_rfl))
                refine wpList_on rfl (t := 18) (by kernel_rfl) eg ?_
                have e := ((hF 19).trans (look_at _ 19 5 _ _ (by kernel_rfl) (by kernel_rfl) hl)).trans (dep_of (Fact := F_heldd wr.heap.size n cap kb ko q la av nv cv nm af nf cf) hd 5 (by kernel_rfl))
                exact one_load _ _ rfl rfl _ _ e (cell_abides Q0.out hb) (by kernel_rfl) ⟨_, rfl, Below.refl _ _, rfl⟩
              · intro vs w' F hb hd hF hl hT
                have eg := ((hF 18).trans (look_at _ 18 4 _ _ (by kernel_rfl) (by kernel_rfl) hl)).trans (dep_of (Fact := F_heldd wr.heap.size n cap kb ko q la av nv cv nm af nf cf) hd 4 (by kernel_rfl))
                refine wpList_on rfl (t := 18) (by kernel_rfl) eg ?_
                have e := (hF 0).trans (look_out _ 0 _ _ (by kernel_rfl))
                exact one_move _ rfl (by first | exact Or.inl rfl | exact Or.inr rfl) ⟨_, rfl, Below.refl _ _, e⟩
              · intro vs w' F hb hd hF hl hT
                have eg := ((hF 18).trans (look_at _ 18 4 _ _ (by kernel_rfl) (by kernel_rfl) hl)).trans (dep_of (Fact := F_heldd wr.heap.size n cap kb ko q la av nv cv nm af nf cf) hd 4 (by kernel_rfl))
                refine wpList_on rfl (t := 18) (by kernel_rfl) eg ?_
                have e := ((hF 21).trans (look_at _ 21 7 _ _ (by kernel_rfl) (by kernel_rfl) hl)).trans (dep_of (Fact := F_heldd wr.heap.size n cap kb ko q la av nv cv nm af nf cf) hd 7 (by kernel_rfl))
                exact rg_len _ 24 58 rfl rfl Try.underlying24 (some ⟨kb, ko, none⟩) (n) (cap) e ⟨_, rfl, Below.refl _ _, rfl⟩
              · intro vs w' F hb hd hF hl hT
                have eg := ((hF 18).trans (look_at _ 18 4 _ _ (by kernel_rfl) (by kernel_rfl) hl)).trans (dep_of (Fact := F_heldd wr.heap.size n cap kb ko q la av nv cv nm af nf cf) hd 4 (by kernel_rfl))
                refine wpList_on rfl (t := 18) (by kernel_rfl) eg ?_
                have e1 := ((hF 20).trans (look_at _ 20 6 _ _ (by kernel_rfl) (by kernel_rfl) hl)).trans (dep_of (Fact := F_heldd wr.heap.size n cap kb ko q la av nv cv nm af nf cf) hd 6 (by kernel_rfl))
                have e2 := ((hF 22).trans (look_at _ 22 8 _ _ (by kernel_rfl) (by kernel_rfl) hl)).trans (dep_of (Fact := F_heldd wr.heap.size n cap kb ko q la av nv cv nm af nf cf) hd 8 (by kernel_rfl))
                exact rg_geq _ _ _ _ rfl rfl .i64 ((q : Int)) ((n : Int)) false e1 e2 (decide_eq_false (by omega)) ⟨_, rfl, Below.refl _ _, rfl⟩
              · intro vs w' F hb hd hF hl hT
                have ec := ((hF 18).trans (look_at _ 18 4 _ _ (by kernel_rfl) (by kernel_rfl) hl)).trans (dep_of (Fact := F_heldd wr.heap.size n cap kb ko q la av nv cv nm af nf cf) hd 4 (by kernel_rfl))
                have e := ((hF 23).trans (look_at _ 23 9 _ _ (by kernel_rfl) (by kernel_rfl) hl)).trans (dep_of (Fact := F_heldd wr.heap.size n cap kb ko q la av nv cv nm af nf cf) hd 9 (by kernel_rfl))
                exact one_pick_f _ _ _ rfl rfl _ ec e ⟨_, rfl, Below.refl _ _, rfl⟩
              · intro vs w' F hb hd hF hl hT
                have e := ((hF 24).trans (look_at _ 24 10 _ _ (by kernel_rfl) (by kernel_rfl) hl)).trans (dep_of (Fact := F_heldd wr.heap.size n cap kb ko q la av nv cv nm af nf cf) hd 10 (by kernel_rfl))
                exact one_move _ rfl (by first | exact Or.inl rfl | exact Or.inr rfl) ⟨_, rfl, Below.refl _ _, e⟩
              · intro vs w' F hb hd hF hl hT
                have eg := ((hF 25).trans (look_at _ 25 11 _ _ (by kernel_rfl) (by kernel_rfl) hl)).trans (dep_of (Fact := F_heldd wr.heap.size n cap kb ko q la av nv cv nm af nf cf) hd 11 (by kernel_rfl))
                refine wpList_on rfl (t := 25) (by kernel_rfl) eg ?_
                have e := (hF 0).trans (look_out _ 0 _ _ (by kernel_rfl))
                exact one_move _ rfl (by first | exact Or.inl rfl | exact Or.inr rfl) ⟨_, rfl, Below.refl _ _, e⟩
              · intro vs w' F hb hd hF hl hT
                have eg := ((hF 25).trans (look_at _ 25 11 _ _ (by kernel_rfl) (by kernel_rfl) hl)).trans (dep_of (Fact := F_heldd wr.heap.size n cap kb ko q la av nv cv nm af nf cf) hd 11 (by kernel_rfl))
                refine wpList_on rfl (t := 25) (by kernel_rfl) eg ?_
                have e := (hF 7).trans (look_out _ 7 _ _ (by kernel_rfl))
                exact one_field _ _ _ rfl rfl _ _ e (0) (fun w => by kernel_rfl) ⟨_, rfl, Below.refl _ _, rfl⟩
              · intro vs w' F hb hd hF hl hT
                have eg := ((hF 25).trans (look_at _ 25 11 _ _ (by kernel_rfl) (by kernel_rfl) hl)).trans (dep_of (Fact := F_heldd wr.heap.size n cap kb ko q la av nv cv nm af nf cf) hd 11 (by kernel_rfl))
                refine wpList_on rfl (t := 25) (by kernel_rfl) eg ?_
                have e := ((hF 27).trans (look_at _ 27 13 _ _ (by kernel_rfl) (by kernel_rfl) hl)).trans (dep_of (Fact := F_heldd wr.heap.size n cap kb ko q la av nv cv nm af nf cf) hd 13 (by kernel_rfl))
                exact one_load _ _ rfl rfl _ _ e (cell_abides Q0.out hb) (by kernel_rfl) ⟨_, rfl, Below.refl _ _, rfl⟩
              · intro vs w' F hb hd hF hl hT
                have eg := ((hF 25).trans (look_at _ 25 11 _ _ (by kernel_rfl) (by kernel_rfl) hl)).trans (dep_of (Fact := F_heldd wr.heap.size n cap kb ko q la av nv cv nm af nf cf) hd 11 (by kernel_rfl))
                refine wpList_on rfl (t := 25) (by kernel_rfl) eg ?_
                have ex := ((hF 26).trans (look_at _ 26 12 _ _ (by kernel_rfl) (by kernel_rfl) hl)).trans (dep_of (Fact := F_heldd wr.heap.size n cap kb ko q la av nv cv nm af nf cf) hd 12 (by kernel_rfl))
                have ey := ((hF 28).trans (look_at _ 28 14 _ _ (by kernel_rfl) (by kernel_rfl) hl)).trans (dep_of (Fact := F_heldd wr.heap.size n cap kb ko q la av nv cv nm af nf cf) hd 14 (by kernel_rfl))
                exact one_index 24 _ _ rfl rfl (.slice (some ⟨kb, ko, none⟩) n cap) (.int .i64 (q : Int)) (.pointer (some ⟨kb, ko + q * 2, none⟩)) ex ey (fun w => rg_idx Try.underlying24 (show (Try.prog.info? 58).map (·.size) = some 2 by kernel_rfl) (kb) (ko) (n) (cap) (q) (by omega) w) ⟨_, rfl, Below.refl _ _, rfl⟩
              · intro vs w' F hb hd hF hl hT
                have eg := ((hF 25).trans (look_at _ 25 11 _ _ (by kernel_rfl) (by kernel_rfl) hl)).trans (dep_of (Fact := F_heldd wr.heap.size n cap kb ko q la av nv cv nm af nf cf) hd 11 (by kernel_rfl))
                refine wpList_on rfl (t := 25) (by kernel_rfl) eg ?_
                have e := ((hF 29).trans (look_at _ 29 15 _ _ (by kernel_rfl) (by kernel_rfl) hl)).trans (dep_of (Fact := F_heldd wr.heap.size n cap kb ko q la av nv cv nm af nf cf) hd 15 (by kernel_rfl))
                exact rg_load 58 _ rfl rfl (kb) (ko + q * 2) [.string nm, .slice af nf cf] e (HCK.out.below hb) _ Try.underlying58 rfl (by kernel_rfl) ⟨_, rfl, Below.refl _ _, rfl⟩
              · intro vs w' F hb hd hF hl hT
                have eg := ((hF 25).trans (look_at _ 25 11 _ _ (by kernel_rfl) (by kernel_rfl) hl)).trans (dep_of (Fact := F_heldd wr.heap.size n cap kb ko q la av nv cv nm af nf cf) hd 11 (by kernel_rfl))
                refine wpList_on rfl (t := 25) (by kernel_rfl) eg ?_
                have e := (hF 7).trans (look_out _ 7 _ _ (by kernel_rfl))
                exact one_field _ _ _ rfl rfl _ _ e (1) (fun w => by kernel_rfl) ⟨_, rfl, Below.refl _ _, rfl⟩
              · intro vs w' F hb hd hF hl hT
                have eg := ((hF 25).trans (look_at _ 25 11 _ _ (by kernel_rfl) (by kernel_rfl) hl)).trans (dep_of (Fact := F_heldd wr.heap.size n cap kb ko q la av nv cv nm af nf cf) hd 11 (by kernel_rfl))
                refine wpList_on rfl (t := 25) (by kernel_rfl) eg ?_
                have e := ((hF 31).trans (look_at _ 31 17 _ _ (by kernel_rfl) (by kernel_rfl) hl)).trans (dep_of (Fact := F_heldd wr.heap.size n cap kb ko q la av nv cv nm af nf cf) hd 17 (by kernel_rfl))
                exact one_load _ _ rfl rfl _ _ e (cell_abides Q1.out hb) (by kernel_rfl) ⟨_, rfl, Below.refl _ _, rfl⟩
              · intro vs w' F hb hd hF hl hT
                have eg := ((hF 25).trans (look_at _ 25 11 _ _ (by kernel_rfl) (by kernel_rfl) hl)).trans (dep_of (Fact := F_heldd wr.heap.size n cap kb ko q la av nv cv nm af nf cf) hd 11 (by kernel_rfl))
                refine wpList_on rfl (t := 25) (by kernel_rfl) eg ?_
                have ea0 := ((hF 30).trans (look_at _ 30 16 _ _ (by kernel_rfl) (by kernel_rfl) hl)).trans (dep_of (Fact := F_heldd wr.heap.size n cap kb ko q la av nv cv nm af nf cf) hd 16 (by kernel_rfl))
                have ea1 := ((hF 32).trans (look_at _ 32 18 _ _ (by kernel_rfl) (by kernel_rfl) hl)).trans (dep_of (Fact := F_heldd wr.heap.size n cap kb ko q la av nv cv nm af nf cf) hd 18 (by kernel_rfl))
                refine one_call _ _ rfl rfl (enters_of Try.func69 (by kernel_rfl) rfl) #[.agg #[.string nm, .slice af nf cf], .slice av nv cv] (eval2 ea0 ea1) ?_
                refine (CC.out w' hb).mono ?_
                rintro e2 w2 ⟨rfl, hb2⟩
                exact ⟨_, rfl, _, rfl, hb2, rfl⟩
              · intro vs w' F hb hd hF hl hT
                have eg := ((hF 25).trans (look_at _ 25 11 _ _ (by kernel_rfl) (by kernel_rfl) hl)).trans (dep_of (Fact := F_heldd wr.heap.size n cap kb ko q la av nv cv nm af nf cf) hd 11 (by kernel_rfl))
                refine wpList_on rfl (t := 25) (by kernel_rfl) eg ?_
                have e := ((hF 33).trans (look_at _ 33 19 _ _ (by kernel_rfl) (by kernel_rfl) hl)).trans (dep_of (Fact := F_heldd wr.heap.size n cap kb ko q la av nv cv nm af nf cf) hd 19 (by kernel_rfl))
                exact one_not _ _ rfl rfl _ false e rfl ⟨_, rfl, Below.refl _ _, rfl⟩
              · intro vs w' F hb hd hF hl hT
                have ec := ((hF 25).trans (look_at _ 25 11 _ _ (by kernel_rfl) (by kernel_rfl) hl)).trans (dep_of (Fact := F_heldd wr.heap.size n cap kb ko q la av nv cv nm af nf cf) hd 11 (by kernel_rfl))
                have e := ((hF 34).trans (look_at _ 34 20 _ _ (by kernel_rfl) (by kernel_rfl) hl)).trans (dep_of (Fact := F_heldd wr.heap.size n cap kb ko q la av nv cv nm af nf cf) hd 20 (by kernel_rfl))
                exact one_pick_f _ _ _ rfl rfl _ ec e ⟨_, rfl, Below.refl _ _, rfl⟩
            · intro vs8 W8 hl hb hI
              have hv : vs8.getD 21 undef = .bool false := hI 21 (by omega)
              obtain ⟨x0, x1, x2, x3, x4, x5, x6, x7, x8, x9, x10, x11, x12, x13, x14, x15, x16, x17, x18, x19, x20, x21, hvs⟩ := list22 hl
              subst hvs
              replace hv : x21 = .bool false := hv
              subst hv
              clear hI hl
              simp only [fillAll, Act.put, List.setIfInBounds_toArray, List.set_cons_succ, List.set_cons_zero]
              show wpList _ _ _ [] _ _
              have c0 := cell_abides Q0.out hb
              have HB8 := bt HB.out hb
              clear hb
              go_wp2
              go_roundg (m - (i + 1))
              case measure => rw [I2.out]; omega
              case rel => exact ⟨i + 1, hi, rfl, by go_num, by rw [HLS.out], HS2.out, HB8⟩
    · obtain rfl : i = m := by omega
      have HRES := Lib.hid (show heldB k l = true by unfold heldB; rw [HM.out]; exact HH.out)
      go_wp2
      go_ret
      exact ⟨by rw [HRES.out]; rfl, HB0.out⟩
end Go.Proofs.Ytpilpkbblkhnaaa
end
