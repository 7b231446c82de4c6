/- Lemmas for the law TopBorderText: WNew, SortL, CmpI, WEqK, WKSame. No conditions. -/
import Derived.Test.YtfckbkhnelgjbaaM12
import Derived.Shelf.SlSortCmp.WholeK
import Derived.Shelf.SlLaysF0
import Derived.Shelf.SlGeneric
import Derived.Ground.SlsfProg
import Derived.Test.YtfckbkhnelgjbaaProg
import Derived.Test.YtfckbkhnelgjbaaM01
import Derived.Test.YtfckbkhnelgjbaaRows
import Derived.Test.YtfckbkhnelgjbaaM04
import Derived.Test.YtfckbkhnelgjbaaM06
import Derived.Test.YtfckbkhnelgjbaaM08
import Derived.Deep.LoopGhost
import Derived.BigQuiet
import Derived.Deep.QuietTactic
import Derived.Shelf.Abstract
/- world.New. -/
section
namespace Go.Proofs.Ytfckbkhnelgjbaa
open Go.ChangeShapes Go.WideShapes Go.ChangeAt Go.RowKit Go.Nm Go.Mem
set_option linter.unusedVariables false
def newV (l : List KindV) : WorldV := if kindsE l = 0 then ⟨l, [], []⟩ else ⟨[], [], []⟩
set_option maxHeartbeats 4000000 in
theorem world_New (l : List KindV) (a : Option Addr) (n cap : Nat) (hn : l.length = n) (h1 : n ≤ 1048576) (hnc : n ≤ cap) (hcm : cap ≤ 9223372036854775807) (hv : ∀ y ∈ l, y.fields.length ≤ 1048576) (W : World) (hz : SlAt 2 KindAt W a l) :
    Calls Try.prog 46 #[.slice a n cap] W fun e w' => (∃ v, e = .returned (.tuple #[v, .int .i64 (kindsE l)]) ∧ WorldIn w' v (newV l)) ∧ Below W.heap.size W w' := by
  obtain ⟨E, hE⟩ : ∃ E, E = kindsE l := ⟨_, rfl⟩
  have hb0 := (Below.refl W.heap.size W).alloc (Nat.le_refl _) (.cells #[.slice none 0 0, .slice none 0 0, .slice none 0 0] 37)
  have HC := Lib.hid (kind_Check l a n cap hn (by omega) hnc hcm _ (hz.below KindAt.abides hb0))
  have HCP := Lib.hid (kind_Copy l a n cap hn (by omega) (fun y hy => by have := hv y hy; omega))
  rw [← hE] at HC ⊢
  have HE := Lib.hid hE
  have HN := Lib.hid hn
  have HZ := Lib.hid hz
  have HB0 := Lib.hid hb0
  clear hE hn hz hb0 hv
  go_enter Try.func46, Try.ntmps46
  go_wp2_with fail
  refine HC.out.mono ?_
  rintro e w1 ⟨rfl, hb1⟩
  have HB1 := Lib.hid (HB0.out.trans (hb1.mono HB0.out.size))
  have HROW := Lib.hid (heap_below (heap_alloc_new W (.cells #[.slice none 0 0, .slice none 0 0, .slice none 0 0] 37)) hb1)
  clear hb1 HC
  by_cases he : E = 0
  · subst he
    have t0 : ((0 : Int) != 0) = false := rfl
    go_wp2_with fail
    refine (HCP.out _ (HZ.out.below KindAt.abides HB1.out)).mono ?_
    rintro e w2 ⟨⟨a2, rfl, hk⟩, hb2⟩
    have HK := Lib.hid hk
    have HB2 := Lib.hid (HB1.out.trans (hb2.mono HB1.out.size))
    have HROW2 := Lib.hid (heap_below HROW.out hb2)
    clear hk hb2
    go_wp2_with (refine wpList_store_rowP rfl 37 (.tmp 2) (.tmp 13) rfl (W.heap.size) #[.slice a2 n n, .slice none 0 0, .slice none 0 0] rfl rfl _ _ HROW2.out (by kernel_rfl) rfl (ones3 _ _ _ rfl rfl rfl) ?_; intro W9 hput; have HPUT := Lib.hid hput; clear hput)
    refine bodyPost_ret (results_ct Try.results46 _ _ W.heap.size 37 _ (0, 0) _ rfl HPUT.out.here Try.underlying37 rfl (by kernel_rfl)) rfl ⟨⟨_, rfl, ?_⟩, HB2.out.trans ((HPUT.out.below (Nat.le_refl _)))⟩
    have hg : w2.grownBy W9 (some W.heap.size) := ⟨HPUT.out.os, HPUT.out.tape, HPUT.out.output, by rw [HPUT.out.size]; exact Nat.le_refl _, fun k hk hne => HPUT.out.else_ k (fun e => hne (by rw [e]))⟩
    have hk9 := kinds_gb HK.out (nostr_row HROW2.out nostr_zero) hg
    unfold newV
    rw [← HE.out, if_pos rfl]
    exact ⟨a2, n, none, 0, none, 0, by rw [HN.out]; rfl, hk9, fun h => absurd h (by simp), fun h => absurd h (by simp), by rw [HN.out]; exact Nat.le_refl _, by omega⟩
  · have t0 : (E != 0) = true := by rw [bne_iff_ne]; exact he
    go_wp2_with (refine wpList_store_rowP rfl 37 (.tmp 2) (.tmp 9) rfl (W.heap.size) #[.slice none 0 0, .slice none 0 0, .slice none 0 0] rfl rfl _ _ HROW.out (by kernel_rfl) rfl (ones3 _ _ _ rfl rfl rfl) ?_; intro W9 hput; have HPUT := Lib.hid hput; clear hput)
    refine bodyPost_ret (results_ct Try.results46 _ _ W.heap.size 37 _ (0, 0) _ rfl HPUT.out.here Try.underlying37 rfl (by kernel_rfl)) rfl ⟨⟨_, rfl, ?_⟩, HB1.out.trans ((HPUT.out.below (Nat.le_refl _)))⟩
    unfold newV
    rw [← HE.out, if_neg he]
    exact ⟨none, 0, none, 0, none, 0, rfl, fun h => absurd h (by simp), fun h => absurd h (by simp), fun h => absurd h (by simp), by simp, by simp⟩
end Go.Proofs.Ytfckbkhnelgjbaa
end
/- Layings of the kit's shelf at this translation, in plain words. -/
section
namespace Go.Proofs
open Go.Shelf
def Try.sortComps_ren : Go.Shelf.Ren := ⟨fun | 6 => 112 | 15 => 126 | 14 => 125 | 28 => 138 | 29 => 128 | 20 => 130 | 21 => 131 | 22 => 132 | 23 => 133 | 24 => 134 | 25 => 135 | 26 => 136 | 27 => 137 | 46 => 140 | 47 => 141 | 48 => 142 | 49 => 143 | 50 => 144 | 57 => 145 | n => n, fun | 22 => 25 | 24 => 95 | 25 => 172 | 3 => 3 | 39 => 40 | 0 => 0 | 53 => 195 | 55 => 46 | 4 => 4 | 46 => 189 | 45 => 188 | 50 => 52 | 5 => 5 | 9 => 9 | 66 => 197 | 70 => 201 | 76 => 203 | 77 => 62 | n => n, fun | n => n⟩
theorem Try.sortComps : Go.Proofs.SlLaysF0.n6 Try.prog Try.sortComps_ren := {
  mixed := by kernel_rfl
  f6 := ⟨Try.f112.name, by decide, Try.func112.trans (congrArg some (by kernel_rfl))⟩
  f14 := ⟨Try.f125.name, by decide, Try.func125.trans (congrArg some (by kernel_rfl))⟩
  f15 := Try.func126.trans (congrArg some (by kernel_rfl))
  f20 := ⟨Try.f130.name, by decide, Try.func130.trans (congrArg some (by kernel_rfl))⟩
  f21 := ⟨Try.f131.name, by decide, Try.func131.trans (congrArg some (by kernel_rfl))⟩
  f22 := ⟨Try.f132.name, by decide, Try.func132.trans (congrArg some (by kernel_rfl))⟩
  f23 := ⟨Try.f133.name, by decide, Try.func133.trans (congrArg some (by kernel_rfl))⟩
  f24 := ⟨Try.f134.name, by decide, Try.func134.trans (congrArg some (by kernel_rfl))⟩
  f25 := ⟨Try.f135.name, by decide, Try.func135.trans (congrArg some (by kernel_rfl))⟩
  f26 := ⟨Try.f136.name, by decide, Try.func136.trans (congrArg some (by kernel_rfl))⟩
  f27 := ⟨Try.f137.name, by decide, Try.func137.trans (congrArg some (by kernel_rfl))⟩
  f28 := Try.func138.trans (congrArg some (by kernel_rfl))
  f29 := Try.func128.trans (congrArg some (by kernel_rfl))
  f46 := ⟨Try.f140.name, by decide, Try.func140.trans (congrArg some (by kernel_rfl))⟩
  f47 := Try.func141.trans (congrArg some (by kernel_rfl))
  f48 := Try.func142.trans (congrArg some (by kernel_rfl))
  f49 := ⟨Try.f143.name, by decide, Try.func143.trans (congrArg some (by kernel_rfl))⟩
  f50 := ⟨Try.f144.name, by decide, Try.func144.trans (congrArg some (by kernel_rfl))⟩
  f57 := ⟨Try.f145.name, by decide, Try.func145.trans (congrArg some (by kernel_rfl))⟩
  t0 := Try.underlying0
  a0 := Try.isAgg0
  z0 := Try.sizeOf0
  v0 := Try.zeroValue0
  t3 := Try.underlying3
  a3 := Try.isAgg3
  z3 := Try.sizeOf3
  v3 := Try.zeroValue3
  t4 := Try.underlying4
  a4 := Try.isAgg4
  z4 := Try.sizeOf4
  v4 := Try.zeroValue4
  t5 := Try.underlying5
  a5 := Try.isAgg5
  z5 := Try.sizeOf5
  v5 := Try.zeroValue5
  t9 := Try.underlying9
  a9 := Try.isAgg9
  z9 := Try.sizeOf9
  v9 := Try.zeroValue9
  t22 := Try.underlying25
  a22 := Try.isAgg25
  z22 := Try.sizeOf25
  v22 := Try.zeroValue25
  t25 := Try.underlying172
  a25 := Try.isAgg172
  z25 := Try.sizeOf172
  v25 := Try.zeroValue172
  t39 := Try.underlying40
  a39 := Try.isAgg40
  z39 := Try.sizeOf40
  v39 := Try.zeroValue40
  t45 := Try.underlying188
  a45 := Try.isAgg188
  z45 := Try.sizeOf188
  v45 := Try.zeroValue188
  t46 := Try.underlying189
  a46 := Try.isAgg189
  z46 := Try.sizeOf189
  v46 := Try.zeroValue189
  t50 := Try.underlying52
  a50 := Try.isAgg52
  z50 := Try.sizeOf52
  v50 := Try.zeroValue52
  t53 := Try.underlying195
  a53 := Try.isAgg195
  z53 := Try.sizeOf195
  v53 := Try.zeroValue195
  t55 := Try.underlying46
  a55 := Try.isAgg46
  z55 := Try.sizeOf46
  v55 := Try.zeroValue46
  t66 := Try.underlying197
  a66 := Try.isAgg197
  z66 := Try.sizeOf197
  v66 := Try.zeroValue197
  t70 := Try.underlying201
  a70 := Try.isAgg201
  z70 := Try.sizeOf201
  v70 := Try.zeroValue201
  t76 := Try.underlying203
  a76 := Try.isAgg203
  z76 := Try.sizeOf203
  v76 := Try.zeroValue203
  t77 := Try.underlying62
  a77 := Try.isAgg62
  z77 := Try.sizeOf62
  v77 := Try.zeroValue62 }
end Go.Proofs
end
/- cmp.Compare of ints. -/
section
namespace Go.Proofs.Ytfckbkhnelgjbaa
open Go.ChangeShapes Go.WideShapes Go.ChangeAt Go.RowKit Go.Mem
set_option linter.unusedVariables false
def cmpI (x y : Int) : Int := if x < y then -1 else if y < x then 1 else 0
theorem nan_int (x : Int) (w : World) : Calls Try.prog 114 #[.int .i64 x] w fun e w' => e = .returned (.bool false) ∧ w' = w := by
  have t1 : (x != x) = false := bne_self_eq_false _
  go_enter Try.func114, Try.ntmps114
  go_wp2
  go_ret
  exact ⟨rfl, rfl⟩
theorem cmp_ints (x y : Int) (w : World) : Calls Try.prog 84 #[.int .i64 x, .int .i64 y] w fun e w' => e = .returned (.int .i64 (cmpI x y)) ∧ w' = w := by
  have N1 := Lib.hid (nan_int x w)
  have N2 := Lib.hid (nan_int y w)
  go_enter Try.func84, Try.ntmps84
  go_wp2_with fail
  refine N1.out.mono ?_
  rintro e w1 ⟨rfl, rfl⟩
  go_wp2_with fail
  refine N2.out.mono ?_
  rintro e w2 ⟨rfl, rfl⟩
  by_cases h1 : x < y
  · have HC := Lib.hid (show cmpI x y = -1 from if_pos h1)
    go_wp2
    go_ret
    exact ⟨by rw [HC.out]; rfl, rfl⟩
  · by_cases h2 : y < x
    · have HC := Lib.hid (show cmpI x y = 1 by unfold cmpI; rw [if_neg h1, if_pos h2])
      go_wp2
      go_ret
      exact ⟨by rw [HC.out]; rfl, rfl⟩
    · have HC := Lib.hid (show cmpI x y = 0 by unfold cmpI; rw [if_neg h1, if_neg h2])
      go_wp2
      go_ret
      exact ⟨by rw [HC.out]; rfl, rfl⟩
end Go.Proofs.Ytfckbkhnelgjbaa
end
/- Fields and kinds held against each other. -/
section
namespace Go.Proofs.Ytfckbkhnelgjbaa
open Go.ChangeShapes Go.WideShapes Go.ChangeAt Go.RowKit Go.Nm Go.Mem
set_option linter.unusedVariables false
def eqL {α : Type} (e : α → α → Bool) : List α → List α → Bool
  | [], [] => true
  | a :: l, b :: k => e a b && eqL e l k
  | _, _ => false
theorem eqL_len {α : Type} {e : α → α → Bool} : ∀ {l k : List α}, l.length ≠ k.length → eqL e l k = false
  | [], [], h => absurd rfl h
  | [], _ :: _, _ => rfl
  | _ :: _, [], _ => rfl
  | a :: l, b :: k, h => by
    unfold eqL
    rw [eqL_len (l := l) (k := k) (by simpa using h), Bool.and_false]
theorem eqL_ne {α : Type} {e : α → α → Bool} : ∀ {l k : List α} (i : Nat) (h1 : i < l.length) (h2 : i < k.length), e l[i] k[i] = false → eqL e l k = false
  | [], _, i, h1, _, _ => absurd h1 (by simp)
  | _ :: _, [], i, _, h2, _ => absurd h2 (by simp)
  | a :: l, b :: k, 0, _, _, h => by
    unfold eqL
    have h' : e a b = false := h
    rw [h', Bool.false_and]
  | a :: l, b :: k, i + 1, h1, h2, h => by
    unfold eqL
    rw [eqL_ne (l := l) (k := k) i (by simpa using h1) (by simpa using h2) (by simpa using h), Bool.and_false]
theorem eqL_eq {α : Type} {e : α → α → Bool} : ∀ {l k : List α}, l.length = k.length → (∀ i (h1 : i < l.length) (h2 : i < k.length), e l[i] k[i] = true) → eqL e l k = true
  | [], [], _, _ => rfl
  | [], _ :: _, h, _ => by simp at h
  | _ :: _, [], h, _ => by simp at h
  | a :: l, b :: k, h, hi => by
    unfold eqL
    have h0 : e a b = true := hi 0 (by simp) (by simp)
    rw [h0, Bool.true_and]
    exact eqL_eq (by simpa using h) (fun i h1 h2 => by have := hi (i + 1) (by simpa using h1) (by simpa using h2); simpa using this)
theorem eqL_refl {α : Type} {e : α → α → Bool} (he : ∀ a, e a a = true) (l : List α) : eqL e l l = true := eqL_eq rfl (fun i _ _ => he _)
def feqB (a b : FieldV) : Bool := a.name.toList == b.name.toList && (decide (a.bits = b.bits) && decide (a.low = b.low))
theorem feqB_refl (a : FieldV) : feqB a a = true := by unfold feqB; simp
def keqB (a b : KindV) : Bool := a.name.toList == b.name.toList && eqL feqB a.fields b.fields
theorem keqB_refl (a : KindV) : keqB a a = true := by unfold keqB; rw [eqL_refl feqB_refl]; simp
theorem fld_eqg (s s2 : ByteArray) (b l b2 l2 : Int) (w : World) : (Op.equalIn 10000 99 (.agg #[.string s, .int .i64 b, .int .i64 l]) (.agg #[.string s2, .int .i64 b2, .int .i64 l2])).run Try.prog w = .ok (s.toList == s2.toList && (decide (b = b2) && decide (l = l2))) w := by
  have u3 := Try.underlying3
  have u4 := Try.underlying9
  have a3 := Try.isAgg3
  have z3 := Try.sizeOf3
  have a4 := Try.isAgg9
  have z4 := Try.sizeOf9
  rw [show (10000 : Nat) = 9999 + 1 from rfl, Op.equalIn]
  simp only [Sem.run_bind, run_underlying Try.underlying99, Result.andThen_ok]
  go_simp
  by_cases h1 : s.toList = s2.toList <;> by_cases h2 : b = b2 <;> by_cases h3 : l = l2 <;> simp [h1, h2, h3]
theorem fld_neqg (s s2 : ByteArray) (b l b2 l2 : Int) (w : World) : (binOp .neq 99 (.agg #[.string s, .int .i64 b, .int .i64 l]) (.agg #[.string s2, .int .i64 b2, .int .i64 l2])).run Try.prog w = .ok (.bool (!(s.toList == s2.toList && (decide (b = b2) && decide (l = l2))))) w := by
  have h := fld_eqg s s2 b l b2 l2
  simp [binOp, Op.equal, Op.maxDepth, h]
theorem fld_guardg (x y : Operand) (u v : Array Value) (w : World) : (eqGuard .neq 99 x y (.agg u) (.agg v)).run Try.prog w = .ok () w := by
  have h : Try.prog.eqGuardType Try.prog.depth 99 = false := by kernel_rfl
  simp [eqGuard, h]
def F_fet (xb xo zb zo n ca cb i : Nat) (y q : FieldV) (jq : Nat) (v : Value) (w : World) : Prop :=
  match jq with
  | 0 => v = .slice (some ⟨xb, xo, none⟩) n ca
  | 1 => v = .int .i64 i
  | 2 => v = .pointer (some ⟨xb, xo + i * 3, none⟩)
  | 3 => v = .agg #[.string y.name, .int .i64 y.bits, .int .i64 y.low]
  | 4 => v = .slice (some ⟨zb, zo, none⟩) n cb
  | 5 => v = .int .i64 i
  | 6 => v = .pointer (some ⟨zb, zo + i * 3, none⟩)
  | 7 => v = .agg #[.string q.name, .int .i64 q.bits, .int .i64 q.low]
  | 8 => v = .bool false
  | _ => True
theorem F_fet_mono (xb xo zb zo n ca cb i : Nat) (y q : FieldV) : Facts (F_fet xb xo zb zo n ca cb i  y q ) := ⟨by
  intro jq v w w' h hb
  unfold F_fet at h ⊢
  split at h
  all_goals first
    | exact h
    | trivial⟩
def F_fef (xb xo zb zo n ca cb i : Nat) (y q : FieldV) (jq : Nat) (v : Value) (w : World) : Prop :=
  match jq with
  | 0 => v = .slice (some ⟨xb, xo, none⟩) n ca
  | 1 => v = .int .i64 i
  | 2 => v = .pointer (some ⟨xb, xo + i * 3, none⟩)
  | 3 => v = .agg #[.string y.name, .int .i64 y.bits, .int .i64 y.low]
  | 4 => v = .slice (some ⟨zb, zo, none⟩) n cb
  | 5 => v = .int .i64 i
  | 6 => v = .pointer (some ⟨zb, zo + i * 3, none⟩)
  | 7 => v = .agg #[.string q.name, .int .i64 q.bits, .int .i64 q.low]
  | 8 => v = .bool true
  | _ => True
theorem F_fef_mono (xb xo zb zo n ca cb i : Nat) (y q : FieldV) : Facts (F_fef xb xo zb zo n ca cb i  y q ) := ⟨by
  intro jq v w w' h hb
  unfold F_fef at h ⊢
  split at h
  all_goals first
    | exact h
    | trivial⟩

end Go.Proofs.Ytfckbkhnelgjbaa
end
/- kind.Same: two lists of kinds held against each other. -/
section
namespace Go.Proofs.Ytfckbkhnelgjbaa
open Go.ChangeShapes Go.WideShapes Go.ChangeAt Go.RowKit Go.Nm Go.Mem
set_option linter.unusedVariables false
theorem str_neqg (s s2 : ByteArray) (w : World) : (binOp .neq 9 (.string s) (.string s2)).run Try.prog w = .ok (.bool (!(s.toList == s2.toList))) w := by
  simp [binOp, Op.stringOp]
theorem str_guardg (x y : Operand) (u v : ByteArray) (w : World) : (eqGuard .neq 9 x y (.string u) (.string v)).run Try.prog w = .ok () w := by
  simp [eqGuard]
theorem list26 {α : Type} {vs : List α} (h : vs.length = 26) : ∃ x0 x1 x2 x3 x4 x5 x6 x7 x8 x9 x10 x11 x12 x13 x14 x15 x16 x17 x18 x19 x20 x21 x22 x23 x24 x25, vs = [x0, x1, x2, x3, x4, x5, x6, x7, x8, x9, x10, x11, x12, x13, x14, x15, x16, x17, x18, x19, x20, x21, x22, x23, x24, x25] := by
  obtain ⟨x0, t0, rfl, h0⟩ := cons_of h
  obtain ⟨x1, t1, rfl, h1⟩ := cons_of h0
  obtain ⟨x2, t2, rfl, h2⟩ := cons_of h1
  obtain ⟨x3, t3, rfl, h3⟩ := cons_of h2
  obtain ⟨x4, t4, rfl, h4⟩ := cons_of h3
  obtain ⟨x5, t5, rfl, h5⟩ := cons_of h4
  obtain ⟨x6, t6, rfl, h6⟩ := cons_of h5
  obtain ⟨x7, t7, rfl, h7⟩ := cons_of h6
  obtain ⟨x8, t8, rfl, h8⟩ := cons_of h7
  obtain ⟨x9, t9, rfl, h9⟩ := cons_of h8
  obtain ⟨x10, t10, rfl, h10⟩ := cons_of h9
  obtain ⟨x11, t11, rfl, h11⟩ := cons_of h10
  obtain ⟨x12, t12, rfl, h12⟩ := cons_of h11
  obtain ⟨x13, t13, rfl, h13⟩ := cons_of h12
  obtain ⟨x14, t14, rfl, h14⟩ := cons_of h13
  obtain ⟨x15, t15, rfl, h15⟩ := cons_of h14
  obtain ⟨x16, t16, rfl, h16⟩ := cons_of h15
  obtain ⟨x17, t17, rfl, h17⟩ := cons_of h16
  obtain ⟨x18, t18, rfl, h18⟩ := cons_of h17
  obtain ⟨x19, t19, rfl, h19⟩ := cons_of h18
  obtain ⟨x20, t20, rfl, h20⟩ := cons_of h19
  obtain ⟨x21, t21, rfl, h21⟩ := cons_of h20
  obtain ⟨x22, t22, rfl, h22⟩ := cons_of h21
  obtain ⟨x23, t23, rfl, h23⟩ := cons_of h22
  obtain ⟨x24, t24, rfl, h24⟩ := cons_of h23
  obtain ⟨x25, t25, rfl, h25⟩ := cons_of h24
  exact ⟨x0, x1, x2, x3, x4, x5, x6, x7, x8, x9, x10, x11, x12, x13, x14, x15, x16, x17, x18, x19, x20, x21, x22, x23, x24, x25, by rw [List.eq_nil_of_length_eq_zero h25]⟩
def F_ksa (xb xo zb zo n ca cb i : Nat) (sy sq : ByteArray) (af ag : Option Addr) (nf ng cf cg : Nat) (jq : Nat) (v : Value) (w : World) : Prop :=
  match jq with
  | 0 => v = .slice (some ⟨xb, xo, none⟩) n ca
  | 1 => v = .int .i64 i
  | 2 => v = .pointer (some ⟨xb, xo + i * 2, none⟩)
  | 3 => v = .pointer (some ⟨xb, xo + i * 2, none⟩)
  | 4 => v = .string sy
  | 5 => v = .slice (some ⟨zb, zo, none⟩) n cb
  | 6 => v = .int .i64 i
  | 7 => v = .pointer (some ⟨zb, zo + i * 2, none⟩)
  | 8 => v = .pointer (some ⟨zb, zo + i * 2, none⟩)
  | 9 => v = .string sq
  | 10 => v = .bool true
  | 11 => v = .bool true
  | 12 => v = undef
  | 13 => v = undef
  | 14 => v = undef
  | 15 => v = undef
  | 16 => v = undef
  | 17 => v = undef
  | 18 => v = undef
  | 19 => v = undef
  | 20 => v = undef
  | 21 => v = undef
  | 22 => v = undef
  | 23 => v = undef
  | 24 => v = undef
  | 25 => v = .bool true
  | _ => True
theorem F_ksa_mono (xb xo zb zo n ca cb i : Nat) (sy sq : ByteArray) (af ag : Option Addr) (nf ng cf cg : Nat) : Facts (F_ksa xb xo zb zo n ca cb i  sy sq  af ag  nf ng cf cg ) := ⟨by
  intro jq v w w' h hb
  unfold F_ksa at h ⊢
  split at h
  all_goals first
    | exact h
    | trivial⟩
def F_ksb (xb xo zb zo n ca cb i : Nat) (sy sq : ByteArray) (af ag : Option Addr) (nf ng cf cg : Nat) (jq : Nat) (v : Value) (w : World) : Prop :=
  match jq with
  | 0 => v = .slice (some ⟨xb, xo, none⟩) n ca
  | 1 => v = .int .i64 i
  | 2 => v = .pointer (some ⟨xb, xo + i * 2, none⟩)
  | 3 => v = .pointer (some ⟨xb, xo + i * 2, none⟩)
  | 4 => v = .string sy
  | 5 => v = .slice (some ⟨zb, zo, none⟩) n cb
  | 6 => v = .int .i64 i
  | 7 => v = .pointer (some ⟨zb, zo + i * 2, none⟩)
  | 8 => v = .pointer (some ⟨zb, zo + i * 2, none⟩)
  | 9 => v = .string sq
  | 10 => v = .bool false
  | 11 => v = .bool false
  | 12 => v = .slice (some ⟨xb, xo, none⟩) n ca
  | 13 => v = .int .i64 i
  | 14 => v = .pointer (some ⟨xb, xo + i * 2, none⟩)
  | 15 => v = .pointer (some ⟨xb, xo + i * 2 + 1, none⟩)
  | 16 => v = .slice af nf cf
  | 17 => v = .int .i64 (nf : Int)
  | 18 => v = .slice (some ⟨zb, zo, none⟩) n cb
  | 19 => v = .int .i64 i
  | 20 => v = .pointer (some ⟨zb, zo + i * 2, none⟩)
  | 21 => v = .pointer (some ⟨zb, zo + i * 2 + 1, none⟩)
  | 22 => v = .slice ag ng cg
  | 23 => v = .int .i64 (ng : Int)
  | 24 => v = .bool true
  | 25 => v = .bool true
  | _ => True
theorem F_ksb_mono (xb xo zb zo n ca cb i : Nat) (sy sq : ByteArray) (af ag : Option Addr) (nf ng cf cg : Nat) : Facts (F_ksb xb xo zb zo n ca cb i  sy sq  af ag  nf ng cf cg ) := ⟨by
  intro jq v w w' h hb
  unfold F_ksb at h ⊢
  split at h
  all_goals first
    | exact h
    | trivial⟩
def F_ksc (xb xo zb zo n ca cb i : Nat) (sy sq : ByteArray) (af ag : Option Addr) (nf cf cg : Nat) (jq : Nat) (v : Value) (w : World) : Prop :=
  match jq with
  | 0 => v = .slice (some ⟨xb, xo, none⟩) n ca
  | 1 => v = .int .i64 i
  | 2 => v = .pointer (some ⟨xb, xo + i * 2, none⟩)
  | 3 => v = .pointer (some ⟨xb, xo + i * 2, none⟩)
  | 4 => v = .string sy
  | 5 => v = .slice (some ⟨zb, zo, none⟩) n cb
  | 6 => v = .int .i64 i
  | 7 => v = .pointer (some ⟨zb, zo + i * 2, none⟩)
  | 8 => v = .pointer (some ⟨zb, zo + i * 2, none⟩)
  | 9 => v = .string sq
  | 10 => v = .bool false
  | 11 => v = .bool false
  | 12 => v = .slice (some ⟨xb, xo, none⟩) n ca
  | 13 => v = .int .i64 i
  | 14 => v = .pointer (some ⟨xb, xo + i * 2, none⟩)
  | 15 => v = .pointer (some ⟨xb, xo + i * 2 + 1, none⟩)
  | 16 => v = .slice af nf cf
  | 17 => v = .int .i64 (nf : Int)
  | 18 => v = .slice (some ⟨zb, zo, none⟩) n cb
  | 19 => v = .int .i64 i
  | 20 => v = .pointer (some ⟨zb, zo + i * 2, none⟩)
  | 21 => v = .pointer (some ⟨zb, zo + i * 2 + 1, none⟩)
  | 22 => v = .slice ag nf cg
  | 23 => v = .int .i64 (nf : Int)
  | 24 => v = .bool false
  | 25 => v = .bool false
  | _ => True
theorem F_ksc_mono (xb xo zb zo n ca cb i : Nat) (sy sq : ByteArray) (af ag : Option Addr) (nf cf cg : Nat) : Facts (F_ksc xb xo zb zo n ca cb i  sy sq  af ag  nf cf cg ) := ⟨by
  intro jq v w w' h hb
  unfold F_ksc at h ⊢
  split at h
  all_goals first
    | exact h
    | trivial⟩
def F_ktt (xb xo zb zo n ca cb i u fb fo gb go nf cf cg : Nat) (p r : FieldV) (jq : Nat) (v : Value) (w : World) : Prop :=
  match jq with
  | 0 => v = .slice (some ⟨xb, xo, none⟩) n ca
  | 1 => v = .int .i64 i
  | 2 => v = .pointer (some ⟨xb, xo + i * 2, none⟩)
  | 3 => v = .pointer (some ⟨xb, xo + i * 2 + 1, none⟩)
  | 4 => v = .slice (some ⟨fb, fo, none⟩) nf cf
  | 5 => v = .int .i64 u
  | 6 => v = .pointer (some ⟨fb, fo + u * 3, none⟩)
  | 7 => v = .agg #[.string p.name, .int .i64 p.bits, .int .i64 p.low]
  | 8 => v = .slice (some ⟨zb, zo, none⟩) n cb
  | 9 => v = .int .i64 i
  | 10 => v = .pointer (some ⟨zb, zo + i * 2, none⟩)
  | 11 => v = .pointer (some ⟨zb, zo + i * 2 + 1, none⟩)
  | 12 => v = .slice (some ⟨gb, go, none⟩) nf cg
  | 13 => v = .int .i64 u
  | 14 => v = .pointer (some ⟨gb, go + u * 3, none⟩)
  | 15 => v = .agg #[.string r.name, .int .i64 r.bits, .int .i64 r.low]
  | 16 => v = .bool false
  | _ => True
theorem F_ktt_mono (xb xo zb zo n ca cb i u fb fo gb go nf cf cg : Nat) (p r : FieldV) : Facts (F_ktt xb xo zb zo n ca cb i u fb fo gb go nf cf cg  p r ) := ⟨by
  intro jq v w w' h hb
  unfold F_ktt at h ⊢
  split at h
  all_goals first
    | exact h
    | trivial⟩
def F_ktf (xb xo zb zo n ca cb i u fb fo gb go nf cf cg : Nat) (p r : FieldV) (jq : Nat) (v : Value) (w : World) : Prop :=
  match jq with
  | 0 => v = .slice (some ⟨xb, xo, none⟩) n ca
  | 1 => v = .int .i64 i
  | 2 => v = .pointer (some ⟨xb, xo + i * 2, none⟩)
  | 3 => v = .pointer (some ⟨xb, xo + i * 2 + 1, none⟩)
  | 4 => v = .slice (some ⟨fb, fo, none⟩) nf cf
  | 5 => v = .int .i64 u
  | 6 => v = .pointer (some ⟨fb, fo + u * 3, none⟩)
  | 7 => v = .agg #[.string p.name, .int .i64 p.bits, .int .i64 p.low]
  | 8 => v = .slice (some ⟨zb, zo, none⟩) n cb
  | 9 => v = .int .i64 i
  | 10 => v = .pointer (some ⟨zb, zo + i * 2, none⟩)
  | 11 => v = .pointer (some ⟨zb, zo + i * 2 + 1, none⟩)
  | 12 => v = .slice (some ⟨gb, go, none⟩) nf cg
  | 13 => v = .int .i64 u
  | 14 => v = .pointer (some ⟨gb, go + u * 3, none⟩)
  | 15 => v = .agg #[.string r.name, .int .i64 r.bits, .int .i64 r.low]
  | 16 => v = .bool true
  | _ => True
theorem F_ktf_mono (xb xo zb zo n ca cb i u fb fo gb go nf cf cg : Nat) (p r : FieldV) : Facts (F_ktf xb xo zb zo n ca cb i u fb fo gb go nf cf cg  p r ) := ⟨by
  intro jq v w w' h hb
  unfold F_ktf at h ⊢
  split at h
  all_goals first
    | exact h
    | trivial⟩

theorem list17 {α : Type} {vs : List α} (h : vs.length = 17) : ∃ x0 x1 x2 x3 x4 x5 x6 x7 x8 x9 x10 x11 x12 x13 x14 x15 x16, vs = [x0, x1, x2, x3, x4, x5, x6, x7, x8, x9, x10, x11, x12, x13, x14, x15, x16] := by
  obtain ⟨x0, t0, rfl, h0⟩ := cons_of h
  obtain ⟨x1, t1, rfl, h1⟩ := cons_of h0
  obtain ⟨x2, t2, rfl, h2⟩ := cons_of h1
  obtain ⟨x3, t3, rfl, h3⟩ := cons_of h2
  obtain ⟨x4, t4, rfl, h4⟩ := cons_of h3
  obtain ⟨x5, t5, rfl, h5⟩ := cons_of h4
  obtain ⟨x6, t6, rfl, h6⟩ := cons_of h5
  obtain ⟨x7, t7, rfl, h7⟩ := cons_of h6
  obtain ⟨x8, t8, rfl, h8⟩ := cons_of h7
  obtain ⟨x9, t9, rfl, h9⟩ := cons_of h8
  obtain ⟨x10, t10, rfl, h10⟩ := cons_of h9
  obtain ⟨x11, t11, rfl, h11⟩ := cons_of h10
  obtain ⟨x12, t12, rfl, h12⟩ := cons_of h11
  obtain ⟨x13, t13, rfl, h13⟩ := cons_of h12
  obtain ⟨x14, t14, rfl, h14⟩ := cons_of h13
  obtain ⟨x15, t15, rfl, h15⟩ := cons_of h14
  obtain ⟨x16, t16, rfl, h16⟩ := cons_of h15
  exact ⟨x0, x1, x2, x3, x4, x5, x6, x7, x8, x9, x10, x11, x12, x13, x14, x15, x16, by rw [List.eq_nil_of_length_eq_zero h16]⟩
set_option maxHeartbeats 8000000 in
theorem kind_Sameg (l k : List KindV) (a b : Option Addr) (n m ca cb : Nat) (hn : l.length = n) (hm : k.length = m) (h1 : n ≤ 1048576) (h2 : m ≤ 1048576) (W : World) (hz : SlAt 2 KindAt W a l) (hy : SlAt 2 KindAt W b k) :
    Calls Try.prog 71 #[.slice a n ca, .slice b m cb] W fun e w' => e = .returned (.bool (eqL keqB l k)) ∧ Below W.heap.size W w' := by
  obtain ⟨R, hR⟩ : ∃ R, R = eqL keqB l k := ⟨_, rfl⟩
  rw [← hR]
  have HR := Lib.hid hR
  have HN := Lib.hid hn
  have HM := Lib.hid hm
  have HZ := Lib.hid hz
  have HY := Lib.hid hy
  clear hR hn hm hz hy
  by_cases hnm : n = m
  · subst hnm
    have t0 : ((n : Int) != (n : Int)) = false := by simp
    go_enter Try.func71, Try.ntmps71
    go_wp2_with fail
    go_loopg [5, 6, 14] n (fun gk v5 v6 vi wx => ∃ i : Nat, i ≤ n ∧ gk = n - i ∧ vi = .int .i64 i ∧ (∀ j (h : j < n), j < i → keqB (l[j]'(by rw [HN.out]; exact h)) (k[j]'(by rw [HM.out]; exact h)) = true) ∧ Below W.heap.size W wx)
    case atStart => exact ⟨0, Nat.zero_le _, rfl, rfl, fun j h h2 => absurd h2 (by omega), Below.refl _ _⟩
    case round =>
      obtain ⟨i, hi, g2, rfl, hat, hb⟩ := hrel
      have G2 := Lib.hid g2
      have HAT := Lib.hid hat
      have HB := Lib.hid hb
      have hbs := hb.size
      clear g2 hat hb
      obtain ⟨Wo, rfl⟩ : ∃ Wo : World, Wo = wr := ⟨_, rfl⟩
      by_cases hlt : i < n
      · obtain ⟨x, rfl, _, _⟩ := HZ.out (by rw [HN.out]; omega)
        obtain ⟨z, rfl, _, _⟩ := HY.out (by rw [HM.out]; omega)
        obtain ⟨xb, xo, rfl, af, cf, hcx, xs, xl1, xl2, xfl⟩ := kind_cells (HZ.out.below KindAt.abides HB.out) i (by rw [HN.out]; exact hlt)
        obtain ⟨zb, zo, rfl, ag, cg, hcz, zs, zl1, zl2, zfl⟩ := kind_cells (HY.out.below KindAt.abides HB.out) i (by rw [HM.out]; exact hlt)
        obtain ⟨y, hy⟩ : ∃ y, y = l[i]'(by rw [HN.out]; exact hlt) := ⟨_, rfl⟩
        obtain ⟨q, hq⟩ : ∃ q, q = k[i]'(by rw [HM.out]; exact hlt) := ⟨_, rfl⟩
        rw [← hy] at hcx xfl xl1
        rw [← hq] at hcz zfl zl1
        have HYD := Lib.hid hy
        have HQD := Lib.hid hq
        obtain ⟨nf, hnf⟩ : ∃ nf, nf = y.fields.length := ⟨_, rfl⟩
        obtain ⟨ng, hng⟩ : ∃ ng, ng = q.fields.length := ⟨_, rfl⟩
        obtain ⟨sy, hsy⟩ : ∃ sy, sy = y.name := ⟨_, rfl⟩
        obtain ⟨sq, hsq⟩ : ∃ sq, sq = q.name := ⟨_, rfl⟩
        rw [← hnf, ← hsy] at hcx
        rw [← hng, ← hsq] at hcz
        rw [← hnf] at xl1
        rw [← hng] at zl1
        have hx0 : Wo.cell? ⟨xb, xo + i * 2, none⟩ = some (.string sy) := hcx.at 0 (by simp)
        have hx1 : Wo.cell? ⟨xb, xo + i * 2 + 1, none⟩ = some (.slice af nf cf) := hcx.at 1 (by simp)
        have hz0 : Wo.cell? ⟨zb, zo + i * 2, none⟩ = some (.string sq) := hcz.at 0 (by simp)
        have hz1 : Wo.cell? ⟨zb, zo + i * 2 + 1, none⟩ = some (.slice ag ng cg) := hcz.at 1 (by simp)
        have X0 := Lib.hid hx0
        have X1 := Lib.hid hx1
        have Z0 := Lib.hid hz0
        have Z1 := Lib.hid hz1
        have XF := Lib.hid xfl
        have ZF := Lib.hid zfl
        have HNF := Lib.hid hnf
        have HNG := Lib.hid hng
        have HSY := Lib.hid hsy
        have HSQ := Lib.hid hsq
        clear hcx hcz hy hq xfl zfl hnf hng hsy hsq hx0 hx1 hz0 hz1 xs zs
        cases hS : (sy.toList == sq.toList) with
        | false =>
          have HS := Lib.hid hS
          have HF := Lib.hid (show R = false by rw [HR.out]; exact eqL_ne i (by rw [HN.out]; exact hlt) (by rw [HM.out]; exact hlt) (by rw [← HYD.out, ← HQD.out]; unfold keqB; rw [← HSY.out, ← HSQ.out, hS, Bool.false_and]))
          clear hS
          go_wp2
          refine wp_region_facts_t rfl 26 (by kernel_rfl) (F_ksa xb xo zb zo n ca cb i sy sq af ag nf ng cf cg) (F_ksa_mono xb xo zb zo n ca cb i sy sq af ag nf ng cf cg) ?_ ?_
          · refine ⟨?_, ?_, ?_, ?_, ?_, ?_, ?_, ?_, ?_, ?_, ?_, ?_, ?_, ?_, ?_, ?_, ?_, ?_, ?_, ?_, ?_, ?_, ?_, ?_, ?_, ?_, trivial⟩
            · intro vs w' F hb hd hF hl hT
              have e := (hF 0).trans (look_out _ 0 _ _ (by kernel_rfl))
              exact one_move _ rfl (by first | exact Or.inl rfl | exact Or.inr rfl) ⟨_, rfl, Below.refl _ _, e⟩
            · intro vs w' F hb hd hF hl hT
              have e := (hF 5).trans (look_out _ 5 _ _ (by kernel_rfl))
              exact one_move _ rfl (by first | exact Or.inl rfl | exact Or.inr rfl) ⟨_, rfl, Below.refl _ _, e⟩
            · intro vs w' F hb hd hF hl hT
              have ex := ((hF 17).trans (look_at _ 17 0 _ _ (by kernel_rfl) (by kernel_rfl) hl)).trans (dep_of (Fact := F_ksa xb xo zb zo n ca cb i sy sq af ag nf ng cf cg) hd 0 (by kernel_rfl))
              have ey := ((hF 18).trans (look_at _ 18 1 _ _ (by kernel_rfl) (by kernel_rfl) hl)).trans (dep_of (Fact := F_ksa xb xo zb zo n ca cb i sy sq af ag nf ng cf cg) hd 1 (by kernel_rfl))
              exact one_index 33 _ _ rfl rfl (.slice (some ⟨xb, xo, none⟩) n ca) (.int .i64 i) (.pointer (some ⟨xb, xo + i * 2, none⟩)) ex ey (fun w => rg_idx Try.underlying33 (show (Try.prog.info? 102).map (·.size) = some 2 by kernel_rfl) (xb) (xo) (n) (ca) (i) (by omega) w) ⟨_, rfl, Below.refl _ _, rfl⟩
            · intro vs w' F hb hd hF hl hT
              have e := ((hF 19).trans (look_at _ 19 2 _ _ (by kernel_rfl) (by kernel_rfl) hl)).trans (dep_of (Fact := F_ksa xb xo zb zo n ca cb i sy sq af ag nf ng cf cg) hd 2 (by kernel_rfl))
              exact one_field _ _ _ rfl rfl _ _ e (xo + i * 2) (fun w => by kernel_rfl) ⟨_, rfl, Below.refl _ _, rfl⟩
            · intro vs w' F hb hd hF hl hT
              have e := ((hF 20).trans (look_at _ 20 3 _ _ (by kernel_rfl) (by kernel_rfl) hl)).trans (dep_of (Fact := F_ksa xb xo zb zo n ca cb i sy sq af ag nf ng cf cg) hd 3 (by kernel_rfl))
              exact one_load _ _ rfl rfl _ _ e (cell_abides X0.out hb) (by kernel_rfl) ⟨_, rfl, Below.refl _ _, rfl⟩
            · intro vs w' F hb hd hF hl hT
              have e := (hF 1).trans (look_out _ 1 _ _ (by kernel_rfl))
              exact one_move _ rfl (by first | exact Or.inl rfl | exact Or.inr rfl) ⟨_, rfl, Below.refl _ _, e⟩
            · intro vs w' F hb hd hF hl hT
              have e := (hF 5).trans (look_out _ 5 _ _ (by kernel_rfl))
              exact one_move _ rfl (by first | exact Or.inl rfl | exact Or.inr rfl) ⟨_, rfl, Below.refl _ _, e⟩
            · intro vs w' F hb hd hF hl hT
              have ex := ((hF 22).trans (look_at _ 22 5 _ _ (by kernel_rfl) (by kernel_rfl) hl)).trans (dep_of (Fact := F_ksa xb xo zb zo n ca cb i sy sq af ag nf ng cf cg) hd 5 (by kernel_rfl))
              have ey := ((hF 23).trans (look_at _ 23 6 _ _ (by kernel_rfl) (by kernel_rfl) hl)).trans (dep_of (Fact := F_ksa xb xo zb zo n ca cb i sy sq af ag nf ng cf cg) hd 6 (by kernel_rfl))
              exact one_index 33 _ _ rfl rfl (.slice (some ⟨zb, zo, none⟩) n cb) (.int .i64 i) (.pointer (some ⟨zb, zo + i * 2, none⟩)) ex ey (fun w => rg_idx Try.underlying33 (show (Try.prog.info? 102).map (·.size) = some 2 by kernel_rfl) (zb) (zo) (n) (cb) (i) (by omega) w) ⟨_, rfl, Below.refl _ _, rfl⟩
            · intro vs w' F hb hd hF hl hT
              have e := ((hF 24).trans (look_at _ 24 7 _ _ (by kernel_rfl) (by kernel_rfl) hl)).trans (dep_of (Fact := F_ksa xb xo zb zo n ca cb i sy sq af ag nf ng cf cg) hd 7 (by kernel_rfl))
              exact one_field _ _ _ rfl rfl _ _ e (zo + i * 2) (fun w => by kernel_rfl) ⟨_, rfl, Below.refl _ _, rfl⟩
            · intro vs w' F hb hd hF hl hT
              have e := ((hF 25).trans (look_at _ 25 8 _ _ (by kernel_rfl) (by kernel_rfl) hl)).trans (dep_of (Fact := F_ksa xb xo zb zo n ca cb i sy sq af ag nf ng cf cg) hd 8 (by kernel_rfl))
              exact one_load _ _ rfl rfl _ _ e (cell_abides Z0.out hb) (by kernel_rfl) ⟨_, rfl, Below.refl _ _, rfl⟩
            · intro vs w' F hb hd hF hl hT
              have ex := (((hF 21).trans (look_at _ 21 4 _ _ (by kernel_rfl) (by kernel_rfl) hl)).trans (dep_of (Fact := F_ksa xb xo zb zo n ca cb i sy sq af ag nf ng cf cg) hd 4 (by kernel_rfl)))
              have ey := (((hF 26).trans (look_at _ 26 9 _ _ (by kernel_rfl) (by kernel_rfl) hl)).trans (dep_of (Fact := F_ksa xb xo zb zo n ca cb i sy sq af ag nf ng cf cg) hd 9 (by kernel_rfl)))
              have hr := str_neqg sy sq w'
              rw [HS.out] at hr
              exact one_binop _ 9 _ _ _ rfl rfl _ _ ex ey (.bool true) (str_guardg _ _ _ _ w') hr ⟨_, rfl, Below.refl _ _, rfl⟩
            · intro vs w' F hb hd hF hl hT
              have e := ((hF 27).trans (look_at _ 27 10 _ _ (by kernel_rfl) (by kernel_rfl) hl)).trans (dep_of (Fact := F_ksa xb xo zb zo n ca cb i sy sq af ag nf ng cf cg) hd 10 (by kernel_rfl))
              exact one_move _ rfl (by first | exact Or.inl rfl | exact Or.inr rfl) ⟨_, rfl, Below.refl _ _, e⟩
            · intro vs w' F hb hd hF hl hT
              have eg := ((hF 28).trans (look_at _ 28 11 _ _ (by kernel_rfl) (by kernel_rfl) hl)).trans (dep_of (Fact := F_ksa xb xo zb zo n ca cb i sy sq af ag nf ng cf cg) hd 11 (by kernel_rfl))
              exact wpList_off rfl (t := 28) (d := true) (by kernel_rfl) eg (by decide) ⟨_, rfl, Below.refl _ _, rfl⟩
            · intro vs w' F hb hd hF hl hT
              have eg := ((hF 28).trans (look_at _ 28 11 _ _ (by kernel_rfl) (by kernel_rfl) hl)).trans (dep_of (Fact := F_ksa xb xo zb zo n ca cb i sy sq af ag nf ng cf cg) hd 11 (by kernel_rfl))
              exact wpList_off rfl (t := 28) (d := true) (by kernel_rfl) eg (by decide) ⟨_, rfl, Below.refl _ _, rfl⟩
            · intro vs w' F hb hd hF hl hT
              have eg := ((hF 28).trans (look_at _ 28 11 _ _ (by kernel_rfl) (by kernel_rfl) hl)).trans (dep_of (Fact := F_ksa xb xo zb zo n ca cb i sy sq af ag nf ng cf cg) hd 11 (by kernel_rfl))
              exact wpList_off rfl (t := 28) (d := true) (by kernel_rfl) eg (by decide) ⟨_, rfl, Below.refl _ _, rfl⟩
            · intro vs w' F hb hd hF hl hT
              have eg := ((hF 28).trans (look_at _ 28 11 _ _ (by kernel_rfl) (by kernel_rfl) hl)).trans (dep_of (Fact := F_ksa xb xo zb zo n ca cb i sy sq af ag nf ng cf cg) hd 11 (by kernel_rfl))
              exact wpList_off rfl (t := 28) (d := true) (by kernel_rfl) eg (by decide) ⟨_, rfl, Below.refl _ _, rfl⟩
            · intro vs w' F hb hd hF hl hT
              have eg := ((hF 28).trans (look_at _ 28 11 _ _ (by kernel_rfl) (by kernel_rfl) hl)).trans (dep_of (Fact := F_ksa xb xo zb zo n ca cb i sy sq af ag nf ng cf cg) hd 11 (by kernel_rfl))
              exact wpList_off rfl (t := 28) (d := true) (by kernel_rfl) eg (by decide) ⟨_, rfl, Below.refl _ _, rfl⟩
            · intro vs w' F hb hd hF hl hT
              have eg := ((hF 28).trans (look_at _ 28 11 _ _ (by kernel_rfl) (by kernel_rfl) hl)).trans (dep_of (Fact := F_ksa xb xo zb zo n ca cb i sy sq af ag nf ng cf cg) hd 11 (by kernel_rfl))
              exact wpList_off rfl (t := 28) (d := true) (by kernel_rfl) eg (by decide) ⟨_, rfl, Below.refl _ _, rfl⟩
            · intro vs w' F hb hd hF hl hT
              have eg := ((hF 28).trans (look_at _ 28 11 _ _ (by kernel_rfl) (by kernel_rfl) hl)).trans (dep_of (Fact := F_ksa xb xo zb zo n ca cb i sy sq af ag nf ng cf cg) hd 11 (by kernel_rfl))
              exact wpList_off rfl (t := 28) (d := true) (by kernel_rfl) eg (by decide) ⟨_, rfl, Below.refl _ _, rfl⟩
            · intro vs w' F hb hd hF hl hT
              have eg := ((hF 28).trans (look_at _ 28 11 _ _ (by kernel_rfl) (by kernel_rfl) hl)).trans (dep_of (Fact := F_ksa xb xo zb zo n ca cb i sy sq af ag nf ng cf cg) hd 11 (by kernel_rfl))
              exact wpList_off rfl (t := 28) (d := true) (by kernel_rfl) eg (by decide) ⟨_, rfl, Below.refl _ _, rfl⟩
            · intro vs w' F hb hd hF hl hT
              have eg := ((hF 28).trans (look_at _ 28 11 _ _ (by kernel_rfl) (by kernel_rfl) hl)).trans (dep_of (Fact := F_ksa xb xo zb zo n ca cb i sy sq af ag nf ng cf cg) hd 11 (by kernel_rfl))
              exact wpList_off rfl (t := 28) (d := true) (by kernel_rfl) eg (by decide) ⟨_, rfl, Below.refl _ _, rfl⟩
            · intro vs w' F hb hd hF hl hT
              have eg := ((hF 28).trans (look_at _ 28 11 _ _ (by kernel_rfl) (by kernel_rfl) hl)).trans (dep_of (Fact := F_ksa xb xo zb zo n ca cb i sy sq af ag nf ng cf cg) hd 11 (by kernel_rfl))
              exact wpList_off rfl (t := 28) (d := true) (by kernel_rfl) eg (by decide) ⟨_, rfl, Below.refl _ _, rfl⟩
            · intro vs w' F hb hd hF hl hT
              have eg := ((hF 28).trans (look_at _ 28 11 _ _ (by kernel_rfl) (by kernel_rfl) hl)).trans (dep_of (Fact := F_ksa xb xo zb zo n ca cb i sy sq af ag nf ng cf cg) hd 11 (by kernel_rfl))
              exact wpList_off rfl (t := 28) (d := true) (by kernel_rfl) eg (by decide) ⟨_, rfl, Below.refl _ _, rfl⟩
            · intro vs w' F hb hd hF hl hT
              have eg := ((hF 28).trans (look_at _ 28 11 _ _ (by kernel_rfl) (by kernel_rfl) hl)).trans (dep_of (Fact := F_ksa xb xo zb zo n ca cb i sy sq af ag nf ng cf cg) hd 11 (by kernel_rfl))
              exact wpList_off rfl (t := 28) (d := true) (by kernel_rfl) eg (by decide) ⟨_, rfl, Below.refl _ _, rfl⟩
            · intro vs w' F hb hd hF hl hT
              have eg := ((hF 28).trans (look_at _ 28 11 _ _ (by kernel_rfl) (by kernel_rfl) hl)).trans (dep_of (Fact := F_ksa xb xo zb zo n ca cb i sy sq af ag nf ng cf cg) hd 11 (by kernel_rfl))
              exact wpList_off rfl (t := 28) (d := true) (by kernel_rfl) eg (by decide) ⟨_, rfl, Below.refl _ _, rfl⟩
            · intro vs w' F hb hd hF hl hT
              have ec := ((hF 28).trans (look_at _ 28 11 _ _ (by kernel_rfl) (by kernel_rfl) hl)).trans (dep_of (Fact := F_ksa xb xo zb zo n ca cb i sy sq af ag nf ng cf cg) hd 11 (by kernel_rfl))
              exact one_pick_t _ _ _ rfl rfl _ ec rfl ⟨_, rfl, Below.refl _ _, rfl⟩
          · intro vs8 W8 hl hb hI
            have hv : vs8.getD 25 undef = .bool true := hI 25 (by omega)
            obtain ⟨x0, x1, x2, x3, x4, x5, x6, x7, x8, x9, x10, x11, x12, x13, x14, x15, x16, x17, x18, x19, x20, x21, x22, x23, x24, x25, hvs⟩ := list26 hl
            subst hvs
            replace hv : x25 = .bool true := hv
            subst hv
            clear hI hl
            simp only [fillAll, Act.put, List.setIfInBounds_toArray, List.set_cons_succ, List.set_cons_zero]
            show wpList _ _ _ [] _ _
            have HB8 := bt HB.out hb
            clear hb
            go_wp2
            go_ret
            exact ⟨by rw [HF.out]; rfl, HB8⟩
        | true =>
          have HS := Lib.hid hS
          clear hS
          by_cases hfg : nf = ng
          · subst hfg
            go_wp2
            refine wp_region_facts_t rfl 26 (by kernel_rfl) (F_ksc xb xo zb zo n ca cb i sy sq af ag nf cf cg) (F_ksc_mono xb xo zb zo n ca cb i sy sq af ag nf cf cg) ?_ ?_
            · refine ⟨?_, ?_, ?_, ?_, ?_, ?_, ?_, ?_, ?_, ?_, ?_, ?_, ?_, ?_, ?_, ?_, ?_, ?_, ?_, ?_, ?_, ?_, ?_, ?_, ?_, ?_, trivial⟩
              · intro vs w' F hb hd hF hl hT
                have e := (hF 0).trans (look_out _ 0 _ _ (by kernel_rfl))
                exact one_move _ rfl (by first | exact Or.inl rfl | exact Or.inr rfl) ⟨_, rfl, Below.refl _ _, e⟩
              · intro vs w' F hb hd hF hl hT
                have e := (hF 5).trans (look_out _ 5 _ _ (by kernel_rfl))
                exact one_move _ rfl (by first | exact Or.inl rfl | exact Or.inr rfl) ⟨_, rfl, Below.refl _ _, e⟩
              · intro vs w' F hb hd hF hl hT
                have ex := ((hF 17).trans (look_at _ 17 0 _ _ (by kernel_rfl) (by kernel_rfl) hl)).trans (dep_of (Fact := F_ksc xb xo zb zo n ca cb i sy sq af ag nf cf cg) hd 0 (by kernel_rfl))
                have ey := ((hF 18).trans (look_at _ 18 1 _ _ (by kernel_rfl) (by kernel_rfl) hl)).trans (dep_of (Fact := F_ksc xb xo zb zo n ca cb i sy sq af ag nf cf cg) hd 1 (by kernel_rfl))
                exact one_index 33 _ _ rfl rfl (.slice (some ⟨xb, xo, none⟩) n ca) (.int .i64 i) (.pointer (some ⟨xb, xo + i * 2, none⟩)) ex ey (fun w => rg_idx Try.underlying33 (show (Try.prog.info? 102).map (·.size) = some 2 by kernel_rfl) (xb) (xo) (n) (ca) (i) (by omega) w) ⟨_, rfl, Below.refl _ _, rfl⟩
              · intro vs w' F hb hd hF hl hT
                have e := ((hF 19).trans (look_at _ 19 2 _ _ (by kernel_rfl) (by kernel_rfl) hl)).trans (dep_of (Fact := F_ksc xb xo zb zo n ca cb i sy sq af ag nf cf cg) hd 2 (by kernel_rfl))
                exact one_field _ _ _ rfl rfl _ _ e (xo + i * 2) (fun w => by kernel_rfl) ⟨_, rfl, Below.refl _ _, rfl⟩
              · intro vs w' F hb hd hF hl hT
                have e := ((hF 20).trans (look_at _ 20 3 _ _ (by kernel_rfl) (by kernel_rfl) hl)).trans (dep_of (Fact := F_ksc xb xo zb zo n ca cb i sy sq af ag nf cf cg) hd 3 (by kernel_rfl))
                exact one_load _ _ rfl rfl _ _ e (cell_abides X0.out hb) (by kernel_rfl) ⟨_, rfl, Below.refl _ _, rfl⟩
              · intro vs w' F hb hd hF hl hT
                have e := (hF 1).trans (look_out _ 1 _ _ (by kernel_rfl))
                exact one_move _ rfl (by first | exact Or.inl rfl | exact Or.inr rfl) ⟨_, rfl, Below.refl _ _, e⟩
              · intro vs w' F hb hd hF hl hT
                have e := (hF 5).trans (look_out _ 5 _ _ (by kernel_rfl))
                exact one_move _ rfl (by first | exact Or.inl rfl | exact Or.inr rfl) ⟨_, rfl, Below.refl _ _, e⟩
              · intro vs w' F hb hd hF hl hT
                have ex := ((hF 22).trans (look_at _ 22 5 _ _ (by kernel_rfl) (by kernel_rfl) hl)).trans (dep_of (Fact := F_ksc xb xo zb zo n ca cb i sy sq af ag nf cf cg) hd 5 (by kernel_rfl))
                have ey := ((hF 23).trans (look_at _ 23 6 _ _ (by kernel_rfl) (by kernel_rfl) hl)).trans (dep_of (Fact := F_ksc xb xo zb zo n ca cb i sy sq af ag nf cf cg) hd 6 (by kernel_rfl))
                exact one_index 33 _ _ rfl rfl (.slice (some ⟨zb, zo, none⟩) n cb) (.int .i64 i) (.pointer (some ⟨zb, zo + i * 2, none⟩)) ex ey (fun w => rg_idx Try.underlying33 (show (Try.prog.info? 102).map (·.size) = some 2 by kernel_rfl) (zb) (zo) (n) (cb) (i) (by omega) w) ⟨_, rfl, Below.refl _ _, rfl⟩
              · intro vs w' F hb hd hF hl hT
                have e := ((hF 24).trans (look_at _ 24 7 _ _ (by kernel_rfl) (by kernel_rfl) hl)).trans (dep_of (Fact := F_ksc xb xo zb zo n ca cb i sy sq af ag nf cf cg) hd 7 (by kernel_rfl))
                exact one_field _ _ _ rfl rfl _ _ e (zo + i * 2) (fun w => by kernel_rfl) ⟨_, rfl, Below.refl _ _, rfl⟩
              · intro vs w' F hb hd hF hl hT
                have e := ((hF 25).trans (look_at _ 25 8 _ _ (by kernel_rfl) (by kernel_rfl) hl)).trans (dep_of (Fact := F_ksc xb xo zb zo n ca cb i sy sq af ag nf cf cg) hd 8 (by kernel_rfl))
                exact one_load _ _ rfl rfl _ _ e (cell_abides Z0.out hb) (by kernel_rfl) ⟨_, rfl, Below.refl _ _, rfl⟩
              · intro vs w' F hb hd hF hl hT
                have ex := (((hF 21).trans (look_at _ 21 4 _ _ (by kernel_rfl) (by kernel_rfl) hl)).trans (dep_of (Fact := F_ksc xb xo zb zo n ca cb i sy sq af ag nf cf cg) hd 4 (by kernel_rfl)))
                have ey := (((hF 26).trans (look_at _ 26 9 _ _ (by kernel_rfl) (by kernel_rfl) hl)).trans (dep_of (Fact := F_ksc xb xo zb zo n ca cb i sy sq af ag nf cf cg) hd 9 (by kernel_rfl)))
                have hr := str_neqg sy sq w'
                rw [HS.out] at hr
                exact one_binop _ 9 _ _ _ rfl rfl _ _ ex ey (.bool false) (str_guardg _ _ _ _ w') hr ⟨_, rfl, Below.refl _ _, rfl⟩
              · intro vs w' F hb hd hF hl hT
                have e := ((hF 27).trans (look_at _ 27 10 _ _ (by kernel_rfl) (by kernel_rfl) hl)).trans (dep_of (Fact := F_ksc xb xo zb zo n ca cb i sy sq af ag nf cf cg) hd 10 (by kernel_rfl))
                exact one_move _ rfl (by first | exact Or.inl rfl | exact Or.inr rfl) ⟨_, rfl, Below.refl _ _, e⟩
              · intro vs w' F hb hd hF hl hT
                have eg := ((hF 28).trans (look_at _ 28 11 _ _ (by kernel_rfl) (by kernel_rfl) hl)).trans (dep_of (Fact := F_ksc xb xo zb zo n ca cb i sy sq af ag nf cf cg) hd 11 (by kernel_rfl))
                refine wpList_on rfl (t := 28) (by kernel_rfl) eg ?_
                have e := (hF 0).trans (look_out _ 0 _ _ (by kernel_rfl))
                exact one_move _ rfl (by first | exact Or.inl rfl | exact Or.inr rfl) ⟨_, rfl, Below.refl _ _, e⟩
              · intro vs w' F hb hd hF hl hT
                have eg := ((hF 28).trans (look_at _ 28 11 _ _ (by kernel_rfl) (by kernel_rfl) hl)).trans (dep_of (Fact := F_ksc xb xo zb zo n ca cb i sy sq af ag nf cf cg) hd 11 (by kernel_rfl))
                refine wpList_on rfl (t := 28) (by kernel_rfl) eg ?_
                have e := (hF 5).trans (look_out _ 5 _ _ (by kernel_rfl))
                exact one_move _ rfl (by first | exact Or.inl rfl | exact Or.inr rfl) ⟨_, rfl, Below.refl _ _, e⟩
              · intro vs w' F hb hd hF hl hT
                have eg := ((hF 28).trans (look_at _ 28 11 _ _ (by kernel_rfl) (by kernel_rfl) hl)).trans (dep_of (Fact := F_ksc xb xo zb zo n ca cb i sy sq af ag nf cf cg) hd 11 (by kernel_rfl))
                refine wpList_on rfl (t := 28) (by kernel_rfl) eg ?_
                have ex := ((hF 29).trans (look_at _ 29 12 _ _ (by kernel_rfl) (by kernel_rfl) hl)).trans (dep_of (Fact := F_ksc xb xo zb zo n ca cb i sy sq af ag nf cf cg) hd 12 (by kernel_rfl))
                have ey := ((hF 30).trans (look_at _ 30 13 _ _ (by kernel_rfl) (by kernel_rfl) hl)).trans (dep_of (Fact := F_ksc xb xo zb zo n ca cb i sy sq af ag nf cf cg) hd 13 (by kernel_rfl))
                exact one_index 33 _ _ rfl rfl (.slice (some ⟨xb, xo, none⟩) n ca) (.int .i64 i) (.pointer (some ⟨xb, xo + i * 2, none⟩)) ex ey (fun w => rg_idx Try.underlying33 (show (Try.prog.info? 102).map (·.size) = some 2 by kernel_rfl) (xb) (xo) (n) (ca) (i) (by omega) w) ⟨_, rfl, Below.refl _ _, rfl⟩
              · intro vs w' F hb hd hF hl hT
                have eg := ((hF 28).trans (look_at _ 28 11 _ _ (by kernel_rfl) (by kernel_rfl) hl)).trans (dep_of (Fact := F_ksc xb xo zb zo n ca cb i sy sq af ag nf cf cg) hd 11 (by kernel_rfl))
                refine wpList_on rfl (t := 28) (by kernel_rfl) eg ?_
                have e := ((hF 31).trans (look_at _ 31 14 _ _ (by kernel_rfl) (by kernel_rfl) hl)).trans (dep_of (Fact := F_ksc xb xo zb zo n ca cb i sy sq af ag nf cf cg) hd 14 (by kernel_rfl))
                exact one_field _ _ _ rfl rfl _ _ e (xo + i * 2 + 1) (fun w => by kernel_rfl) ⟨_, rfl, Below.refl _ _, rfl⟩
              · intro vs w' F hb hd hF hl hT
                have eg := ((hF 28).trans (look_at _ 28 11 _ _ (by kernel_rfl) (by kernel_rfl) hl)).trans (dep_of (Fact := F_ksc xb xo zb zo n ca cb i sy sq af ag nf cf cg) hd 11 (by kernel_rfl))
                refine wpList_on rfl (t := 28) (by kernel_rfl) eg ?_
                have e := ((hF 32).trans (look_at _ 32 15 _ _ (by kernel_rfl) (by kernel_rfl) hl)).trans (dep_of (Fact := F_ksc xb xo zb zo n ca cb i sy sq af ag nf cf cg) hd 15 (by kernel_rfl))
                exact one_load _ _ rfl rfl _ _ e (cell_abides X1.out hb) (by kernel_rfl) ⟨_, rfl, Below.refl _ _, rfl⟩
              · intro vs w' F hb hd hF hl hT
                have eg := ((hF 28).trans (look_at _ 28 11 _ _ (by kernel_rfl) (by kernel_rfl) hl)).trans (dep_of (Fact := F_ksc xb xo zb zo n ca cb i sy sq af ag nf cf cg) hd 11 (by kernel_rfl))
                refine wpList_on rfl (t := 28) (by kernel_rfl) eg ?_
                have e := ((hF 33).trans (look_at _ 33 16 _ _ (by kernel_rfl) (by kernel_rfl) hl)).trans (dep_of (Fact := F_ksc xb xo zb zo n ca cb i sy sq af ag nf cf cg) hd 16 (by kernel_rfl))
                exact rg_len _ 100 99 rfl rfl Try.underlying100 af (nf) (cf) e ⟨_, rfl, Below.refl _ _, rfl⟩
              · intro vs w' F hb hd hF hl hT
                have eg := ((hF 28).trans (look_at _ 28 11 _ _ (by kernel_rfl) (by kernel_rfl) hl)).trans (dep_of (Fact := F_ksc xb xo zb zo n ca cb i sy sq af ag nf cf cg) hd 11 (by kernel_rfl))
                refine wpList_on rfl (t := 28) (by kernel_rfl) eg ?_
                have e := (hF 1).trans (look_out _ 1 _ _ (by kernel_rfl))
                exact one_move _ rfl (by first | exact Or.inl rfl | exact Or.inr rfl) ⟨_, rfl, Below.refl _ _, e⟩
              · intro vs w' F hb hd hF hl hT
                have eg := ((hF 28).trans (look_at _ 28 11 _ _ (by kernel_rfl) (by kernel_rfl) hl)).trans (dep_of (Fact := F_ksc xb xo zb zo n ca cb i sy sq af ag nf cf cg) hd 11 (by kernel_rfl))
                refine wpList_on rfl (t := 28) (by kernel_rfl) eg ?_
                have e := (hF 5).trans (look_out _ 5 _ _ (by kernel_rfl))
                exact one_move _ rfl (by first | exact Or.inl rfl | exact Or.inr rfl) ⟨_, rfl, Below.refl _ _, e⟩
              · intro vs w' F hb hd hF hl hT
                have eg := ((hF 28).trans (look_at _ 28 11 _ _ (by kernel_rfl) (by kernel_rfl) hl)).trans (dep_of (Fact := F_ksc xb xo zb zo n ca cb i sy sq af ag nf cf cg) hd 11 (by kernel_rfl))
                refine wpList_on rfl (t := 28) (by kernel_rfl) eg ?_
                have ex := ((hF 35).trans (look_at _ 35 18 _ _ (by kernel_rfl) (by kernel_rfl) hl)).trans (dep_of (Fact := F_ksc xb xo zb zo n ca cb i sy sq af ag nf cf cg) hd 18 (by kernel_rfl))
                have ey := ((hF 36).trans (look_at _ 36 19 _ _ (by kernel_rfl) (by kernel_rfl) hl)).trans (dep_of (Fact := F_ksc xb xo zb zo n ca cb i sy sq af ag nf cf cg) hd 19 (by kernel_rfl))
                exact one_index 33 _ _ rfl rfl (.slice (some ⟨zb, zo, none⟩) n cb) (.int .i64 i) (.pointer (some ⟨zb, zo + i * 2, none⟩)) ex ey (fun w => rg_idx Try.underlying33 (show (Try.prog.info? 102).map (·.size) = some 2 by kernel_rfl) (zb) (zo) (n) (cb) (i) (by omega) w) ⟨_, rfl, Below.refl _ _, rfl⟩
              · intro vs w' F hb hd hF hl hT
                have eg := ((hF 28).trans (look_at _ 28 11 _ _ (by kernel_rfl) (by kernel_rfl) hl)).trans (dep_of (Fact := F_ksc xb xo zb zo n ca cb i sy sq af ag nf cf cg) hd 11 (by kernel_rfl))
                refine wpList_on rfl (t := 28) (by kernel_rfl) eg ?_
                have e := ((hF 37).trans (look_at _ 37 20 _ _ (by kernel_rfl) (by kernel_rfl) hl)).trans (dep_of (Fact := F_ksc xb xo zb zo n ca cb i sy sq af ag nf cf cg) hd 20 (by kernel_rfl))
                exact one_field _ _ _ rfl rfl _ _ e (zo + i * 2 + 1) (fun w => by kernel_rfl) ⟨_, rfl, Below.refl _ _, rfl⟩
              · intro vs w' F hb hd hF hl hT
                have eg := ((hF 28).trans (look_at _ 28 11 _ _ (by kernel_rfl) (by kernel_rfl) hl)).trans (dep_of (Fact := F_ksc xb xo zb zo n ca cb i sy sq af ag nf cf cg) hd 11 (by kernel_rfl))
                refine wpList_on rfl (t := 28) (by kernel_rfl) eg ?_
                have e := ((hF 38).trans (look_at _ 38 21 _ _ (by kernel_rfl) (by kernel_rfl) hl)).trans (dep_of (Fact := F_ksc xb xo zb zo n ca cb i sy sq af ag nf cf cg) hd 21 (by kernel_rfl))
                exact one_load _ _ rfl rfl _ _ e (cell_abides Z1.out hb) (by kernel_rfl) ⟨_, rfl, Below.refl _ _, rfl⟩
              · intro vs w' F hb hd hF hl hT
                have eg := ((hF 28).trans (look_at _ 28 11 _ _ (by kernel_rfl) (by kernel_rfl) hl)).trans (dep_of (Fact := F_ksc xb xo zb zo n ca cb i sy sq af ag nf cf cg) hd 11 (by kernel_rfl))
                refine wpList_on rfl (t := 28) (by kernel_rfl) eg ?_
                have e := ((hF 39).trans (look_at _ 39 22 _ _ (by kernel_rfl) (by kernel_rfl) hl)).trans (dep_of (Fact := F_ksc xb xo zb zo n ca cb i sy sq af ag nf cf cg) hd 22 (by kernel_rfl))
                exact rg_len _ 100 99 rfl rfl Try.underlying100 ag (nf) (cg) e ⟨_, rfl, Below.refl _ _, rfl⟩
              · intro vs w' F hb hd hF hl hT
                have eg := ((hF 28).trans (look_at _ 28 11 _ _ (by kernel_rfl) (by kernel_rfl) hl)).trans (dep_of (Fact := F_ksc xb xo zb zo n ca cb i sy sq af ag nf cf cg) hd 11 (by kernel_rfl))
                refine wpList_on rfl (t := 28) (by kernel_rfl) eg ?_
                have e1 := ((hF 34).trans (look_at _ 34 17 _ _ (by kernel_rfl) (by kernel_rfl) hl)).trans (dep_of (Fact := F_ksc xb xo zb zo n ca cb i sy sq af ag nf cf cg) hd 17 (by kernel_rfl))
                have e2 := ((hF 40).trans (look_at _ 40 23 _ _ (by kernel_rfl) (by kernel_rfl) hl)).trans (dep_of (Fact := F_ksc xb xo zb zo n ca cb i sy sq af ag nf cf cg) hd 23 (by kernel_rfl))
                exact rg_neq _ _ _ _ rfl rfl .i64 ((nf : Int)) ((nf : Int)) false e1 e2 (decide_eq_false (by omega)) ⟨_, rfl, Below.refl _ _, rfl⟩
              · intro vs w' F hb hd hF hl hT
                have ec := ((hF 28).trans (look_at _ 28 11 _ _ (by kernel_rfl) (by kernel_rfl) hl)).trans (dep_of (Fact := F_ksc xb xo zb zo n ca cb i sy sq af ag nf cf cg) hd 11 (by kernel_rfl))
                have e := ((hF 41).trans (look_at _ 41 24 _ _ (by kernel_rfl) (by kernel_rfl) hl)).trans (dep_of (Fact := F_ksc xb xo zb zo n ca cb i sy sq af ag nf cf cg) hd 24 (by kernel_rfl))
                exact one_pick_f _ _ _ rfl rfl _ ec e ⟨_, rfl, Below.refl _ _, rfl⟩
            · intro vs8 W8 hl hb hI
              have hv : vs8.getD 25 undef = .bool false := hI 25 (by omega)
              obtain ⟨x0, x1, x2, x3, x4, x5, x6, x7, x8, x9, x10, x11, x12, x13, x14, x15, x16, x17, x18, x19, x20, x21, x22, x23, x24, x25, hvs⟩ := list26 hl
              subst hvs
              replace hv : x25 = .bool false := hv
              subst hv
              clear hI hl
              simp only [fillAll, Act.put, List.setIfInBounds_toArray, List.set_cons_succ, List.set_cons_zero]
              show wpList _ _ _ [] _ _
              have HB8 := Lib.hid hb
              have hb8 := hb.size
              clear hb
              obtain ⟨T, hT⟩ : ∃ T, T = eqL feqB y.fields q.fields := ⟨_, rfl⟩
              have HKE := Lib.hid (show keqB y q = T by unfold keqB; rw [← HSY.out, ← HSQ.out, HS.out, Bool.true_and, hT])
              have HT := Lib.hid hT
              clear hT
              have x81 := cell_abides X1.out HB8.out
              go_wp2
              go_loopg [6, 49] nf (fun gk v6 vi wx => ∃ u : Nat, u ≤ nf ∧ gk = nf - u ∧ vi = .int .i64 u ∧ (∀ j (h : j < nf), j < u → feqB (y.fields[j]'(by rw [← HNF.out]; exact h)) (q.fields[j]'(by rw [← HNG.out]; exact h)) = true) ∧ Below Wo.heap.size Wo wx)
              case atStart => exact ⟨0, Nat.zero_le _, rfl, rfl, fun j h h2 => absurd h2 (by omega), HB8.out⟩
              case round =>
                obtain ⟨u, hu, g4, rfl, hft, hbo⟩ := hrel
                have G4 := Lib.hid g4
                have HFT := Lib.hid hft
                have HBO := Lib.hid hbo
                have hbos := hbo.size
                clear g4 hft hbo
                by_cases huf : u < nf
                · obtain ⟨x4, rfl, _, _⟩ := XF.out (by rw [← HNF.out]; omega)
                  obtain ⟨z4, rfl, _, _⟩ := ZF.out (by rw [← HNG.out]; omega)
                  obtain ⟨fb, fo, rfl, hfx⟩ := fld_cells (XF.out.below FieldAt.abides HBO.out) u (by rw [← HNF.out]; exact huf)
                  obtain ⟨gb, go, rfl, hfz⟩ := fld_cells (ZF.out.below FieldAt.abides HBO.out) u (by rw [← HNG.out]; exact huf)
                  obtain ⟨p, hp⟩ : ∃ p, p = y.fields[u]'(by rw [← HNF.out]; exact huf) := ⟨_, rfl⟩
                  obtain ⟨r, hr⟩ : ∃ r, r = q.fields[u]'(by rw [← HNG.out]; exact huf) := ⟨_, rfl⟩
                  rw [← hp] at hfx
                  rw [← hr] at hfz
                  have CX := Lib.hid hfx
                  have CZ := Lib.hid hfz
                  have HPD := Lib.hid hp
                  have HRD := Lib.hid hr
                  have Y1 := Lib.hid (cell_abides X1.out HBO.out)
                  have Q1 := Lib.hid (cell_abides Z1.out HBO.out)
                  clear hfx hfz hp hr
                  obtain ⟨S2, hS2⟩ : ∃ S2, S2 = feqB p r := ⟨_, rfl⟩
                  have HS2 := Lib.hid hS2
                  clear hS2
                  cases S2 with
                  | true =>
                    go_wp2
                    refine wp_region_facts_t rfl 17 (by kernel_rfl) (F_ktt xb xo zb zo n ca cb i u fb fo gb go nf cf cg p r) (F_ktt_mono xb xo zb zo n ca cb i u fb fo gb go nf cf cg p r) ?_ ?_
                    · refine ⟨?_, ?_, ?_, ?_, ?_, ?_, ?_, ?_, ?_, ?_, ?_, ?_, ?_, ?_, ?_, ?_, ?_, trivial⟩
                      · intro vs w' F hb hd hF hl hT
                        have e := (hF 0).trans (look_out _ 0 _ _ (by kernel_rfl))
                        exact one_move _ rfl (by first | exact Or.inl rfl | exact Or.inr rfl) ⟨_, rfl, Below.refl _ _, e⟩
                      · intro vs w' F hb hd hF hl hT
                        have e := (hF 5).trans (look_out _ 5 _ _ (by kernel_rfl))
                        exact one_move _ rfl (by first | exact Or.inl rfl | exact Or.inr rfl) ⟨_, rfl, Below.refl _ _, e⟩
                      · intro vs w' F hb hd hF hl hT
                        have ex := ((hF 52).trans (look_at _ 52 0 _ _ (by kernel_rfl) (by kernel_rfl) hl)).trans (dep_of (Fact := F_ktt xb xo zb zo n ca cb i u fb fo gb go nf cf cg p r) hd 0 (by kernel_rfl))
                        have ey := ((hF 53).trans (look_at _ 53 1 _ _ (by kernel_rfl) (by kernel_rfl) hl)).trans (dep_of (Fact := F_ktt xb xo zb zo n ca cb i u fb fo gb go nf cf cg p r) hd 1 (by kernel_rfl))
                        exact one_index 33 _ _ rfl rfl (.slice (some ⟨xb, xo, none⟩) n ca) (.int .i64 i) (.pointer (some ⟨xb, xo + i * 2, none⟩)) ex ey (fun w => rg_idx Try.underlying33 (show (Try.prog.info? 102).map (·.size) = some 2 by kernel_rfl) (xb) (xo) (n) (ca) (i) (by omega) w) ⟨_, rfl, Below.refl _ _, rfl⟩
                      · intro vs w' F hb hd hF hl hT
                        have e := ((hF 54).trans (look_at _ 54 2 _ _ (by kernel_rfl) (by kernel_rfl) hl)).trans (dep_of (Fact := F_ktt xb xo zb zo n ca cb i u fb fo gb go nf cf cg p r) hd 2 (by kernel_rfl))
                        exact one_field _ _ _ rfl rfl _ _ e (xo + i * 2 + 1) (fun w => by kernel_rfl) ⟨_, rfl, Below.refl _ _, rfl⟩
                      · intro vs w' F hb hd hF hl hT
                        have e := ((hF 55).trans (look_at _ 55 3 _ _ (by kernel_rfl) (by kernel_rfl) hl)).trans (dep_of (Fact := F_ktt xb xo zb zo n ca cb i u fb fo gb go nf cf cg p r) hd 3 (by kernel_rfl))
                        exact one_load _ _ rfl rfl _ _ e (cell_abides Y1.out hb) (by kernel_rfl) ⟨_, rfl, Below.refl _ _, rfl⟩
                      · intro vs w' F hb hd hF hl hT
                        have e := (hF 6).trans (look_out _ 6 _ _ (by kernel_rfl))
                        exact one_move _ rfl (by first | exact Or.inl rfl | exact Or.inr rfl) ⟨_, rfl, Below.refl _ _, e⟩
                      · intro vs w' F hb hd hF hl hT
                        have ex := ((hF 56).trans (look_at _ 56 4 _ _ (by kernel_rfl) (by kernel_rfl) hl)).trans (dep_of (Fact := F_ktt xb xo zb zo n ca cb i u fb fo gb go nf cf cg p r) hd 4 (by kernel_rfl))
                        have ey := ((hF 57).trans (look_at _ 57 5 _ _ (by kernel_rfl) (by kernel_rfl) hl)).trans (dep_of (Fact := F_ktt xb xo zb zo n ca cb i u fb fo gb go nf cf cg p r) hd 5 (by kernel_rfl))
                        exact one_index 100 _ _ rfl rfl (.slice (some ⟨fb, fo, none⟩) nf cf) (.int .i64 u) (.pointer (some ⟨fb, fo + u * 3, none⟩)) ex ey (fun w => rg_idx Try.underlying100 (show (Try.prog.info? 99).map (·.size) = some 3 by kernel_rfl) (fb) (fo) (nf) (cf) (u) (by omega) w) ⟨_, rfl, Below.refl _ _, rfl⟩
                      · intro vs w' F hb hd hF hl hT
                        have e := ((hF 58).trans (look_at _ 58 6 _ _ (by kernel_rfl) (by kernel_rfl) hl)).trans (dep_of (Fact := F_ktt xb xo zb zo n ca cb i u fb fo gb go nf cf cg p r) hd 6 (by kernel_rfl))
                        exact rg_load 99 _ rfl rfl (fb) (fo + u * 3) [.string p.name, .int .i64 p.bits, .int .i64 p.low] e (CX.out.below hb) _ Try.underlying99 rfl (by kernel_rfl) ⟨_, rfl, Below.refl _ _, rfl⟩
                      · intro vs w' F hb hd hF hl hT
                        have e := (hF 1).trans (look_out _ 1 _ _ (by kernel_rfl))
                        exact one_move _ rfl (by first | exact Or.inl rfl | exact Or.inr rfl) ⟨_, rfl, Below.refl _ _, e⟩
                      · intro vs w' F hb hd hF hl hT
                        have e := (hF 5).trans (look_out _ 5 _ _ (by kernel_rfl))
                        exact one_move _ rfl (by first | exact Or.inl rfl | exact Or.inr rfl) ⟨_, rfl, Below.refl _ _, e⟩
                      · intro vs w' F hb hd hF hl hT
                        have ex := ((hF 60).trans (look_at _ 60 8 _ _ (by kernel_rfl) (by kernel_rfl) hl)).trans (dep_of (Fact := F_ktt xb xo zb zo n ca cb i u fb fo gb go nf cf cg p r) hd 8 (by kernel_rfl))
                        have ey := ((hF 61).trans (look_at _ 61 9 _ _ (by kernel_rfl) (by kernel_rfl) hl)).trans (dep_of (Fact := F_ktt xb xo zb zo n ca cb i u fb fo gb go nf cf cg p r) hd 9 (by kernel_rfl))
                        exact one_index 33 _ _ rfl rfl (.slice (some ⟨zb, zo, none⟩) n cb) (.int .i64 i) (.pointer (some ⟨zb, zo + i * 2, none⟩)) ex ey (fun w => rg_idx Try.underlying33 (show (Try.prog.info? 102).map (·.size) = some 2 by kernel_rfl) (zb) (zo) (n) (cb) (i) (by omega) w) ⟨_, rfl, Below.refl _ _, rfl⟩
                      · intro vs w' F hb hd hF hl hT
                        have e := ((hF 62).trans (look_at _ 62 10 _ _ (by kernel_rfl) (by kernel_rfl) hl)).trans (dep_of (Fact := F_ktt xb xo zb zo n ca cb i u fb fo gb go nf cf cg p r) hd 10 (by kernel_rfl))
                        exact one_field _ _ _ rfl rfl _ _ e (zo + i * 2 + 1) (fun w => by kernel_rfl) ⟨_, rfl, Below.refl _ _, rfl⟩
                      · intro vs w' F hb hd hF hl hT
                        have e := ((hF 63).trans (look_at _ 63 11 _ _ (by kernel_rfl) (by kernel_rfl) hl)).trans (dep_of (Fact := F_ktt xb xo zb zo n ca cb i u fb fo gb go nf cf cg p r) hd 11 (by kernel_rfl))
                        exact one_load _ _ rfl rfl _ _ e (cell_abides Q1.out hb) (by kernel_rfl) ⟨_, rfl, Below.refl _ _, rfl⟩
                      · intro vs w' F hb hd hF hl hT
                        have e := (hF 6).trans (look_out _ 6 _ _ (by kernel_rfl))
                        exact one_move _ rfl (by first | exact Or.inl rfl | exact Or.inr rfl) ⟨_, rfl, Below.refl _ _, e⟩
                      · intro vs w' F hb hd hF hl hT
                        have ex := ((hF 64).trans (look_at _ 64 12 _ _ (by kernel_rfl) (by kernel_rfl) hl)).trans (dep_of (Fact := F_ktt xb xo zb zo n ca cb i u fb fo gb go nf cf cg p r) hd 12 (by kernel_rfl))
                        have ey := ((hF 65).trans (look_at _ 65 13 _ _ (by kernel_rfl) (by kernel_rfl) hl)).trans (dep_of (Fact := F_ktt xb xo zb zo n ca cb i u fb fo gb go nf cf cg p r) hd 13 (by kernel_rfl))
                        exact one_index 100 _ _ rfl rfl (.slice (some ⟨gb, go, none⟩) nf cg) (.int .i64 u) (.pointer (some ⟨gb, go + u * 3, none⟩)) ex ey (fun w => rg_idx Try.underlying100 (show (Try.prog.info? 99).map (·.size) = some 3 by kernel_rfl) (gb) (go) (nf) (cg) (u) (by omega) w) ⟨_, rfl, Below.refl _ _, rfl⟩
                      · intro vs w' F hb hd hF hl hT
                        have e := ((hF 66).trans (look_at _ 66 14 _ _ (by kernel_rfl) (by kernel_rfl) hl)).trans (dep_of (Fact := F_ktt xb xo zb zo n ca cb i u fb fo gb go nf cf cg p r) hd 14 (by kernel_rfl))
                        exact rg_load 99 _ rfl rfl (gb) (go + u * 3) [.string r.name, .int .i64 r.bits, .int .i64 r.low] e (CZ.out.below hb) _ Try.underlying99 rfl (by kernel_rfl) ⟨_, rfl, Below.refl _ _, rfl⟩
                      · intro vs w' F hb hd hF hl hT
                        have ex := (((hF 59).trans (look_at _ 59 7 _ _ (by kernel_rfl) (by kernel_rfl) hl)).trans (dep_of (Fact := F_ktt xb xo zb zo n ca cb i u fb fo gb go nf cf cg p r) hd 7 (by kernel_rfl)))
                        have ey := (((hF 67).trans (look_at _ 67 15 _ _ (by kernel_rfl) (by kernel_rfl) hl)).trans (dep_of (Fact := F_ktt xb xo zb zo n ca cb i u fb fo gb go nf cf cg p r) hd 15 (by kernel_rfl)))
                        have hr := fld_neqg p.name r.name p.bits p.low r.bits r.low w'
                        rw [show (p.name.toList == r.name.toList && (decide (p.bits = r.bits) && decide (p.low = r.low))) = true from HS2.out.symm] at hr
                        exact one_binop _ 99 _ _ _ rfl rfl _ _ ex ey (.bool false) (fld_guardg _ _ _ _ w') hr ⟨_, rfl, Below.refl _ _, rfl⟩
                    · intro vs8 W8 hl hb hI
                      have hv : vs8.getD 16 undef = .bool false := hI 16 (by omega)
                      obtain ⟨x0, x1, x2, x3, x4, x5, x6, x7, x8, x9, x10, x11, x12, x13, x14, x15, x16, hvs⟩ := list17 hl
                      subst hvs
                      replace hv : x16 = .bool false := hv
                      subst hv
                      clear hI hl
                      simp only [fillAll, Act.put, List.setIfInBounds_toArray, List.set_cons_succ, List.set_cons_zero]
                      show wpList _ _ _ [] _ _
                      have HB9 := Lib.hid (bt HBO.out hb)
                      clear hb
                      go_wp2
                      go_roundg (nf - (u + 1))
                      case measure => rw [G4.out]; omega
                      case rel => exact ⟨u + 1, huf, rfl, by go_num, fun j h hj => by
                        by_cases hji : j < u
                        · exact HFT.out j h hji
                        · obtain rfl : j = u := by omega
                          rw [← HPD.out, ← HRD.out]; exact HS2.out.symm, HB9.out⟩
                  | false =>
                    have HF := Lib.hid (show R = false by rw [HR.out]; exact eqL_ne i (by rw [HN.out]; exact hlt) (by rw [HM.out]; exact hlt) (by rw [← HYD.out, ← HQD.out, HKE.out, HT.out]; exact eqL_ne u (by rw [← HNF.out]; exact huf) (by rw [← HNG.out]; exact huf) (by rw [← HPD.out, ← HRD.out]; exact HS2.out.symm)))
                    go_wp2
                    refine wp_region_facts_t rfl 17 (by kernel_rfl) (F_ktf xb xo zb zo n ca cb i u fb fo gb go nf cf cg p r) (F_ktf_mono xb xo zb zo n ca cb i u fb fo gb go nf cf cg p r) ?_ ?_
                    · refine ⟨?_, ?_, ?_, ?_, ?_, ?_, ?_, ?_, ?_, ?_, ?_, ?_, ?_, ?_, ?_, ?_, ?_, trivial⟩
                      · intro vs w' F hb hd hF hl hT
                        have e := (hF 0).trans (look_out _ 0 _ _ (by kernel_rfl))
                        exact one_move _ rfl (by first | exact Or.inl rfl | exact Or.inr rfl) ⟨_, rfl, Below.refl _ _, e⟩
                      · intro vs w' F hb hd hF hl hT
                        have e := (hF 5).trans (look_out _ 5 _ _ (by kernel_rfl))
                        exact one_move _ rfl (by first | exact Or.inl rfl | exact Or.inr rfl) ⟨_, rfl, Below.refl _ _, e⟩
                      · intro vs w' F hb hd hF hl hT
                        have ex := ((hF 52).trans (look_at _ 52 0 _ _ (by kernel_rfl) (by kernel_rfl) hl)).trans (dep_of (Fact := F_ktf xb xo zb zo n ca cb i u fb fo gb go nf cf cg p r) hd 0 (by kernel_rfl))
                        have ey := ((hF 53).trans (look_at _ 53 1 _ _ (by kernel_rfl) (by kernel_rfl) hl)).trans (dep_of (Fact := F_ktf xb xo zb zo n ca cb i u fb fo gb go nf cf cg p r) hd 1 (by kernel_rfl))
                        exact one_index 33 _ _ rfl rfl (.slice (some ⟨xb, xo, none⟩) n ca) (.int .i64 i) (.pointer (some ⟨xb, xo + i * 2, none⟩)) ex ey (fun w => rg_idx Try.underlying33 (show (Try.prog.info? 102).map (·.size) = some 2 by kernel_rfl) (xb) (xo) (n) (ca) (i) (by omega) w) ⟨_, rfl, Below.refl _ _, rfl⟩
                      · intro vs w' F hb hd hF hl hT
                        have e := ((hF 54).trans (look_at _ 54 2 _ _ (by kernel_rfl) (by kernel_rfl) hl)).trans (dep_of (Fact := F_ktf xb xo zb zo n ca cb i u fb fo gb go nf cf cg p r) hd 2 (by kernel_rfl))
                        exact one_field _ _ _ rfl rfl _ _ e (xo + i * 2 + 1) (fun w => by kernel_rfl) ⟨_, rfl, Below.refl _ _, rfl⟩
                      · intro vs w' F hb hd hF hl hT
                        have e := ((hF 55).trans (look_at _ 55 3 _ _ (by kernel_rfl) (by kernel_rfl) hl)).trans (dep_of (Fact := F_ktf xb xo zb zo n ca cb i u fb fo gb go nf cf cg p r) hd 3 (by kernel_rfl))
                        exact one_load _ _ rfl rfl _ _ e (cell_abides Y1.out hb) (by kernel_rfl) ⟨_, rfl, Below.refl _ _, rfl⟩
                      · intro vs w' F hb hd hF hl hT
                        have e := (hF 6).trans (look_out _ 6 _ _ (by kernel_rfl))
                        exact one_move _ rfl (by first | exact Or.inl rfl | exact Or.inr rfl) ⟨_, rfl, Below.refl _ _, e⟩
                      · intro vs w' F hb hd hF hl hT
                        have ex := ((hF 56).trans (look_at _ 56 4 _ _ (by kernel_rfl) (by kernel_rfl) hl)).trans (dep_of (Fact := F_ktf xb xo zb zo n ca cb i u fb fo gb go nf cf cg p r) hd 4 (by kernel_rfl))
                        have ey := ((hF 57).trans (look_at _ 57 5 _ _ (by kernel_rfl) (by kernel_rfl) hl)).trans (dep_of (Fact := F_ktf xb xo zb zo n ca cb i u fb fo gb go nf cf cg p r) hd 5 (by kernel_rfl))
                        exact one_index 100 _ _ rfl rfl (.slice (some ⟨fb, fo, none⟩) nf cf) (.int .i64 u) (.pointer (some ⟨fb, fo + u * 3, none⟩)) ex ey (fun w => rg_idx Try.underlying100 (show (Try.prog.info? 99).map (·.size) = some 3 by kernel_rfl) (fb) (fo) (nf) (cf) (u) (by omega) w) ⟨_, rfl, Below.refl _ _, rfl⟩
                      · intro vs w' F hb hd hF hl hT
                        have e := ((hF 58).trans (look_at _ 58 6 _ _ (by kernel_rfl) (by kernel_rfl) hl)).trans (dep_of (Fact := F_ktf xb xo zb zo n ca cb i u fb fo gb go nf cf cg p r) hd 6 (by kernel_rfl))
                        exact rg_load 99 _ rfl rfl (fb) (fo + u * 3) [.string p.name, .int .i64 p.bits, .int .i64 p.low] e (CX.out.below hb) _ Try.underlying99 rfl (by kernel_rfl) ⟨_, rfl, Below.refl _ _, rfl⟩
                      · intro vs w' F hb hd hF hl hT
                        have e := (hF 1).trans (look_out _ 1 _ _ (by kernel_rfl))
                        exact one_move _ rfl (by first | exact Or.inl rfl | exact Or.inr rfl) ⟨_, rfl, Below.refl _ _, e⟩
                      · intro vs w' F hb hd hF hl hT
                        have e := (hF 5).trans (look_out _ 5 _ _ (by kernel_rfl))
                        exact one_move _ rfl (by first | exact Or.inl rfl | exact Or.inr rfl) ⟨_, rfl, Below.refl _ _, e⟩
                      · intro vs w' F hb hd hF hl hT
                        have ex := ((hF 60).trans (look_at _ 60 8 _ _ (by kernel_rfl) (by kernel_rfl) hl)).trans (dep_of (Fact := F_ktf xb xo zb zo n ca cb i u fb fo gb go nf cf cg p r) hd 8 (by kernel_rfl))
                        have ey := ((hF 61).trans (look_at _ 61 9 _ _ (by kernel_rfl) (by kernel_rfl) hl)).trans (dep_of (Fact := F_ktf xb xo zb zo n ca cb i u fb fo gb go nf cf cg p r) hd 9 (by kernel_rfl))
                        exact one_index 33 _ _ rfl rfl (.slice (some ⟨zb, zo, none⟩) n cb) (.int .i64 i) (.pointer (some ⟨zb, zo + i * 2, none⟩)) ex ey (fun w => rg_idx Try.underlying33 (show (Try.prog.info? 102).map (·.size) = some 2 by kernel_rfl) (zb) (zo) (n) (cb) (i) (by omega) w) ⟨_, rfl, Below.refl _ _, rfl⟩
                      · intro vs w' F hb hd hF hl hT
                        have e := ((hF 62).trans (look_at _ 62 10 _ _ (by kernel_rfl) (by kernel_rfl) hl)).trans (dep_of (Fact := F_ktf xb xo zb zo n ca cb i u fb fo gb go nf cf cg p r) hd 10 (by kernel_rfl))
                        exact one_field _ _ _ rfl rfl _ _ e (zo + i * 2 + 1) (fun w => by kernel_rfl) ⟨_, rfl, Below.refl _ _, rfl⟩
                      · intro vs w' F hb hd hF hl hT
                        have e := ((hF 63).trans (look_at _ 63 11 _ _ (by kernel_rfl) (by kernel_rfl) hl)).trans (dep_of (Fact := F_ktf xb xo zb zo n ca cb i u fb fo gb go nf cf cg p r) hd 11 (by kernel_rfl))
                        exact one_load _ _ rfl rfl _ _ e (cell_abides Q1.out hb) (by kernel_rfl) ⟨_, rfl, Below.refl _ _, rfl⟩
                      · intro vs w' F hb hd hF hl hT
                        have e := (hF 6).trans (look_out _ 6 _ _ (by kernel_rfl))
                        exact one_move _ rfl (by first | exact Or.inl rfl | exact Or.inr rfl) ⟨_, rfl, Below.refl _ _, e⟩
                      · intro vs w' F hb hd hF hl hT
                        have ex := ((hF 64).trans (look_at _ 64 12 _ _ (by kernel_rfl) (by kernel_rfl) hl)).trans (dep_of (Fact := F_ktf xb xo zb zo n ca cb i u fb fo gb go nf cf cg p r) hd 12 (by kernel_rfl))
                        have ey := ((hF 65).trans (look_at _ 65 13 _ _ (by kernel_rfl) (by kernel_rfl) hl)).trans (dep_of (Fact := F_ktf xb xo zb zo n ca cb i u fb fo gb go nf cf cg p r) hd 13 (by kernel_rfl))
                        exact one_index 100 _ _ rfl rfl (.slice (some ⟨gb, go, none⟩) nf cg) (.int .i64 u) (.pointer (some ⟨gb, go + u * 3, none⟩)) ex ey (fun w => rg_idx Try.underlying100 (show (Try.prog.info? 99).map (·.size) = some 3 by kernel_rfl) (gb) (go) (nf) (cg) (u) (by omega) w) ⟨_, rfl, Below.refl _ _, rfl⟩
                      · intro vs w' F hb hd hF hl hT
                        have e := ((hF 66).trans (look_at _ 66 14 _ _ (by kernel_rfl) (by kernel_rfl) hl)).trans (dep_of (Fact := F_ktf xb xo zb zo n ca cb i u fb fo gb go nf cf cg p r) hd 14 (by kernel_rfl))
                        exact rg_load 99 _ rfl rfl (gb) (go + u * 3) [.string r.name, .int .i64 r.bits, .int .i64 r.low] e (CZ.out.below hb) _ Try.underlying99 rfl (by kernel_rfl) ⟨_, rfl, Below.refl _ _, rfl⟩
                      · intro vs w' F hb hd hF hl hT
                        have ex := (((hF 59).trans (look_at _ 59 7 _ _ (by kernel_rfl) (by kernel_rfl) hl)).trans (dep_of (Fact := F_ktf xb xo zb zo n ca cb i u fb fo gb go nf cf cg p r) hd 7 (by kernel_rfl)))
                        have ey := (((hF 67).trans (look_at _ 67 15 _ _ (by kernel_rfl) (by kernel_rfl) hl)).trans (dep_of (Fact := F_ktf xb xo zb zo n ca cb i u fb fo gb go nf cf cg p r) hd 15 (by kernel_rfl)))
                        have hr := fld_neqg p.name r.name p.bits p.low r.bits r.low w'
                        rw [show (p.name.toList == r.name.toList && (decide (p.bits = r.bits) && decide (p.low = r.low))) = false from HS2.out.symm] at hr
                        exact one_binop _ 99 _ _ _ rfl rfl _ _ ex ey (.bool true) (fld_guardg _ _ _ _ w') hr ⟨_, rfl, Below.refl _ _, rfl⟩
                    · intro vs8 W8 hl hb hI
                      have hv : vs8.getD 16 undef = .bool true := hI 16 (by omega)
                      obtain ⟨x0, x1, x2, x3, x4, x5, x6, x7, x8, x9, x10, x11, x12, x13, x14, x15, x16, hvs⟩ := list17 hl
                      subst hvs
                      replace hv : x16 = .bool true := hv
                      subst hv
                      clear hI hl
                      simp only [fillAll, Act.put, List.setIfInBounds_toArray, List.set_cons_succ, List.set_cons_zero]
                      show wpList _ _ _ [] _ _
                      have HB9 := Lib.hid (bt HB.out (bt HBO.out hb))
                      clear hb
                      go_wp2
                      go_ret
                      exact ⟨by rw [HF.out]; rfl, HB9.out⟩
                · have HB9 := Lib.hid (bt HB.out HBO.out)
                  have huf2 : u = nf := by omega
                  have HK := Lib.hid (show keqB y q = true by rw [HKE.out, HT.out]; exact eqL_eq (HNF.out.symm.trans HNG.out) (fun j h _ => HFT.out j (by rw [HNF.out]; exact h) (by rw [huf2, HNF.out]; exact h)))
                  clear huf2
                  go_wp2
                  go_roundg (n - (i + 1))
                  case measure => rw [G2.out]; omega
                  case rel => exact ⟨i + 1, hlt, rfl, by go_num, fun j h hj => by
                    by_cases hji : j < i
                    · exact HAT.out j h hji
                    · obtain rfl : j = i := by omega
                      rw [← HYD.out, ← HQD.out]; exact HK.out, HB9.out⟩
          · have HF := Lib.hid (show R = false by rw [HR.out]; exact eqL_ne i (by rw [HN.out]; exact hlt) (by rw [HM.out]; exact hlt) (by rw [← HYD.out, ← HQD.out]; unfold keqB; rw [eqL_len (by rw [← HNF.out, ← HNG.out]; exact hfg), Bool.and_false]))
            go_wp2
            refine wp_region_facts_t rfl 26 (by kernel_rfl) (F_ksb xb xo zb zo n ca cb i sy sq af ag nf ng cf cg) (F_ksb_mono xb xo zb zo n ca cb i sy sq af ag nf ng cf cg) ?_ ?_
            · refine ⟨?_, ?_, ?_, ?_, ?_, ?_, ?_, ?_, ?_, ?_, ?_, ?_, ?_, ?_, ?_, ?_, ?_, ?_, ?_, ?_, ?_, ?_, ?_, ?_, ?_, ?_, trivial⟩
              · intro vs w' F hb hd hF hl hT
                have e := (hF 0).trans (look_out _ 0 _ _ (by kernel_rfl))
                exact one_move _ rfl (by first | exact Or.inl rfl | exact Or.inr rfl) ⟨_, rfl, Below.refl _ _, e⟩
              · intro vs w' F hb hd hF hl hT
                have e := (hF 5).trans (look_out _ 5 _ _ (by kernel_rfl))
                exact one_move _ rfl (by first | exact Or.inl rfl | exact Or.inr rfl) ⟨_, rfl, Below.refl _ _, e⟩
              · intro vs w' F hb hd hF hl hT
                have ex := ((hF 17).trans (look_at _ 17 0 _ _ (by kernel_rfl) (by kernel_rfl) hl)).trans (dep_of (Fact := F_ksb xb xo zb zo n ca cb i sy sq af ag nf ng cf cg) hd 0 (by kernel_rfl))
                have ey := ((hF 18).trans (look_at _ 18 1 _ _ (by kernel_rfl) (by kernel_rfl) hl)).trans (dep_of (Fact := F_ksb xb xo zb zo n ca cb i sy sq af ag nf ng cf cg) hd 1 (by kernel_rfl))
                exact one_index 33 _ _ rfl rfl (.slice (some ⟨xb, xo, none⟩) n ca) (.int .i64 i) (.pointer (some ⟨xb, xo + i * 2, none⟩)) ex ey (fun w => rg_idx Try.underlying33 (show (Try.prog.info? 102).map (·.size) = some 2 by kernel_rfl) (xb) (xo) (n) (ca) (i) (by omega) w) ⟨_, rfl, Below.refl _ _, rfl⟩
              · intro vs w' F hb hd hF hl hT
                have e := ((hF 19).trans (look_at _ 19 2 _ _ (by kernel_rfl) (by kernel_rfl) hl)).trans (dep_of (Fact := F_ksb xb xo zb zo n ca cb i sy sq af ag nf ng cf cg) hd 2 (by kernel_rfl))
                exact one_field _ _ _ rfl rfl _ _ e (xo + i * 2) (fun w => by kernel_rfl) ⟨_, rfl, Below.refl _ _, rfl⟩
              · intro vs w' F hb hd hF hl hT
                have e := ((hF 20).trans (look_at _ 20 3 _ _ (by kernel_rfl) (by kernel_rfl) hl)).trans (dep_of (Fact := F_ksb xb xo zb zo n ca cb i sy sq af ag nf ng cf cg) hd 3 (by kernel_rfl))
                exact one_load _ _ rfl rfl _ _ e (cell_abides X0.out hb) (by kernel_rfl) ⟨_, rfl, Below.refl _ _, rfl⟩
              · intro vs w' F hb hd hF hl hT
                have e := (hF 1).trans (look_out _ 1 _ _ (by kernel_rfl))
                exact one_move _ rfl (by first | exact Or.inl rfl | exact Or.inr rfl) ⟨_, rfl, Below.refl _ _, e⟩
              · intro vs w' F hb hd hF hl hT
                have e := (hF 5).trans (look_out _ 5 _ _ (by kernel_rfl))
                exact one_move _ rfl (by first | exact Or.inl rfl | exact Or.inr rfl) ⟨_, rfl, Below.refl _ _, e⟩
              · intro vs w' F hb hd hF hl hT
                have ex := ((hF 22).trans (look_at _ 22 5 _ _ (by kernel_rfl) (by kernel_rfl) hl)).trans (dep_of (Fact := F_ksb xb xo zb zo n ca cb i sy sq af ag nf ng cf cg) hd 5 (by kernel_rfl))
                have ey := ((hF 23).trans (look_at _ 23 6 _ _ (by kernel_rfl) (by kernel_rfl) hl)).trans (dep_of (Fact := F_ksb xb xo zb zo n ca cb i sy sq af ag nf ng cf cg) hd 6 (by kernel_rfl))
                exact one_index 33 _ _ rfl rfl (.slice (some ⟨zb, zo, none⟩) n cb) (.int .i64 i) (.pointer (some ⟨zb, zo + i * 2, none⟩)) ex ey (fun w => rg_idx Try.underlying33 (show (Try.prog.info? 102).map (·.size) = some 2 by kernel_rfl) (zb) (zo) (n) (cb) (i) (by omega) w) ⟨_, rfl, Below.refl _ _, rfl⟩
              · intro vs w' F hb hd hF hl hT
                have e := ((hF 24).trans (look_at _ 24 7 _ _ (by kernel_rfl) (by kernel_rfl) hl)).trans (dep_of (Fact := F_ksb xb xo zb zo n ca cb i sy sq af ag nf ng cf cg) hd 7 (by kernel_rfl))
                exact one_field _ _ _ rfl rfl _ _ e (zo + i * 2) (fun w => by kernel_rfl) ⟨_, rfl, Below.refl _ _, rfl⟩
              · intro vs w' F hb hd hF hl hT
                have e := ((hF 25).trans (look_at _ 25 8 _ _ (by kernel_rfl) (by kernel_rfl) hl)).trans (dep_of (Fact := F_ksb xb xo zb zo n ca cb i sy sq af ag nf ng cf cg) hd 8 (by kernel_rfl))
                exact one_load _ _ rfl rfl _ _ e (cell_abides Z0.out hb) (by kernel_rfl) ⟨_, rfl, Below.refl _ _, rfl⟩
              · intro vs w' F hb hd hF hl hT
                have ex := (((hF 21).trans (look_at _ 21 4 _ _ (by kernel_rfl) (by kernel_rfl) hl)).trans (dep_of (Fact := F_ksb xb xo zb zo n ca cb i sy sq af ag nf ng cf cg) hd 4 (by kernel_rfl)))
                have ey := (((hF 26).trans (look_at _ 26 9 _ _ (by kernel_rfl) (by kernel_rfl) hl)).trans (dep_of (Fact := F_ksb xb xo zb zo n ca cb i sy sq af ag nf ng cf cg) hd 9 (by kernel_rfl)))
                have hr := str_neqg sy sq w'
                rw [HS.out] at hr
                exact one_binop _ 9 _ _ _ rfl rfl _ _ ex ey (.bool false) (str_guardg _ _ _ _ w') hr ⟨_, rfl, Below.refl _ _, rfl⟩
              · intro vs w' F hb hd hF hl hT
                have e := ((hF 27).trans (look_at _ 27 10 _ _ (by kernel_rfl) (by kernel_rfl) hl)).trans (dep_of (Fact := F_ksb xb xo zb zo n ca cb i sy sq af ag nf ng cf cg) hd 10 (by kernel_rfl))
                exact one_move _ rfl (by first | exact Or.inl rfl | exact Or.inr rfl) ⟨_, rfl, Below.refl _ _, e⟩
              · intro vs w' F hb hd hF hl hT
                have eg := ((hF 28).trans (look_at _ 28 11 _ _ (by kernel_rfl) (by kernel_rfl) hl)).trans (dep_of (Fact := F_ksb xb xo zb zo n ca cb i sy sq af ag nf ng cf cg) hd 11 (by kernel_rfl))
                refine wpList_on rfl (t := 28) (by kernel_rfl) eg ?_
                have e := (hF 0).trans (look_out _ 0 _ _ (by kernel_rfl))
                exact one_move _ rfl (by first | exact Or.inl rfl | exact Or.inr rfl) ⟨_, rfl, Below.refl _ _, e⟩
              · intro vs w' F hb hd hF hl hT
                have eg := ((hF 28).trans (look_at _ 28 11 _ _ (by kernel_rfl) (by kernel_rfl) hl)).trans (dep_of (Fact := F_ksb xb xo zb zo n ca cb i sy sq af ag nf ng cf cg) hd 11 (by kernel_rfl))
                refine wpList_on rfl (t := 28) (by kernel_rfl) eg ?_
                have e := (hF 5).trans (look_out _ 5 _ _ (by kernel_rfl))
                exact one_move _ rfl (by first | exact Or.inl rfl | exact Or.inr rfl) ⟨_, rfl, Below.refl _ _, e⟩
              · intro vs w' F hb hd hF hl hT
                have eg := ((hF 28).trans (look_at _ 28 11 _ _ (by kernel_rfl) (by kernel_rfl) hl)).trans (dep_of (Fact := F_ksb xb xo zb zo n ca cb i sy sq af ag nf ng cf cg) hd 11 (by kernel_rfl))
                refine wpList_on rfl (t := 28) (by kernel_rfl) eg ?_
                have ex := ((hF 29).trans (look_at _ 29 12 _ _ (by kernel_rfl) (by kernel_rfl) hl)).trans (dep_of (Fact := F_ksb xb xo zb zo n ca cb i sy sq af ag nf ng cf cg) hd 12 (by kernel_rfl))
                have ey := ((hF 30).trans (look_at _ 30 13 _ _ (by kernel_rfl) (by kernel_rfl) hl)).trans (dep_of (Fact := F_ksb xb xo zb zo n ca cb i sy sq af ag nf ng cf cg) hd 13 (by kernel_rfl))
                exact one_index 33 _ _ rfl rfl (.slice (some ⟨xb, xo, none⟩) n ca) (.int .i64 i) (.pointer (some ⟨xb, xo + i * 2, none⟩)) ex ey (fun w => rg_idx Try.underlying33 (show (Try.prog.info? 102).map (·.size) = some 2 by kernel_rfl) (xb) (xo) (n) (ca) (i) (by omega) w) ⟨_, rfl, Below.refl _ _, rfl⟩
              · intro vs w' F hb hd hF hl hT
                have eg := ((hF 28).trans (look_at _ 28 11 _ _ (by kernel_rfl) (by kernel_rfl) hl)).trans (dep_of (Fact := F_ksb xb xo zb zo n ca cb i sy sq af ag nf ng cf cg) hd 11 (by kernel_rfl))
                refine wpList_on rfl (t := 28) (by kernel_rfl) eg ?_
                have e := ((hF 31).trans (look_at _ 31 14 _ _ (by kernel_rfl) (by kernel_rfl) hl)).trans (dep_of (Fact := F_ksb xb xo zb zo n ca cb i sy sq af ag nf ng cf cg) hd 14 (by kernel_rfl))
                exact one_field _ _ _ rfl rfl _ _ e (xo + i * 2 + 1) (fun w => by kernel_rfl) ⟨_, rfl, Below.refl _ _, rfl⟩
              · intro vs w' F hb hd hF hl hT
                have eg := ((hF 28).trans (look_at _ 28 11 _ _ (by kernel_rfl) (by kernel_rfl) hl)).trans (dep_of (Fact := F_ksb xb xo zb zo n ca cb i sy sq af ag nf ng cf cg) hd 11 (by kernel_rfl))
                refine wpList_on rfl (t := 28) (by kernel_rfl) eg ?_
                have e := ((hF 32).trans (look_at _ 32 15 _ _ (by kernel_rfl) (by kernel_rfl) hl)).trans (dep_of (Fact := F_ksb xb xo zb zo n ca cb i sy sq af ag nf ng cf cg) hd 15 (by kernel_rfl))
                exact one_load _ _ rfl rfl _ _ e (cell_abides X1.out hb) (by kernel_rfl) ⟨_, rfl, Below.refl _ _, rfl⟩
              · intro vs w' F hb hd hF hl hT
                have eg := ((hF 28).trans (look_at _ 28 11 _ _ (by kernel_rfl) (by kernel_rfl) hl)).trans (dep_of (Fact := F_ksb xb xo zb zo n ca cb i sy sq af ag nf ng cf cg) hd 11 (by kernel_rfl))
                refine wpList_on rfl (t := 28) (by kernel_rfl) eg ?_
                have e := ((hF 33).trans (look_at _ 33 16 _ _ (by kernel_rfl) (by kernel_rfl) hl)).trans (dep_of (Fact := F_ksb xb xo zb zo n ca cb i sy sq af ag nf ng cf cg) hd 16 (by kernel_rfl))
                exact rg_len _ 100 99 rfl rfl Try.underlying100 af (nf) (cf) e ⟨_, rfl, Below.refl _ _, rfl⟩
              · intro vs w' F hb hd hF hl hT
                have eg := ((hF 28).trans (look_at _ 28 11 _ _ (by kernel_rfl) (by kernel_rfl) hl)).trans (dep_of (Fact := F_ksb xb xo zb zo n ca cb i sy sq af ag nf ng cf cg) hd 11 (by kernel_rfl))
                refine wpList_on rfl (t := 28) (by kernel_rfl) eg ?_
                have e := (hF 1).trans (look_out _ 1 _ _ (by kernel_rfl))
                exact one_move _ rfl (by first | exact Or.inl rfl | exact Or.inr rfl) ⟨_, rfl, Below.refl _ _, e⟩
              · intro vs w' F hb hd hF hl hT
                have eg := ((hF 28).trans (look_at _ 28 11 _ _ (by kernel_rfl) (by kernel_rfl) hl)).trans (dep_of (Fact := F_ksb xb xo zb zo n ca cb i sy sq af ag nf ng cf cg) hd 11 (by kernel_rfl))
                refine wpList_on rfl (t := 28) (by kernel_rfl) eg ?_
                have e := (hF 5).trans (look_out _ 5 _ _ (by kernel_rfl))
                exact one_move _ rfl (by first | exact Or.inl rfl | exact Or.inr rfl) ⟨_, rfl, Below.refl _ _, e⟩
              · intro vs w' F hb hd hF hl hT
                have eg := ((hF 28).trans (look_at _ 28 11 _ _ (by kernel_rfl) (by kernel_rfl) hl)).trans (dep_of (Fact := F_ksb xb xo zb zo n ca cb i sy sq af ag nf ng cf cg) hd 11 (by kernel_rfl))
                refine wpList_on rfl (t := 28) (by kernel_rfl) eg ?_
                have ex := ((hF 35).trans (look_at _ 35 18 _ _ (by kernel_rfl) (by kernel_rfl) hl)).trans (dep_of (Fact := F_ksb xb xo zb zo n ca cb i sy sq af ag nf ng cf cg) hd 18 (by kernel_rfl))
                have ey := ((hF 36).trans (look_at _ 36 19 _ _ (by kernel_rfl) (by kernel_rfl) hl)).trans (dep_of (Fact := F_ksb xb xo zb zo n ca cb i sy sq af ag nf ng cf cg) hd 19 (by kernel_rfl))
                exact one_index 33 _ _ rfl rfl (.slice (some ⟨zb, zo, none⟩) n cb) (.int .i64 i) (.pointer (some ⟨zb, zo + i * 2, none⟩)) ex ey (fun w => rg_idx Try.underlying33 (show (Try.prog.info? 102).map (·.size) = some 2 by kernel_rfl) (zb) (zo) (n) (cb) (i) (by omega) w) ⟨_, rfl, Below.refl _ _, rfl⟩
              · intro vs w' F hb hd hF hl hT
                have eg := ((hF 28).trans (look_at _ 28 11 _ _ (by kernel_rfl) (by kernel_rfl) hl)).trans (dep_of (Fact := F_ksb xb xo zb zo n ca cb i sy sq af ag nf ng cf cg) hd 11 (by kernel_rfl))
                refine wpList_on rfl (t := 28) (by kernel_rfl) eg ?_
                have e := ((hF 37).trans (look_at _ 37 20 _ _ (by kernel_rfl) (by kernel_rfl) hl)).trans (dep_of (Fact := F_ksb xb xo zb zo n ca cb i sy sq af ag nf ng cf cg) hd 20 (by kernel_rfl))
                exact one_field _ _ _ rfl rfl _ _ e (zo + i * 2 + 1) (fun w => by kernel_rfl) ⟨_, rfl, Below.refl _ _, rfl⟩
              · intro vs w' F hb hd hF hl hT
                have eg := ((hF 28).trans (look_at _ 28 11 _ _ (by kernel_rfl) (by kernel_rfl) hl)).trans (dep_of (Fact := F_ksb xb xo zb zo n ca cb i sy sq af ag nf ng cf cg) hd 11 (by kernel_rfl))
                refine wpList_on rfl (t := 28) (by kernel_rfl) eg ?_
                have e := ((hF 38).trans (look_at _ 38 21 _ _ (by kernel_rfl) (by kernel_rfl) hl)).trans (dep_of (Fact := F_ksb xb xo zb zo n ca cb i sy sq af ag nf ng cf cg) hd 21 (by kernel_rfl))
                exact one_load _ _ rfl rfl _ _ e (cell_abides Z1.out hb) (by kernel_rfl) ⟨_, rfl, Below.refl _ _, rfl⟩
              · intro vs w' F hb hd hF hl hT
                have eg := ((hF 28).trans (look_at _ 28 11 _ _ (by kernel_rfl) (by kernel_rfl) hl)).trans (dep_of (Fact := F_ksb xb xo zb zo n ca cb i sy sq af ag nf ng cf cg) hd 11 (by kernel_rfl))
                refine wpList_on rfl (t := 28) (by kernel_rfl) eg ?_
                have e := ((hF 39).trans (look_at _ 39 22 _ _ (by kernel_rfl) (by kernel_rfl) hl)).trans (dep_of (Fact := F_ksb xb xo zb zo n ca cb i sy sq af ag nf ng cf cg) hd 22 (by kernel_rfl))
                exact rg_len _ 100 99 rfl rfl Try.underlying100 ag (ng) (cg) e ⟨_, rfl, Below.refl _ _, rfl⟩
              · intro vs w' F hb hd hF hl hT
                have eg := ((hF 28).trans (look_at _ 28 11 _ _ (by kernel_rfl) (by kernel_rfl) hl)).trans (dep_of (Fact := F_ksb xb xo zb zo n ca cb i sy sq af ag nf ng cf cg) hd 11 (by kernel_rfl))
                refine wpList_on rfl (t := 28) (by kernel_rfl) eg ?_
                have e1 := ((hF 34).trans (look_at _ 34 17 _ _ (by kernel_rfl) (by kernel_rfl) hl)).trans (dep_of (Fact := F_ksb xb xo zb zo n ca cb i sy sq af ag nf ng cf cg) hd 17 (by kernel_rfl))
                have e2 := ((hF 40).trans (look_at _ 40 23 _ _ (by kernel_rfl) (by kernel_rfl) hl)).trans (dep_of (Fact := F_ksb xb xo zb zo n ca cb i sy sq af ag nf ng cf cg) hd 23 (by kernel_rfl))
                exact rg_neq _ _ _ _ rfl rfl .i64 ((nf : Int)) ((ng : Int)) true e1 e2 (decide_eq_true (by omega)) ⟨_, rfl, Below.refl _ _, rfl⟩
              · intro vs w' F hb hd hF hl hT
                have ec := ((hF 28).trans (look_at _ 28 11 _ _ (by kernel_rfl) (by kernel_rfl) hl)).trans (dep_of (Fact := F_ksb xb xo zb zo n ca cb i sy sq af ag nf ng cf cg) hd 11 (by kernel_rfl))
                have e := ((hF 41).trans (look_at _ 41 24 _ _ (by kernel_rfl) (by kernel_rfl) hl)).trans (dep_of (Fact := F_ksb xb xo zb zo n ca cb i sy sq af ag nf ng cf cg) hd 24 (by kernel_rfl))
                exact one_pick_f _ _ _ rfl rfl _ ec e ⟨_, rfl, Below.refl _ _, rfl⟩
            · intro vs8 W8 hl hb hI
              have hv : vs8.getD 25 undef = .bool true := hI 25 (by omega)
              obtain ⟨x0, x1, x2, x3, x4, x5, x6, x7, x8, x9, x10, x11, x12, x13, x14, x15, x16, x17, x18, x19, x20, x21, x22, x23, x24, x25, hvs⟩ := list26 hl
              subst hvs
              replace hv : x25 = .bool true := hv
              subst hv
              clear hI hl
              simp only [fillAll, Act.put, List.setIfInBounds_toArray, List.set_cons_succ, List.set_cons_zero]
              show wpList _ _ _ [] _ _
              have HB8 := bt HB.out hb
              clear hb
              go_wp2
              go_ret
              exact ⟨by rw [HF.out]; rfl, HB8⟩
      · have hie : i = n := by omega
        have HF := Lib.hid (show R = true by rw [HR.out]; exact eqL_eq (HN.out.trans HM.out.symm) (fun j h _ => HAT.out j (by rw [← HN.out]; exact h) (by rw [hie, ← HN.out]; exact h)))
        clear hie
        go_wp2
        go_ret
        exact ⟨by rw [HF.out]; rfl, HB.out⟩
  · have t0 : ((n : Int) != (m : Int)) = true := by rw [bne_iff_ne]; omega
    have HF := Lib.hid (show R = false by rw [HR.out]; exact eqL_len (by rw [HN.out, HM.out]; exact hnm))
    clear hnm
    go_enter Try.func71, Try.ntmps71
    go_wp2_with fail
    go_ret
    exact ⟨by rw [HF.out]; rfl, Below.refl _ _⟩
end Go.Proofs.Ytfckbkhnelgjbaa
end
