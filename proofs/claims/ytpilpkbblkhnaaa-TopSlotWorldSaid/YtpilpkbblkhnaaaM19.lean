/- Lemmas for the law TopSlotWorld: MerkleD, DigInj, TdpP, SortL, CmpI, WFitC, FitP, WFit. No conditions. -/
import Derived.Test.YtpilpkbblkhnaaaM02
import Derived.Test.YtpilpkbblkhnaaaM01
import Derived.Test.YtpilpkbblkhnaaaM03
import Derived.Test.YtpilpkbblkhnaaaM14
import Derived.Test.YtpilpkbblkhnaaaM18
import Derived.Shelf.SlSortCmp.WholeK
import Derived.Shelf.SlLaysF0
import Derived.Shelf.SlGeneric
import Derived.Ground.SlsfProg
import Derived.Test.YtpilpkbblkhnaaaProg
import Derived.Test.YtpilpkbblkhnaaaRows
import Derived.Test.YtpilpkbblkhnaaaM10
import Derived.Test.YtpilpkbblkhnaaaM11
import Derived.Deep.LoopGhost
import Derived.Test.YtpilpkbblkhnaaaM15
/- Trees of digests whose lists differ in one leaf: plain. -/
section
namespace Go.Mk
section
variable (T : Int → Int → Int) (D : Int → Prop)
/-- What is asked of the digest of two digests. -/
structure Inj2 : Prop where
  in_ : ∀ a b, D (T a b)
  left : ∀ a a' b, D a → D a' → T a b = T a' b → a = a'
  right : ∀ a b b', D b → D b' → T a b = T a b' → b = b'
end
end Go.Mk
end
/- Digests differ where one number does: plain. -/
section
namespace Go.Proofs.Ytpilpkbblkhnaaa
open Go.Mk
set_option linter.unusedVariables false
theorem over_inj (j : Nat) (hj : 1 ≤ j) {x y : Nat} (h : over x (2 ^ j) = over y (2 ^ j)) : x = y := by
  have e : ∀ z, over z (2 ^ j) = z ^^^ (z >>> j) := fun z => by unfold over; rw [Nat.shiftRight_eq_div_pow]
  rw [e, e] at h
  have h2 : (x ^^^ y) = (x ^^^ y) >>> j := by
    rw [Nat.shiftRight_xor_distrib]
    have := congrArg (fun z => z ^^^ (y ^^^ (x >>> j))) h
    rw [show x ^^^ x >>> j ^^^ (y ^^^ x >>> j) = (x ^^^ y) ^^^ ((x >>> j) ^^^ (x >>> j)) by ac_rfl, show y ^^^ y >>> j ^^^ (y ^^^ x >>> j) = (y ^^^ y) ^^^ ((x >>> j) ^^^ (y >>> j)) by ac_rfl, Nat.xor_self, Nat.xor_self, Nat.xor_zero, Nat.zero_xor] at this
    exact this
  have h3 : x ^^^ y = 0 := by
    rcases Nat.eq_zero_or_pos (x ^^^ y) with h0 | h0
    · exact h0
    · rw [Nat.shiftRight_eq_div_pow] at h2
      have := Nat.div_lt_self h0 (show 1 < 2 ^ j from Nat.one_lt_two_pow (by omega))
      omega
  have := congrArg (fun z => z ^^^ y) h3
  rwa [Nat.xor_assoc, Nat.xor_self, Nat.xor_zero, Nat.zero_xor] at this
theorem mul_inj64 (c d : Nat) (hcd : c * d % 18446744073709551616 = 1) {x y : Nat} (hx : x < 18446744073709551616) (hy : y < 18446744073709551616) (h : x * c % 18446744073709551616 = y * c % 18446744073709551616) : x = y := by
  have key : ∀ z, z < 18446744073709551616 → (z * c % 18446744073709551616) * d % 18446744073709551616 = z := fun z hz => by
    rw [Nat.mod_mul_mod, Nat.mul_assoc, Nat.mul_mod, hcd, Nat.mul_one, Nat.mod_mod, Nat.mod_eq_of_lt hz]
  rw [← key x hx, ← key y hy, h]
theorem mix1_inj {x y : Nat} (hx : x < 18446744073709551616) (hy : y < 18446744073709551616) (h : mix1 x = mix1 y) : x = y :=
  over_inj 31 (by decide) (mul_inj64 7640891576956012809 17228112808425395513 (by decide +kernel) (over_lt x _ hx) (over_lt y _ hy) h)
theorem mix1_lt (x : Nat) : mix1 x < 18446744073709551616 := Nat.mod_lt _ (by decide)
theorem mix2_inj {x y : Nat} (hx : x < 18446744073709551616) (hy : y < 18446744073709551616) (h : mix2 x = mix2 y) : x = y :=
  mix1_inj hx hy (over_inj 27 (by decide) (mul_inj64 13503953896175478587 517726987020900851 (by decide +kernel) (over_lt _ _ (mix1_lt x)) (over_lt _ _ (mix1_lt y)) h))
theorem mix_inj {x y : Nat} (hx : x < 18446744073709551616) (hy : y < 18446744073709551616) (h : mix x = mix y) : x = y := mix2_inj hx hy (over_inj 30 (by decide) h)
theorem add_inj64 {X Y b : Nat} (h : (X + b) % 18446744073709551616 = (Y + b) % 18446744073709551616) : X % 18446744073709551616 = Y % 18446744073709551616 := by omega
theorem add_inj64r {X b b' : Nat} (hb : b < 18446744073709551616) (hb' : b' < 18446744073709551616) (h : (X + b) % 18446744073709551616 = (X + b') % 18446744073709551616) : b = b' := by omega
theorem tied_left {a a' b : Nat} (ha : a < 18446744073709551616) (ha' : a' < 18446744073709551616) (h : tied a b = tied a' b) : a = a' := by
  have h1 := mix_inj (Nat.mod_lt _ (by decide)) (Nat.mod_lt _ (by decide)) h
  have h3 := mul_inj64 11170449401992604703 9861552557614567391 (by decide +kernel) (mix_lt _) (mix_lt _) (add_inj64 h1)
  have h4 := add_inj64 (mix_inj (Nat.mod_lt _ (by decide)) (Nat.mod_lt _ (by decide)) h3)
  rwa [Nat.mod_eq_of_lt ha, Nat.mod_eq_of_lt ha'] at h4
theorem tied_right {a b b' : Nat} (hb : b < 18446744073709551616) (hb' : b' < 18446744073709551616) (h : tied a b = tied a b') : b = b' :=
  add_inj64r hb hb' (mix_inj (Nat.mod_lt _ (by decide)) (Nat.mod_lt _ (by decide)) h)
theorem dig1_ne (l : List Int) : ∀ {d d' : Nat}, d < 18446744073709551616 → d' < 18446744073709551616 → d ≠ d' → dig1 d l ≠ dig1 d' l := by
  induction l with
  | nil => intro d d' _ _ h; exact h
  | cons a l ih => intro d d' h1 h2 h; exact ih (tie_lt _ _) (tie_lt _ _) (fun e => h (tied_left h1 h2 e))
theorem dig1_app (d : Nat) (p q : List Int) : dig1 d (p ++ q) = dig1 (dig1 d p) q := by
  induction p generalizing d with
  | nil => rfl
  | cons a p ih => exact ih _
/-- one number differs: so do the digests -/
theorem dig_ne (p q : List Int) (x y : Int) (h : W64.u x ≠ W64.u y) : dig (p ++ x :: q) ≠ dig (p ++ y :: q) := by
  unfold dig
  rw [show (p ++ x :: q).length = (p ++ y :: q).length by simp, dig1_app, dig1_app]
  exact dig1_ne q (tie_lt _ _) (tie_lt _ _) (fun e => h (tied_right (W64.u_lt x) (W64.u_lt y) e))
end Go.Proofs.Ytpilpkbblkhnaaa
end
/- The law TopDigestPlace: plain. -/
section
namespace Go.Proofs.Ytpilpkbblkhnaaa
open Go.ChangeShapes Go.WideShapes Go.ChangeAt Go.RowKit Go.Nm Go.Mem Go.Mk
set_option linter.unusedVariables false
/-! Worlds that tourmake makes are valid and small. -/
theorem ValsOk.fit {fs : List FieldV} {vs : List Int} (h : ValsOk fs vs) (hl : vs.length = fs.length) : fitL fs vs = vs := by
  unfold fitL
  apply List.ext_getElem
  · rw [List.length_zipWith]; omega
  · intro j h1 h2
    rw [List.getElem_zipWith]
    have hv := h.2 j h2 (by omega)
    unfold ValOk at hv
    unfold nearV nearF topF
    have hc : ((2 : Int) ^ (fs[j]'(by omega)).bits.toNat) = ((2 ^ (fs[j]'(by omega)).bits.toNat : Nat) : Int) := by simp
    rw [hc]
    generalize (2 ^ (fs[j]'(by omega)).bits.toNat : Nat) = P at hv ⊢
    omega
theorem CsOk.held {ks : List KindV} {cs : List CompV} (hk : KsOk ks) (h : CsOk ks ks.length cs) : heldB ks cs = true := by
  rw [heldB_iff]
  refine ⟨h.2.1, fun c hc => ?_⟩
  obtain ⟨h0, h1, h2, h3⟩ := (h.2.2 c hc).2
  refine ⟨h0, h1, ?_⟩
  have hi : c.kind.toNat < ks.length := by omega
  have hg : ks.getD c.kind.toNat default = ks[c.kind.toNat] := by rw [List.getD_eq_getElem?_getD, List.getElem?_eq_getElem hi]; rfl
  rw [hg] at h2 h3 ⊢
  have he := (hk.2 _ hi).err (by have := hk.1; omega)
  unfold holdsB fitE
  rw [he, if_neg (by simp), if_neg (by omega), h3.fit h2]
  simp
theorem WOk.check {y : WorldV} (h : WOk y) : checkE y = 0 := by
  obtain ⟨hk, hk1, hg, hgo, hl, h8, hp, hi⟩ := h
  have hgen : ∀ i, i < y.gens.length → 0 ≤ y.gens.getD i 0 ∧ y.gens.getD i 0 < 3 := fun i hi => by
    rw [List.getD_eq_getElem?_getD, List.getElem?_eq_getElem hi]
    exact hgo _ (List.getElem_mem _)
  unfold checkE
  rw [hk.err, if_neg (by simp), if_neg (by omega), if_pos]
  refine ⟨(gensAt_iff _ _).2 (fun i hi => by have := hgen i hi; omega), (itemsAt_iff y _ (Nat.le_refl _)).2 ?_⟩
  rw [List.take_length]
  refine ⟨hp, fun t ht => ?_⟩
  obtain ⟨g1, g2, g3, g4⟩ := hi t ht
  exact ⟨g1, g2, g3, by have := hgen t.n.toNat (by omega); omega, g4.held hk⟩
theorem sum_le {α : Type} (f : α → Nat) (B : Nat) : ∀ (l : List α), (∀ x ∈ l, f x ≤ B) → (l.map f).sum ≤ B * l.length
  | [], _ => by simp
  | a :: l, h => by
    have h1 := sum_le f B l (fun x hx => h x (List.mem_cons_of_mem _ hx))
    have h2 := h a (List.mem_cons_self ..)
    rw [List.map_cons, List.sum_cons, List.length_cons, Nat.mul_add]; omega
theorem comp_small' {ks : List KindV} {i : Nat} {cs : List CompV} (hk : KsOk ks) (h : CsOk ks i cs) : ∀ c ∈ cs, c.vals.length ≤ 3 := fun c hc => by
  obtain ⟨h0, h1, h2, _⟩ := (h.2.2 c hc).2
  rw [h2]
  have hl : c.kind.toNat < ks.length := by omega
  rw [List.getD_eq_getElem?_getD, List.getElem?_eq_getElem hl]
  exact (hk.2 _ hl).2.1
theorem fname_small : ∀ j : Fin 3, (fname j.val).size ≤ 100 := by decide
theorem kname_small : ∀ j : Fin 4, (kname j.val).size ≤ 100 := by decide
theorem WOk.cost {y : WorldV} (h : WOk y) : costWorld y ≤ 100000 := by
  obtain ⟨hk, hk1, hg, hgo, hl, h8, hp, hi⟩ := h
  have h4 := hk.1
  have c1 : (y.kinds.map costKind).sum ≤ 1000 * y.kinds.length := sum_le _ _ _ (fun k hkm => by
    obtain ⟨i, hi, rfl⟩ := List.getElem_of_mem hkm
    have ho := hk.2 i hi
    have h3 := ho.2.1
    have hn := kname_small ⟨i, by omega⟩
    have c2 : ((y.kinds[i]).fields.map costField).sum ≤ 101 * (y.kinds[i]).fields.length := sum_le _ _ _ (fun f hf => by
      obtain ⟨j, hj, rfl⟩ := List.getElem_of_mem hf
      have hfo := (ho.2.2 j hj).1
      have := fname_small ⟨j, by omega⟩
      unfold costField
      rw [hfo]
      simp only at this
      omega)
    unfold costKind
    rw [ho.1]
    simp only at hn
    omega)
  have c3 : (y.items.map costItem).sum ≤ 100 * y.items.length := sum_le _ _ _ (fun t ht => by
    obtain ⟨_, _, _, hc⟩ := hi t ht
    have h5 := hc.1
    have c4 : (t.comps.map costComp).sum ≤ 4 * t.comps.length := sum_le _ _ _ (fun c hcm => by
      have := comp_small' hk hc c hcm
      unfold costComp; omega)
    unfold costItem; omega)
  unfold costWorld
  omega
theorem WOk.fine {y : WorldV} (h : WOk y) : FineW y := fine_of (by have := h.cost; omega)
theorem WOk.small {y : WorldV} (h : WOk y) : SmallW y := by
  have f := h.fine
  exact ⟨f.kl, f.gl, f.il, fun t ht => ⟨(f.i t ht).1, fun c hc => (f.i t ht).2 c hc⟩⟩
/-! One value changed. -/
/-- two lists that differ in one number -/
def Df (a b : List Int) : Prop := ∃ (P Q : List Int) (x y : Int), a = P ++ x :: Q ∧ b = P ++ y :: Q ∧ W64.u x ≠ W64.u y
theorem Df.left {a b : List Int} (L : List Int) : Df a b → Df (L ++ a) (L ++ b) := fun ⟨P, Q, x, y, h1, h2, h3⟩ => ⟨L ++ P, Q, x, y, by rw [h1, List.append_assoc], by rw [h2, List.append_assoc], h3⟩
theorem Df.right {a b : List Int} (R : List Int) : Df a b → Df (a ++ R) (b ++ R) := fun ⟨P, Q, x, y, h1, h2, h3⟩ => ⟨P, Q ++ R, x, y, by rw [h1, List.append_assoc]; rfl, by rw [h2, List.append_assoc]; rfl, h3⟩
theorem Df.dig {a b : List Int} : Df a b → dig a ≠ dig b := fun ⟨P, Q, x, y, h1, h2, h3⟩ => by rw [h1, h2]; exact dig_ne P Q x y h3
structure Tdp (y z : WorldV) (at_ n : Nat) (A B : List Int) (ra rb x x' : Nat) : Prop where
  wz : WOk z
  chk : checkE z = 0
  fy : FineW y
  fz : FineW z
  sy : SmallW y
  sz : SmallW z
  dg : dig (intsW y) ≠ dig (intsW z)
  sm : sameB y z = false
  an : A = y.items.map leafD
  bn : B = z.items.map leafD
  al : A.length = n
  bl : B.length = n
  n8 : n ≤ 8
  lt : at_ < n
  ua : U64s A
  ub : U64s B
  nw : (narrow (fill A B) (fill B A)).1 = (at_ : Int)
  ta : top tieI A = (ra : Int)
  ral : ra < 18446744073709551616
  tb : top tieI B = (rb : Int)
  rr : ra ≠ rb
  xa : A.getD at_ 0 = (x : Int)
  xl : x < 18446744073709551616
  xb : B.getD at_ 0 = (x' : Int)
  xl' : x' < 18446744073709551616
  v1 : ver tieI n at_ x (prov tieI A at_) = some (ra : Int)
  v2 : ver tieI n at_ x' (prov tieI A at_) ≠ some (ra : Int)
  up : U64s (prov tieI A at_)
end Go.Proofs.Ytpilpkbblkhnaaa
end
/- Layings of the kit's shelf at this translation, in plain words. -/
section
namespace Go.Proofs
open Go.Shelf
def Try.sortComps_ren : Go.Shelf.Ren := ⟨fun | 6 => 56 | 15 => 73 | 14 => 72 | 28 => 86 | 29 => 87 | 20 => 78 | 21 => 79 | 22 => 80 | 23 => 81 | 24 => 82 | 25 => 83 | 26 => 84 | 27 => 85 | 46 => 89 | 47 => 90 | 48 => 91 | 49 => 92 | 50 => 93 | 57 => 94 | n => n, fun | 22 => 31 | 24 => 60 | 25 => 111 | 3 => 3 | 39 => 104 | 0 => 0 | 53 => 137 | 55 => 61 | 4 => 4 | 46 => 131 | 45 => 130 | 50 => 83 | 5 => 5 | 9 => 9 | 66 => 140 | 70 => 144 | 76 => 146 | 77 => 147 | n => n, fun | n => n⟩
theorem Try.sortComps : Go.Proofs.SlLaysF0.n6 Try.prog Try.sortComps_ren := {
  mixed := by kernel_rfl
  f6 := ⟨Try.f56.name, by decide, Try.func56.trans (congrArg some (by kernel_rfl))⟩
  f14 := ⟨Try.f72.name, by decide, Try.func72.trans (congrArg some (by kernel_rfl))⟩
  f15 := Try.func73.trans (congrArg some (by kernel_rfl))
  f20 := ⟨Try.f78.name, by decide, Try.func78.trans (congrArg some (by kernel_rfl))⟩
  f21 := ⟨Try.f79.name, by decide, Try.func79.trans (congrArg some (by kernel_rfl))⟩
  f22 := ⟨Try.f80.name, by decide, Try.func80.trans (congrArg some (by kernel_rfl))⟩
  f23 := ⟨Try.f81.name, by decide, Try.func81.trans (congrArg some (by kernel_rfl))⟩
  f24 := ⟨Try.f82.name, by decide, Try.func82.trans (congrArg some (by kernel_rfl))⟩
  f25 := ⟨Try.f83.name, by decide, Try.func83.trans (congrArg some (by kernel_rfl))⟩
  f26 := ⟨Try.f84.name, by decide, Try.func84.trans (congrArg some (by kernel_rfl))⟩
  f27 := ⟨Try.f85.name, by decide, Try.func85.trans (congrArg some (by kernel_rfl))⟩
  f28 := Try.func86.trans (congrArg some (by kernel_rfl))
  f29 := Try.func87.trans (congrArg some (by kernel_rfl))
  f46 := ⟨Try.f89.name, by decide, Try.func89.trans (congrArg some (by kernel_rfl))⟩
  f47 := Try.func90.trans (congrArg some (by kernel_rfl))
  f48 := Try.func91.trans (congrArg some (by kernel_rfl))
  f49 := ⟨Try.f92.name, by decide, Try.func92.trans (congrArg some (by kernel_rfl))⟩
  f50 := ⟨Try.f93.name, by decide, Try.func93.trans (congrArg some (by kernel_rfl))⟩
  f57 := ⟨Try.f94.name, by decide, Try.func94.trans (congrArg some (by kernel_rfl))⟩
  t0 := Try.underlying0
  a0 := Try.isAgg0
  z0 := Try.sizeOf0
  v0 := Try.zeroValue0
  t3 := Try.underlying3
  a3 := Try.isAgg3
  z3 := Try.sizeOf3
  v3 := Try.zeroValue3
  t4 := Try.underlying4
  a4 := Try.isAgg4
  z4 := Try.sizeOf4
  v4 := Try.zeroValue4
  t5 := Try.underlying5
  a5 := Try.isAgg5
  z5 := Try.sizeOf5
  v5 := Try.zeroValue5
  t9 := Try.underlying9
  a9 := Try.isAgg9
  z9 := Try.sizeOf9
  v9 := Try.zeroValue9
  t22 := Try.underlying31
  a22 := Try.isAgg31
  z22 := Try.sizeOf31
  v22 := Try.zeroValue31
  t25 := Try.underlying111
  a25 := Try.isAgg111
  z25 := Try.sizeOf111
  v25 := Try.zeroValue111
  t39 := Try.underlying104
  a39 := Try.isAgg104
  z39 := Try.sizeOf104
  v39 := Try.zeroValue104
  t45 := Try.underlying130
  a45 := Try.isAgg130
  z45 := Try.sizeOf130
  v45 := Try.zeroValue130
  t46 := Try.underlying131
  a46 := Try.isAgg131
  z46 := Try.sizeOf131
  v46 := Try.zeroValue131
  t50 := Try.underlying83
  a50 := Try.isAgg83
  z50 := Try.sizeOf83
  v50 := Try.zeroValue83
  t53 := Try.underlying137
  a53 := Try.isAgg137
  z53 := Try.sizeOf137
  v53 := Try.zeroValue137
  t55 := Try.underlying61
  a55 := Try.isAgg61
  z55 := Try.sizeOf61
  v55 := Try.zeroValue61
  t66 := Try.underlying140
  a66 := Try.isAgg140
  z66 := Try.sizeOf140
  v66 := Try.zeroValue140
  t70 := Try.underlying144
  a70 := Try.isAgg144
  z70 := Try.sizeOf144
  v70 := Try.zeroValue144
  t76 := Try.underlying146
  a76 := Try.isAgg146
  z76 := Try.sizeOf146
  v76 := Try.zeroValue146
  t77 := Try.underlying147
  a77 := Try.isAgg147
  z77 := Try.sizeOf147
  v77 := Try.zeroValue147 }
end Go.Proofs
end
/- cmp.Compare of ints. -/
section
namespace Go.Proofs.Ytpilpkbblkhnaaa
open Go.ChangeShapes Go.WideShapes Go.ChangeAt Go.RowKit Go.Mem
set_option linter.unusedVariables false
def cmpI (x y : Int) : Int := if x < y then -1 else if y < x then 1 else 0
theorem nan_int (x : Int) (w : World) : Calls Try.prog 60 #[.int .i64 x] w fun e w' => e = .returned (.bool false) ∧ w' = w := by
  have t1 : (x != x) = false := bne_self_eq_false _
  go_enter Try.func60, Try.ntmps60
  go_wp2
  go_ret
  exact ⟨rfl, rfl⟩
theorem cmp_ints (x y : Int) (w : World) : Calls Try.prog 34 #[.int .i64 x, .int .i64 y] w fun e w' => e = .returned (.int .i64 (cmpI x y)) ∧ w' = w := by
  have N1 := Lib.hid (nan_int x w)
  have N2 := Lib.hid (nan_int y w)
  go_enter Try.func34, Try.ntmps34
  go_wp2_with fail
  refine N1.out.mono ?_
  rintro e w1 ⟨rfl, rfl⟩
  go_wp2_with fail
  refine N2.out.mono ?_
  rintro e w2 ⟨rfl, rfl⟩
  by_cases h1 : x < y
  · have HC := Lib.hid (show cmpI x y = -1 from if_pos h1)
    go_wp2
    go_ret
    exact ⟨by rw [HC.out]; rfl, rfl⟩
  · by_cases h2 : y < x
    · have HC := Lib.hid (show cmpI x y = 1 by unfold cmpI; rw [if_neg h1, if_pos h2])
      go_wp2
      go_ret
      exact ⟨by rw [HC.out]; rfl, rfl⟩
    · have HC := Lib.hid (show cmpI x y = 0 by unfold cmpI; rw [if_neg h1, if_neg h2])
      go_wp2
      go_ret
      exact ⟨by rw [HC.out]; rfl, rfl⟩
end Go.Proofs.Ytpilpkbblkhnaaa
end
/- slices.ContainsFunc and IndexFunc at components, with world.Fit's closure. -/
section
namespace Go.Proofs.Ytpilpkbblkhnaaa
open Go.ChangeShapes Go.WideShapes Go.ChangeAt Go.RowKit Go.Nm Go.Mem
set_option linter.unusedVariables false
def hasK (l : List CompV) (k : Int) : Bool := l.any fun y => decide (y.kind = k)
theorem hasK_true {l : List CompV} {k : Int} (i : Nat) (h : i < l.length) (hk : l[i].kind = k) : hasK l k = true := by
  unfold hasK
  rw [List.any_eq_true]
  exact ⟨_, List.getElem_mem h, decide_eq_true hk⟩
theorem hasK_false {l : List CompV} {k : Int} (h : ∀ i (hi : i < l.length), l[i].kind ≠ k) : hasK l k = false := by
  unfold hasK
  rw [List.any_eq_false]
  intro x hx
  obtain ⟨i, hi, rfl⟩ := List.getElem_of_mem hx
  rw [decide_eq_false (h i hi)]
  exact Bool.false_ne_true
set_option maxHeartbeats 4000000 in
theorem clos_comp (y k : Int) (ay : Option Addr) (f cy : Nat) (B : Nat) (W : World) (hs : W.cell? ⟨B, 0, none⟩ = some (.int .i64 k)) :
    Calls Try.prog 54 #[.agg #[.int .i64 y, .slice ay f cy], .pointer (some ⟨B, 0, none⟩)] W fun e w' => e = .returned (.bool (decide (y = k))) ∧ Below W.heap.size W w' := by
  have hb0 := (Below.refl W.heap.size W).alloc (Nat.le_refl _) (.cells #[.int .i64 y, .slice ay f cy] 60)
  have hs1 := cell_abides hs hb0
  have HB0 := Lib.hid hb0
  clear hs hb0
  go_enter Try.func54, Try.ntmps54
  by_cases h : y = k
  · have HD := Lib.hid (decide_eq_true h)
    rw [HD.out]
    subst h
    go_wp2_with fail
    go_ret
    exact ⟨rfl, HB0.out⟩
  · have t1 : (y == k) = false := by simpa using h
    have HD := Lib.hid (decide_eq_false h)
    rw [HD.out]
    go_wp2_with fail
    go_ret
    exact ⟨rfl, HB0.out⟩
set_option maxHeartbeats 4000000 in
theorem idx_comps (l : List CompV) (a : Option Addr) (n cap : Nat) (s : Int) (B : Nat) (hn : l.length = n) (h1 : n ≤ 17592186044000) (W : World) (hz : SlAt 2 CompAt W a l) (hs : W.cell? ⟨B, 0, none⟩ = some (.int .i64 s)) :
    Calls Try.prog 70 #[.slice a n cap, .func (.func 54) #[] #[.pointer (some ⟨B, 0, none⟩)]] W fun e w' => (∃ r : Int, e = .returned (.int .i64 r) ∧ decide (0 ≤ r) = hasK l s) ∧ Below W.heap.size W w' := by
  obtain ⟨R, hR⟩ : ∃ R, R = hasK l s := ⟨_, rfl⟩
  rw [← hR]
  have HR := Lib.hid hR
  have HN := Lib.hid hn
  have HZ := Lib.hid hz
  have HS := Lib.hid hs
  clear hR hn hz hs
  go_enter Try.func70, Try.ntmps70
  go_wp2_with fail
  go_loopg [5, 8] n (fun gk v5 vi wx => ∃ i : Nat, i ≤ n ∧ gk = n - i ∧ vi = .int .i64 i ∧ (∀ j (h : j < l.length), j < i → l[j].kind ≠ s) ∧ Below W.heap.size W wx)
  case atStart => exact ⟨0, Nat.zero_le _, rfl, rfl, fun j h h2 => absurd h2 (by omega), Below.refl _ _⟩
  case round =>
    obtain ⟨i, hi, g2, rfl, hat, hb⟩ := hrel
    have G2 := Lib.hid g2
    have HAT := Lib.hid hat
    have HB := Lib.hid hb
    have hbs := hb.size
    clear g2 hat hb
    by_cases hlt : i < n
    · obtain ⟨x, rfl, hx, hix⟩ := (HZ.out.below CompAt.abides HB.out) (by rw [HN.out]; omega)
      obtain ⟨k0, ay, cy, k1, _⟩ := hix i (by rw [HN.out]; exact hlt)
      obtain ⟨y, hy⟩ : ∃ y, y = l[i]'(by rw [HN.out]; exact hlt) := ⟨_, rfl⟩
      rw [← hy] at k0 k1
      obtain ⟨kn, hkn⟩ : ∃ kn, kn = y.kind := ⟨_, rfl⟩
      rw [← hkn] at k0
      have hs2 := cell_abides HS.out HB.out
      have HC := Lib.hid (clos_comp kn s ay y.vals.length cy B wr hs2)
      have HY := Lib.hid hy
      have HKN := Lib.hid hkn
      clear hix hy hs2 hkn
      obtain ⟨r, hr⟩ : ∃ r, r = decide (kn = s) := ⟨_, rfl⟩
      rw [← hr] at HC
      have HR2 := Lib.hid hr
      clear hr
      go_wp2_with fail
      refine HC.out.mono ?_
      rintro e w1 ⟨rfl, hb1⟩
      have HB2 := Lib.hid (HB.out.trans (hb1.mono hbs))
      clear hb1 HC
      cases r
      · have HE := Lib.hid (of_decide_eq_false HR2.out.symm)
        go_wp2_with fail
        go_roundg (n - (i + 1))
        case measure => rw [G2.out]; omega
        case rel => exact ⟨i + 1, hlt, rfl, by go_num, fun j h hj => by
          by_cases hji : j < i
          · exact HAT.out j h hji
          · obtain rfl : j = i := by omega
            rw [← HY.out, ← HKN.out]; exact HE.out, HB2.out⟩
      · have HF := Lib.hid (show decide (0 ≤ (i : Int)) = R by
          rw [HR.out, hasK_true i (by rw [HN.out]; exact hlt) (by rw [← HY.out, ← HKN.out]; exact of_decide_eq_true HR2.out.symm), decide_eq_true (by omega)])
        go_wp2_with fail
        go_ret
        exact ⟨⟨_, rfl, HF.out⟩, HB2.out⟩
    · have HF := Lib.hid (show decide (0 ≤ (-1 : Int)) = R by
        rw [HR.out, hasK_false (fun j hj => HAT.out j hj (by rw [HN.out] at hj; omega))]; rfl)
      go_wp2_with fail
      go_ret
      exact ⟨⟨_, rfl, HF.out⟩, HB.out⟩
set_option maxHeartbeats 4000000 in
theorem con_comps (l : List CompV) (a : Option Addr) (n cap : Nat) (s : Int) (B : Nat) (hn : l.length = n) (h1 : n ≤ 17592186044000) (W : World) (hz : SlAt 2 CompAt W a l) (hs : W.cell? ⟨B, 0, none⟩ = some (.int .i64 s)) :
    Calls Try.prog 53 #[.slice a n cap, .func (.func 54) #[] #[.pointer (some ⟨B, 0, none⟩)]] W fun e w' => e = .returned (.bool (hasK l s)) ∧ Below W.heap.size W w' := by
  have HC := Lib.hid (idx_comps l a n cap s B hn h1 W hz hs)
  clear hn hz hs
  go_enter Try.func53, Try.ntmps53
  go_wp2_with fail
  refine HC.out.mono ?_
  rintro e w1 ⟨⟨r, rfl, hr⟩, hb1⟩
  have HR := Lib.hid hr
  have HB1 := Lib.hid hb1
  clear hr hb1
  go_wp2_with fail
  go_ret
  exact ⟨by rw [← HR.out]; rfl, HB1.out⟩
end Go.Proofs.Ytpilpkbblkhnaaa
end
/- Fitted components, sorted by their kinds: the plain law of world.Fit. No program is walked here. -/
section
namespace Go.Proofs.Ytpilpkbblkhnaaa
open Go.ChangeShapes Go.WideShapes Go.ChangeAt Go.RowKit Go.Nm Go.Mem Go.Maps
set_option linter.unusedVariables false
def fitC (ks : List KindV) (c : CompV) : CompV := ⟨c.kind, fitL (ks.getD c.kind.toNat default).fields c.vals⟩
def fitOut (ks : List KindV) (l : List CompV) : List CompV := l.map (fitC ks)
theorem fitGo_ne (ks : List KindV) : ∀ (l : List CompV) (M : Part), (fitGo ks l M).1 = 0 → l.Pairwise (fun x y => x.kind ≠ y.kind)
  | [], M, _ => List.Pairwise.nil
  | c :: r, M, h => by
    unfold fitGo at h
    split at h
    · simp at h
    · rename_i h1
      split at h
      · simp at h
      · split at h
        · rename_i h3
          exact absurd h h3
        · refine List.pairwise_cons.2 ⟨fun d hd e => ?_, fitGo_ne ks r _ h⟩
          have := ((fitGo_ok ks r _ h).1 d hd).2.2.2.1
          rw [← e, updF_same] at this
          cases this
theorem sorted_fit {ks : List KindV} {l l' : List CompV} (hk : ks.length ≤ 16) (hE : fitAllE ks l = 0) (hp : l'.Perm (fitOut ks l)) (hs : l'.Pairwise (fun x y => ¬ y.kind < x.kind)) : l' = listed (fitAllM ks l) := by
  obtain ⟨q1, q2⟩ := fitGo_ok ks l _ hE
  have hne : (fitOut ks l).Pairwise (fun x y => x.kind ≠ y.kind) := by
    unfold fitOut
    rw [List.pairwise_map]
    exact fitGo_ne ks l _ hE
  have hne' : l'.Pairwise (fun x y => x.kind ≠ y.kind) := (hp.pairwise_iff (fun {x y} h e => h e.symm)).2 hne
  have hlt : l'.Pairwise (fun x y => x.kind < y.kind) := (List.Pairwise.and hs hne').imp fun h => by omega
  rw [listed_listK]
  refine sorted_ext CompV.kind hlt (listK_sorted CompV.kind (fun i b => rfl) _ _) fun x => ?_
  rw [mem_listK, hp.mem_iff]
  unfold fitOut
  rw [List.mem_map]
  constructor
  · rintro ⟨c, hc, rfl⟩
    obtain ⟨g1, g2, g3, g4, g5⟩ := q1 c hc
    refine ⟨c.kind.toNat, by omega, _, g5, ?_⟩
    unfold fitC
    rw [show ((c.kind.toNat : Nat) : Int) = c.kind by omega]
  · rintro ⟨i, hi, L, hL, rfl⟩
    by_cases he : ∃ c ∈ l, c.kind.toNat = i
    · obtain ⟨c, hc, rfl⟩ := he
      obtain ⟨g1, g2, g3, g4, g5⟩ := q1 c hc
      refine ⟨c, hc, ?_⟩
      rw [show (fitGo ks l fun x => none).2 = fitAllM ks l from rfl, hL] at g5
      injection g5 with g5
      unfold fitC
      rw [g5, show ((c.kind.toNat : Nat) : Int) = c.kind by omega]
    · have := q2 i (fun c hc e => he ⟨c, hc, e⟩)
      rw [show (fitGo ks l fun x => none).2 = fitAllM ks l from rfl, hL] at this
      cases this
theorem sl_take {α : Type} {sz : Nat} {E : World → Addr → α → Prop} {w : World} {a : Option Addr} {l : List α} (h : SlAt sz E w a l) (i : Nat) : SlAt sz E w a (l.take i) := fun h0 => by
  rw [List.length_take] at h0
  obtain ⟨x, e, hx, hi⟩ := h (by omega)
  refine ⟨x, e, hx, fun j hj => ?_⟩
  rw [List.length_take] at hj
  rw [List.getElem_take]
  exact hi j (by omega)
theorem hasK_snoc (l : List CompV) (c : CompV) (k : Int) : hasK (l ++ [c]) k = (hasK l k || decide (c.kind = k)) := by
  unfold hasK
  rw [List.any_append]
  simp
theorem take_snocC {α : Type} (l : List α) (i : Nat) (h : i < l.length) : l.take (i + 1) = l.take i ++ [l[i]] := by
  rw [List.take_add_one, List.getElem?_eq_getElem h]; rfl
theorem upd_has {M : Part} {l : List CompV} {c : CompV} {q : Nat} {L : List Int} (h : ∀ k : Nat, (M k).isSome = hasK l k) (hc : c.kind = (q : Int)) : ∀ k : Nat, (updF M q L k).isSome = hasK (l ++ [c]) k := fun k => by
  rw [hasK_snoc, hc]
  by_cases e : k = q
  · subst e
    rw [updF_same, decide_eq_true rfl, Bool.or_true]; rfl
  · rw [updF_other _ _ e, h k, decide_eq_false (by omega), Bool.or_false]
end Go.Proofs.Ytpilpkbblkhnaaa
end
/- world.Fit. -/
section
namespace Go.Proofs.Ytpilpkbblkhnaaa
open Go.ChangeShapes Go.WideShapes Go.ChangeAt Go.RowKit Go.Nm Go.Mem Go.Maps
set_option linter.unusedVariables false
def FitWR (KE RE : Int) (RM : Part) (W : World) (e : Ending) (w' : World) : Prop :=
  ((KE ≠ 0 ∧ e = .returned (.tuple #[.slice none 0 0, .int .i64 KE])) ∨ (KE = 0 ∧ RE ≠ 0 ∧ e = .returned (.tuple #[.slice none 0 0, .int .i64 RE])) ∨
   (KE = 0 ∧ RE = 0 ∧ ∃ a c, e = .returned (.tuple #[.slice a (listed RM).length c, .int .i64 0]) ∧ Up W.heap.size (fun w => SlAt 2 CompAt w a (listed RM)) w')) ∧ Below W.heap.size W w'
theorem FitWR.one {KE RE : Int} {RM : Part} {W w' : World} {e : Ending} (h : KE ≠ 0) (he : e = .returned (.tuple #[.slice none 0 0, .int .i64 KE])) (hb : Below W.heap.size W w') : FitWR KE RE RM W e w' := ⟨Or.inl ⟨h, he⟩, hb⟩
theorem FitWR.two {RE E : Int} {RM : Part} {W w' : World} {e : Ending} (h : E = RE) (h0 : E ≠ 0) (he : e = .returned (.tuple #[.slice none 0 0, .int .i64 E])) (hb : Below W.heap.size W w') : FitWR 0 RE RM W e w' := ⟨Or.inr (Or.inl ⟨rfl, by rw [← h]; exact h0, by rw [← h]; exact he⟩), hb⟩
theorem FitWR.three {RM : Part} {W w' : World} {e : Ending} (a : Option Addr) (c : Nat) (he : e = .returned (.tuple #[.slice a (listed RM).length c, .int .i64 0])) (hu : Up W.heap.size (fun w => SlAt 2 CompAt w a (listed RM)) w') (hb : Below W.heap.size W w') : FitWR 0 0 RM W e w' := ⟨Or.inr (Or.inr ⟨rfl, rfl, a, c, he, hu⟩), hb⟩
def FitWPost (ks : List KindV) (l : List CompV) (W : World) (e : Ending) (w' : World) : Prop := FitWR (kindsE ks) (fitAllE ks l) (fitAllM ks l) W e w'
/-- what the sort does with a grown list of components -/
def SortsC (g : Nat) : Prop := ∀ (W : World) (B : Nat) (v : Value) (l : List CompV), GrowL EComp B 60 2 W v l → B ≤ W.heap.size → l.length ≤ 1048576 →
  Calls Try.prog 56 #[v, .func (.func g) #[] #[]] W fun e w' => e = .returned (.tuple #[]) ∧ (∃ l', l'.Perm l ∧ l'.Pairwise (fun x y => ¬ y.kind < x.kind) ∧ GrowL EComp B 60 2 w' v l') ∧ Below B W w'
def F_wf (wr B kn kc kb ko q nf cf nv cv : Nat) (av af : Option Addr) (nm : ByteArray) (E : Int) (K : KindV) (vals : List Int) (jq : Nat) (v : Value) (w : World) : Prop :=
  match jq with
  | 0 => v = .slice (some ⟨kb, ko, none⟩) kn kc
  | 1 => v = .pointer (some ⟨wr, 0, none⟩)
  | 2 => v = .int .i64 (q : Int)
  | 3 => v = .pointer (some ⟨kb, ko + q * 2, none⟩)
  | 4 => v = .agg #[.string nm, .slice af nf cf]
  | 5 => v = .pointer (some ⟨wr, 1, none⟩)
  | 6 => v = .slice av nv cv
  | 7 => FitTU B K vals v w
  | 8 => FitTU B K vals v w
  | 9 => FitSU B K vals v w
  | 10 => v = .int .i64 E
  | 11 => FitSU B K vals v w
  | 12 => v = .int .i64 E
  | _ => True
theorem F_wf_mono (wr B kn kc kb ko q nf cf nv cv : Nat) (av af : Option Addr) (nm : ByteArray) (E : Int) (K : KindV) (vals : List Int) : Facts (F_wf wr B kn kc kb ko q nf cf nv cv  av af  nm  E  K  vals ) := ⟨by
  intro jq v w w' h hb
  unfold F_wf at h ⊢
  split at h
  all_goals first
    | exact h
    | exact FitSU.below h hb
    | exact FitTU.below h hb
    | trivial⟩

set_option maxHeartbeats 16000000 in
set_option maxRecDepth 20000 in
theorem world_Fit (hsort : SortsC 57) (ks : List KindV) (l : List CompV) (ka a : Option Addr) (kn kc n ca : Nat) (hkn : ks.length = kn) (hn : l.length = n) (hk1 : kn ≤ 1048576) (h1 : n ≤ 1048576) (hca : n ≤ ca) (hkc : kn ≤ kc) (hkm : kc ≤ 9223372036854775807) (hvl : ∀ z ∈ l, z.vals.length ≤ 1048576) (W : World) (hzk : SlAt 2 KindAt W ka ks) (hz : SlAt 2 CompAt W a l) :
    Calls Try.prog 29 #[.slice ka kn kc, .slice a n ca] W (FitWPost ks l W) := by
  obtain ⟨KE, hKE⟩ : ∃ R, R = kindsE ks := ⟨_, rfl⟩
  obtain ⟨RE, hRE⟩ : ∃ R, R = fitAllE ks l := ⟨_, rfl⟩
  obtain ⟨RM, hRM⟩ : ∃ R, R = fitAllM ks l := ⟨_, rfl⟩
  have CK := kind_Check ks ka kn kc hkn (by omega) hkc hkm W hzk
  unfold FitWPost
  rw [← hRE, ← hRM, ← hKE]
  rw [← hKE] at CK
  have HCK := Lib.hid CK
  have HKE := Lib.hid hKE
  have HRE := Lib.hid hRE
  have HRM := Lib.hid hRM
  have HN := Lib.hid hkn
  have HM := Lib.hid hn
  have HZK := Lib.hid hzk
  have HZ := Lib.hid hz
  have HV := Lib.hid hvl
  have HSO := Lib.hid hsort
  clear hKE hRE hRM hkn hn hzk hz hvl CK hsort
  go_enter Try.func29, Try.ntmps29
  go_wp2_with fail
  refine HCK.out.mono ?_
  rintro e w1 ⟨rfl, hb1⟩
  have HB1 := Lib.hid hb1
  clear hb1 HCK
  by_cases hke : KE = 0
  · subst hke
    have t0 : ((0 : Int) != 0) = false := rfl
    go_wp2_with fail
    clear t0
    go_loopg [19, 7, 8, 9, 39, 10, 11] n (fun gk v19 v7 _ _ _ _ _ wx => ∃ (i : Nat) (F : Part), i ≤ n ∧ gk = n - i ∧ v19 = .int .i64 i ∧ fitGo ks (l.drop i) F = (RE, RM) ∧ (∀ k : Nat, (F k).isSome = hasK (l.take i) k) ∧ GrowL EComp W.heap.size 60 2 wx v7 (fitOut ks (l.take i)) ∧ Below W.heap.size W wx)
    case atStart => exact ⟨0, fun _ => none, Nat.zero_le _, rfl, rfl, by rw [HRE.out, HRM.out]; rfl, fun k => rfl, GrowL.nil _ _ _ _ _, HB1.out⟩
    case round =>
      obtain ⟨i, F, hi0, g2, rfl, hgo, hhas, hgr, hb⟩ := hrel
      have G2 := Lib.hid g2
      have HGO := Lib.hid hgo
      have HHAS := Lib.hid hhas
      have HGR := Lib.hid hgr
      have HB := Lib.hid hb
      clear g2 hgo hhas hgr hb
      by_cases hi : i < n
      · obtain ⟨x, rfl, _, _⟩ := HZ.out (by rw [HM.out]; omega)
        obtain ⟨xb, xo, rfl, av, cv, hcl, hiv⟩ := comp_cells (HZ.out.below CompAt.abides HB.out) i (by rw [HM.out]; exact hi)
        have hgo := HGO.out
        rw [List.drop_eq_getElem_cons (by rw [HM.out]; exact hi)] at hgo
        have htk := take_snocC l i (by rw [HM.out]; exact hi)
        obtain ⟨y, hy⟩ : ∃ y, y = l[i]'(by rw [HM.out]; exact hi) := ⟨_, rfl⟩
        have hyv := HV.out _ (List.getElem_mem (by rw [HM.out]; exact hi) : l[i]'(by rw [HM.out]; exact hi) ∈ l)
        rw [← hy] at hcl hiv hgo hyv htk
        rw [fitGo] at hgo
        obtain ⟨nv, hnv⟩ : ∃ nv, nv = y.vals.length := ⟨_, rfl⟩
        rw [← hnv] at hcl hyv
        obtain ⟨kq, hkq⟩ : ∃ kq, kq = y.kind := ⟨_, rfl⟩
        rw [← hkq] at hcl hgo
        have e0 := hcl.at 0 (by simp)
        have e1 := hcl.at 1 (by simp)
        simp only [List.getElem_cons_zero, List.getElem_cons_succ, Nat.add_zero] at e0 e1
        have hro := new_row wr #[.int .i64 kq, .slice av nv cv] 60
        have q0 := hro.at 0 (by simp)
        have q1 := hro.at 1 (by simp)
        simp only [List.getElem_cons_zero, List.getElem_cons_succ, Nat.zero_add] at q0 q1
        have hbA : Below wr.heap.size wr (wr.alloc (.cells #[.int .i64 kq, .slice av nv cv] 60 (0, 0))) := (Below.refl _ _).alloc (Nat.le_refl _) _
        have Q0 := Lib.hid q0
        have Q1 := Lib.hid q1
        have HNV := Lib.hid hnv
        have HKQ := Lib.hid hkq
        have HTK := Lib.hid htk
        have HIV := Lib.hid (hiv.below hbA)
        have HBA := Lib.hid hbA
        have HGO2 := Lib.hid hgo
        have HYV := Lib.hid hyv
        have HCF := Lib.hid (con_comps (l.take i) (some ⟨xb, xo, none⟩) i ca kq wr.heap.size (by rw [List.length_take, HM.out]; omega) (by omega) (wr.alloc (.cells #[.int .i64 kq, .slice av nv cv] 60 (0, 0))) (sl_take (HZ.out.below CompAt.abides (bt HB.out hbA)) i) q0)
        have HNN := HN.out
        clear hy hkq hnv hcl hiv hro hbA hgo hyv htk
        by_cases hA : kq < 0
        · have hres := HGO2.out
          rw [if_pos (Or.inl hA)] at hres
          injection hres with hr1 hr2
          have HR1 := Lib.hid hr1
          clear hr1 hr2
          go_wp2_with fail
          go_ret2
          exact FitWR.two HR1.out (by decide) rfl (bt HB.out HBA.out)
        · by_cases hB : (kn : Int) ≤ kq
          · have hres := HGO2.out
            rw [if_pos (Or.inr (by rw [HNN]; exact hB))] at hres
            injection hres with hr1 hr2
            have HR1 := Lib.hid hr1
            clear hr1 hr2
            go_wp2_with fail
            go_ret2
            exact FitWR.two HR1.out (by decide) rfl (bt HB.out HBA.out)
          · obtain ⟨q, rfl⟩ : ∃ q : Nat, kq = (q : Int) := ⟨kq.toNat, by omega⟩
            have hqn : q < kn := by omega
            have hres := HGO2.out
            rw [if_neg (fun h => by rcases h with h | h; exact hA h; rw [HNN] at h; exact hB h), Int.toNat_natCast] at hres
            obtain ⟨z, rfl, _, _⟩ := HZK.out (by rw [HNN]; omega)
            obtain ⟨kb, ko, rfl, af, cf, hck, hnm, hnc, hcm, hfl⟩ := kind_cells (HZK.out.below KindAt.abides (bt HB.out HBA.out)) q (by rw [HNN]; exact hqn)
            have hgq : ks.getD q default = ks[q]'(by rw [HNN]; exact hqn) := by rw [List.getD_eq_getElem?_getD, List.getElem?_eq_getElem (by rw [HNN]; exact hqn)]; rfl
            obtain ⟨K, hK⟩ : ∃ K, K = ks[q]'(by rw [HNN]; exact hqn) := ⟨_, rfl⟩
            rw [← hK] at hck hnm hnc hfl hgq
            rw [hgq] at hres
            obtain ⟨nf, hnf⟩ : ∃ nf, nf = K.fields.length := ⟨_, rfl⟩
            rw [← hnf] at hck hnc
            have HFC := Lib.hid (show fitC ks y = ⟨(q : Int), fitL K.fields y.vals⟩ by unfold fitC; rw [← HKQ.out, Int.toNat_natCast, hgq])
            have HFL := Lib.hid (show SlAt 3 FieldAt _ af K.fields ∧ K.name.size ≤ 9223372036854775807 ∧ nf ≤ cf ∧ cf ≤ 9223372036854775807 ∧ nf = K.fields.length from ⟨hfl, hnm, hnc, hcm, hnf⟩)
            obtain ⟨nm, hnm2⟩ : ∃ nm, nm = K.name := ⟨_, rfl⟩
            rw [← hnm2] at hck
            have HNM := Lib.hid hnm2
            have HCK := Lib.hid hck
            have HRES := Lib.hid hres
            clear hres hgq hK hnf hnm2 hck hnm hnc hcm hfl
            go_wp2_with fail
            refine HCF.out.mono ?_
            rintro e w5 ⟨rfl, hb5⟩
            have HA5 := Lib.hid (bt HBA.out hb5)
            have HB5 := Lib.hid hb5
            have Q05 := Lib.hid (cell_abides Q0.out hb5)
            have Q15 := Lib.hid (cell_abides Q1.out hb5)
            clear hb5 q0 q1 HCF e0 e1
            obtain ⟨HH, hHH⟩ : ∃ H, H = hasK (l.take i) (q : Int) := ⟨_, rfl⟩
            have hsq := HHAS.out q
            rw [← hHH] at hsq ⊢
            have HSQ := Lib.hid hsq
            clear hHH hsq
            cases HH with
            | true =>
              have hr := HRES.out
              rw [if_pos HSQ.out] at hr
              injection hr with hr1 hr2
              have HR1 := Lib.hid hr1
              clear hr1 hr2
              go_wp2_with fail
              go_ret2
              exact FitWR.two HR1.out (by decide) rfl (bt HB.out HA5.out)
            | false =>
              have hr := HRES.out
              rw [if_neg (by rw [HSQ.out]; simp)] at hr
              obtain ⟨E, hE⟩ : ∃ E, E = fitE K y.vals := ⟨_, rfl⟩
              rw [← hE] at hr
              have HR := Lib.hid hr
              have HE := Lib.hid hE
              have HCC := Lib.hid (fun w' (hb : Below w5.heap.size w5 w') => kind_FitU K af nf cf y.vals av nv cv HFL.out.2.2.2.2.symm HNV.out.symm (by have := HYV.out; omega) HFL.out.2.1 HFL.out.2.2.1 HFL.out.2.2.2.1 w' (SlAt.below FieldAt.abides HFL.out.1 (bt HB5.out hb)) (IntsAt.below HIV.out (bt HB5.out hb)))
              rw [← HNM.out] at HCC
              have HCK5 := Lib.hid (HCK.out.below HB5.out)
              clear hr hE
              go_wp2_with fail
              refine wp_region_facts_t rfl 13 (by kernel_rfl) (F_wf wr.heap.size w5.heap.size kn kc kb ko q nf cf nv cv av af nm E K y.vals) (F_wf_mono wr.heap.size w5.heap.size kn kc kb ko q nf cf nv cv av af nm E K y.vals) ?_ ?_
              · refine ⟨?_, ?_, ?_, ?_, ?_, ?_, ?_, ?_, ?_, ?_, ?_, ?_, ?_, trivial⟩
                · intro vs w' F hb hd hF hl hT
                  have e := (hF 0).trans (look_out _ 0 _ _ (by kernel_rfl))
                  exact one_move _ rfl (by first | exact Or.inl rfl | exact Or.inr rfl) ⟨_, rfl, Below.refl _ _, e⟩
                · intro vs w' F hb hd hF hl hT
                  have e := (hF 9).trans (look_out _ 9 _ _ (by kernel_rfl))
                  exact one_field _ _ _ rfl rfl _ _ e (0) (fun w => by kernel_rfl) ⟨_, rfl, Below.refl _ _, rfl⟩
                · intro vs w' F hb hd hF hl hT
                  have e := ((hF 41).trans (look_at _ 41 1 _ _ (by kernel_rfl) (by kernel_rfl) hl)).trans (dep_of (Fact := F_wf wr.heap.size w5.heap.size kn kc kb ko q nf cf nv cv av af nm E K y.vals) hd 1 (by kernel_rfl))
                  exact one_load _ _ rfl rfl _ _ e (cell_abides Q05.out hb) (by kernel_rfl) ⟨_, rfl, Below.refl _ _, rfl⟩
                · intro vs w' F hb hd hF hl hT
                  have ex := ((hF 40).trans (look_at _ 40 0 _ _ (by kernel_rfl) (by kernel_rfl) hl)).trans (dep_of (Fact := F_wf wr.heap.size w5.heap.size kn kc kb ko q nf cf nv cv av af nm E K y.vals) hd 0 (by kernel_rfl))
                  have ey := ((hF 42).trans (look_at _ 42 2 _ _ (by kernel_rfl) (by kernel_rfl) hl)).trans (dep_of (Fact := F_wf wr.heap.size w5.heap.size kn kc kb ko q nf cf nv cv av af nm E K y.vals) hd 2 (by kernel_rfl))
                  exact one_index 24 _ _ rfl rfl (.slice (some ⟨kb, ko, none⟩) kn kc) (.int .i64 (q : Int)) (.pointer (some ⟨kb, ko + q * 2, none⟩)) ex ey (fun w => rg_idx Try.underlying24 (show (Try.prog.info? 58).map (·.size) = some 2 by kernel_rfl) (kb) (ko) (kn) (kc) (q) (by omega) w) ⟨_, rfl, Below.refl _ _, rfl⟩
                · intro vs w' F hb hd hF hl hT
                  have e := ((hF 43).trans (look_at _ 43 3 _ _ (by kernel_rfl) (by kernel_rfl) hl)).trans (dep_of (Fact := F_wf wr.heap.size w5.heap.size kn kc kb ko q nf cf nv cv av af nm E K y.vals) hd 3 (by kernel_rfl))
                  exact rg_load 58 _ rfl rfl (kb) (ko + q * 2) [.string nm, .slice af nf cf] e (HCK5.out.below hb) _ Try.underlying58 rfl (by kernel_rfl) ⟨_, rfl, Below.refl _ _, rfl⟩
                · intro vs w' F hb hd hF hl hT
                  have e := (hF 9).trans (look_out _ 9 _ _ (by kernel_rfl))
                  exact one_field _ _ _ rfl rfl _ _ e (1) (fun w => by kernel_rfl) ⟨_, rfl, Below.refl _ _, rfl⟩
                · intro vs w' F hb hd hF hl hT
                  have e := ((hF 45).trans (look_at _ 45 5 _ _ (by kernel_rfl) (by kernel_rfl) hl)).trans (dep_of (Fact := F_wf wr.heap.size w5.heap.size kn kc kb ko q nf cf nv cv av af nm E K y.vals) hd 5 (by kernel_rfl))
                  exact one_load _ _ rfl rfl _ _ e (cell_abides Q15.out hb) (by kernel_rfl) ⟨_, rfl, Below.refl _ _, rfl⟩
                · intro vs w' F hb hd hF hl hT
                  have e1 := (((hF 44).trans (look_at _ 44 4 _ _ (by kernel_rfl) (by kernel_rfl) hl)).trans (dep_of (Fact := F_wf wr.heap.size w5.heap.size kn kc kb ko q nf cf nv cv av af nm E K y.vals) hd 4 (by kernel_rfl)))
                  have e2 := (((hF 46).trans (look_at _ 46 6 _ _ (by kernel_rfl) (by kernel_rfl) hl)).trans (dep_of (Fact := F_wf wr.heap.size w5.heap.size kn kc kb ko q nf cf nv cv av af nm E K y.vals) hd 6 (by kernel_rfl)))
                  refine one_call _ _ rfl rfl (enters_of Try.func55 (by kernel_rfl) rfl) #[.agg #[.string nm, .slice af nf cf], .slice av nv cv] (eval2 e1 e2) ?_
                  refine (HCC.out w' hb).mono ?_
                  intro e3 w2 hp
                  have hb2 := hp.2.2
                  obtain ⟨v, rfl, ht⟩ := FitPostU.tuple (B := w5.heap.size) hp hb.size
                  exact ⟨_, rfl, _, rfl, hb2, ht⟩
                · intro vs w' F hb hd hF hl hT
                  have e := ((hF 47).trans (look_at _ 47 7 _ _ (by kernel_rfl) (by kernel_rfl) hl))
                  have d := (dep_of (Fact := F_wf wr.heap.size w5.heap.size kn kc kb ko q nf cf nv cv av af nm E K y.vals) hd 7 (by kernel_rfl))
                  rw [← e] at d
                  exact one_move _ rfl (by first | exact Or.inl rfl | exact Or.inr rfl) ⟨_, rfl, Below.refl _ _, d⟩
                · intro vs w' F hb hd hF hl hT
                  have e := ((hF 39).trans (look_at _ 39 8 _ _ (by kernel_rfl) (by kernel_rfl) hl))
                  obtain ⟨u, hu, hs⟩ := (dep_of (Fact := F_wf wr.heap.size w5.heap.size kn kc kb ko q nf cf nv cv av af nm E K y.vals) hd 8 (by kernel_rfl))
                  exact rg_extract _ _ rfl rfl _ u (e.trans hu) (fun w => rfl) ⟨_, rfl, Below.refl _ _, hs⟩
                · intro vs w' F hb hd hF hl hT
                  have e := ((hF 39).trans (look_at _ 39 8 _ _ (by kernel_rfl) (by kernel_rfl) hl))
                  obtain ⟨u, hu, hs⟩ := (dep_of (Fact := F_wf wr.heap.size w5.heap.size kn kc kb ko q nf cf nv cv av af nm E K y.vals) hd 8 (by kernel_rfl))
                  rw [← HE.out] at hu
                  exact rg_extract _ _ rfl rfl _ (.int .i64 E) (e.trans hu) (fun w => rfl) ⟨_, rfl, Below.refl _ _, rfl⟩
                · intro vs w' F hb hd hF hl hT
                  have e := ((hF 48).trans (look_at _ 48 9 _ _ (by kernel_rfl) (by kernel_rfl) hl))
                  have d := (dep_of (Fact := F_wf wr.heap.size w5.heap.size kn kc kb ko q nf cf nv cv av af nm E K y.vals) hd 9 (by kernel_rfl))
                  rw [← e] at d
                  exact one_move _ rfl (by first | exact Or.inl rfl | exact Or.inr rfl) ⟨_, rfl, Below.refl _ _, d⟩
                · intro vs w' F hb hd hF hl hT
                  have e := ((hF 49).trans (look_at _ 49 10 _ _ (by kernel_rfl) (by kernel_rfl) hl)).trans (dep_of (Fact := F_wf wr.heap.size w5.heap.size kn kc kb ko q nf cf nv cv av af nm E K y.vals) hd 10 (by kernel_rfl))
                  exact one_move _ rfl (by first | exact Or.inl rfl | exact Or.inr rfl) ⟨_, rfl, Below.refl _ _, e⟩
              · intro vs8 W8 hl hb hI
                have i11 : FitSU w5.heap.size K y.vals (vs8.getD 11 undef) W8 := hI 11 (by omega)
                have i12 : vs8.getD 12 undef = .int .i64 E := hI 12 (by omega)
                obtain ⟨x0, x1, x2, x3, x4, x5, x6, x7, x8, x9, x10, x11, x12, hvs⟩ := list13 hl
                subst hvs
                replace i11 : FitSU w5.heap.size K y.vals x11 W8 := i11
                replace i12 : x12 = .int .i64 E := i12
                subst i12
                have HS := Lib.hid i11
                have HB8 := Lib.hid hb
                clear i11 hI hl hb HCC HCK5
                simp only [fillAll, Act.put, List.setIfInBounds_toArray, List.set_cons_succ, List.set_cons_zero]
                show wpList _ _ _ [] _ _
                by_cases he : E = 0
                · subst he
                  obtain ⟨fa, fc, hfe, hfi, hfx⟩ := HS.out.2 HE.out.symm
                  rw [← HNV.out] at hfe
                  subst hfe
                  have hlen := fitL_len HE.out.symm
                  rw [← HNV.out] at hlen
                  have c0 := cell_abides Q05.out HB8.out
                  have t0 : ((0 : Int) != 0) = false := rfl
                  obtain ⟨css, hcss⟩ := HGR.out
                  have HCSS := Lib.hid hcss
                  obtain ⟨nl, hnl⟩ : ∃ nl, nl = (fitOut ks (l.take i)).length := ⟨_, rfl⟩
                  have hnl2 : nl ≤ i := by rw [hnl]; unfold fitOut; rw [List.length_map, List.length_take]; omega
                  have HNN2 := Lib.hid hnl
                  have hba := (Below.refl W8.heap.size W8).alloc (Nat.le_refl _) (.cells #[.int .i64 (q : Int), .slice fa nv fc] 60 (0, 0))
                  have hb8 : Below wr.heap.size wr W8 := bt HA5.out HB8.out
                  have hbw : Below wr.heap.size wr (W8.alloc (.cells #[.int .i64 (q : Int), .slice fa nv fc] 60 (0, 0))) := bt hb8 hba
                  have hro := new_row W8 #[.int .i64 (q : Int), .slice fa nv fc] 60
                  have hcl : CellsAt (W8.alloc (.cells #[.int .i64 (q : Int), .slice fa nv fc] 60 (0, 0))) (some ⟨W8.heap.size, 0, none⟩) [.int .i64 (q : Int), .slice fa nv fc] := fun _ => ⟨_, rfl, by simp, fun j u hu => by
                    have := hro j u hu
                    rw [add_zero_block]
                    simpa using this⟩
                  have hownC := own_bel hcss.2.2.1 hbw
                  rw [← hnl] at hownC
                  have hbs2 : W.heap.size ≤ (W8.alloc (.cells #[.int .i64 (q : Int), .slice fa nv fc] 60 (0, 0))).heap.size := Nat.le_trans HB.out.size hbw.size
                  have hsz5 : wr.heap.size ≤ w5.heap.size := HA5.out.size
                  have hy : Win wr.heap.size (W8.alloc (.cells #[.int .i64 (q : Int), .slice fa nv fc] 60 (0, 0))).heap.size (fun w => EComp w [.int .i64 (q : Int), .slice fa nv fc] ⟨(q : Int), fitL K.fields y.vals⟩) (W8.alloc (.cells #[.int .i64 (q : Int), .slice fa nv fc] 60 (0, 0))) :=
                    Win.ofUp (Up.below (fun w2 hs => ⟨fa, fc, by rw [hlen], ints_up hs (fun x hx => Nat.le_trans hsz5 (hfx x hx)) hfi⟩) hba)
                  have HY := Lib.hid hy
                  have HBW := Lib.hid hbw
                  clear hy hro hfi hfx hlen hbw hb8 hba hcss hnl hsz5
                  go_wp2_with (at_builtin; go_must (refine wpList_append_cells rfl _ _ 31 rfl W.heap.size 60 (.agg #[.int .i64 0, .slice none 0 0]) 2 32 Try.underlying31 (by kernel_rfl) rfl (by decide) _ nl css.flatten rfl hownC (some ⟨W8.heap.size, 0, none⟩) 1 1 [.int .i64 (q : Int), .slice fa nv fc] rfl rfl hcl (by simp [Value.oneCell']) (by unfold maxLen; omega) (by omega) hbs2 ?_); intro v3 w3 hown3 hg3 hat3; have HO3 := Lib.hid hown3; have HG3 := Lib.hid hg3; have HA3 := Lib.hid hat3; clear hown3 hg3 hat3)
                  have HNEW := Lib.hid (show GrowL EComp W.heap.size 60 2 w3 v3 (fitOut ks (l.take (i + 1))) by
                    rw [HTK.out]
                    unfold fitOut
                    rw [List.map_append, List.map_cons, List.map_nil, HFC.out]
                    exact GrowL.push2 HGR.out HB.out.size HBW.out [.int .i64 (q : Int), .slice fa nv fc] ⟨(q : Int), fitL K.fields y.vals⟩ rfl HY.out HCSS.out (by have := HO3.out; rw [HNN2.out] at this; exact this) HG3.out HA3.out)
                  have HB3 := Lib.hid ((HB.out.trans (HBW.out.mono HB.out.size)).grown HG3.out (HB.out.trans (HBW.out.mono HB.out.size)).size (fun r h => (own_lt HCSS.out.2.2.1 r h).1))
                  have HR9 := Lib.hid (show fitGo ks (l.drop (i + 1)) (updF F q (fitL K.fields y.vals)) = (RE, RM) by have h := HR.out; rw [if_neg (by simp)] at h; exact h)
                  have HH9 := Lib.hid (show ∀ k : Nat, (updF F q (fitL K.fields y.vals) k).isSome = hasK (l.take (i + 1)) k by rw [HTK.out]; exact upd_has HHAS.out HKQ.out.symm)
                  clear hcl hownC hbs2 c0
                  go_roundg (n - (i + 1))
                  case measure => rw [G2.out]; omega
                  case rel => exact ⟨i + 1, _, hi, rfl, by go_num, HR9.out, HH9.out, HNEW.out, HB3.out⟩
                · have t0 : (E != 0) = true := by rw [bne_iff_ne]; exact he
                  have hr := HR.out
                  rw [if_pos he] at hr
                  injection hr with hr1 hr2
                  have HR1 := Lib.hid hr1
                  clear hr1 hr2
                  go_wp2
                  go_ret2
                  exact FitWR.two HR1.out he rfl (bt HB.out (bt HA5.out HB8.out))
      · obtain rfl : n = i := by omega
        have hgo := HGO.out
        rw [List.drop_of_length_le (by rw [HM.out]; exact Nat.le_refl _), fitGo] at hgo
        injection hgo with hr1 hr2
        have hgr := HGR.out
        rw [List.take_of_length_le (by rw [HM.out]; exact Nat.le_refl _)] at hgr
        have hlo : (fitOut ks l).length ≤ 1048576 := by unfold fitOut; rw [List.length_map, HM.out]; exact h1
        have HSC := Lib.hid (HSO.out wr W.heap.size u7 (fitOut ks l) hgr HB.out.size hlo)
        have HE0 := Lib.hid (show fitAllE ks l = 0 by rw [← HRE.out]; exact hr1.symm)
        have HK16 := Lib.hid (kindsE_len HKE.out.symm)
        subst hr1
        clear hr2 hgr hlo
        go_wp2_with fail
        refine HSC.out.mono ?_
        rintro e w9 ⟨rfl, ⟨l', hp, hs, hg⟩, hb9⟩
        obtain rfl := sorted_fit HK16.out HE0.out hp (hs.imp fun h => by omega)
        rw [← HRM.out] at hg
        obtain ⟨a9, c9, hv9, _, _⟩ := GrowL.slice hg
        have HUP := Lib.hid (GrowL.up EComp.at hg a9 c9 hv9)
        have HB9 := Lib.hid (HB.out.trans hb9)
        have HV9 := Lib.hid hv9
        clear hp hs hg hb9 hv9
        go_wp2
        go_ret2
        exact FitWR.three a9 c9 (by rw [HV9.out]; rfl) HUP.out HB9.out
  · have t0 : (KE != 0) = true := by rw [bne_iff_ne]; exact hke
    go_wp2
    go_ret2
    exact FitWR.one hke rfl HB1.out
end Go.Proofs.Ytpilpkbblkhnaaa
end
