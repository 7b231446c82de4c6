/- Lemmas for the law TopDigestPlace: MerkleD, DigInj, TdpP, CopyC, CloneN. No conditions. -/
import Derived.Test.YtncnbfefciobcaaM02
import Derived.Test.YtncnbfefciobcaaM01
import Derived.Test.YtncnbfefciobcaaM03
import Derived.Test.YtncnbfefciobcaaM12
import Derived.Test.YtncnbfefciobcaaM17
import Derived.Test.YtncnbfefciobcaaM05
import Derived.Test.YtncnbfefciobcaaM06
import Derived.Test.YtncnbfefciobcaaM09
import Derived.Deep.LoopGhost
import Derived.Test.YtncnbfefciobcaaM08
import Derived.Shelf.Abstract
import Derived.Deep.AppendSrc
import Derived.Lib.AppendZeros
/- Trees of digests whose lists differ in one leaf: plain. -/
section
namespace Go.Mk
section
variable (T : Int → Int → Int) (D : Int → Prop)
/-- What is asked of the digest of two digests. -/
structure Inj2 : Prop where
  in_ : ∀ a b, D (T a b)
  left : ∀ a a' b, D a → D a' → T a b = T a' b → a = a'
  right : ∀ a b b', D b → D b' → T a b = T a b' → b = b'
theorem top_D (h : Inj2 T D) (l : List Int) (hl : ∀ z ∈ l, D z) (h1 : 1 ≤ l.length) : D (top T l) := by
  by_cases h2 : 2 ≤ l.length
  · rw [top_two T l h2]; exact h.in_ _ _
  · rw [top_len1 T l (by omega)]
    exact hl _ (by rw [List.getD_eq_getElem?_getD, List.getElem?_eq_getElem (by omega)]; exact List.getElem_mem _)
theorem one_off (h : Inj2 T D) : ∀ (n : Nat) (a : List Int) (i : Nat) (y : Int), a.length = n → i < n → (∀ z ∈ a, D z) → D y → a.getD i 0 ≠ y →
    top T a ≠ top T (a.set i y) ∧ (nd T a (a.set i y)).1 = i ∧ ver T n i (a.getD i 0) (prov T a i) = some (top T a) ∧ ver T n i y (prov T a i) = some (top T (a.set i y)) := by
  intro n
  induction n using Nat.strongRecOn with
  | _ n ih =>
    intro a i y ha hi hD hy hne
    by_cases h1 : n = 1
    · subst h1
      have hi0 : i = 0 := by omega
      subst hi0
      match a, ha with
      | [x], _ =>
        refine ⟨?_, ?_, rfl, rfl⟩
        · show x ≠ y; exact hne
        · rw [nd_one T _ _ (by simp)]
    · obtain ⟨s1, s2⟩ := hf_spec n (by omega)
      have s3 := hf_pos n
      have hl2 : 2 ≤ a.length := by omega
      have hb2 : 2 ≤ (a.set i y).length := by rw [List.length_set]; omega
      have hDt : ∀ z ∈ a.take (hf n), D z := fun z hz => hD z (List.mem_of_mem_take hz)
      have hDd : ∀ z ∈ a.drop (hf n), D z := fun z hz => hD z (List.mem_of_mem_drop hz)
      rw [top_two T a hl2, top_two T (a.set i y) hb2, nd_two T a _ hl2, prov_two T a i hl2, ver_two T n i _ _ (by omega), ver_two T n i _ _ (by omega), List.length_set, ha]
      by_cases q : i < hf n
      · have e1 : (a.set i y).drop (hf n) = a.drop (hf n) := by rw [List.drop_set, if_pos q]
        have e2 : (a.set i y).take (hf n) = (a.take (hf n)).set i y := by rw [List.take_set]
        have e3 : (a.take (hf n)).getD i 0 = a.getD i 0 := by
          rw [List.getD_eq_getElem?_getD, List.getD_eq_getElem?_getD, List.getElem?_take_of_lt q]
        obtain ⟨g1, g2, g3, g4⟩ := ih (hf n) s1 (a.take (hf n)) i y (by simp; omega) q hDt hy (by rw [e3]; exact hne)
        rw [e3] at g3
        have hlast : (prov T (a.take (hf n)) i ++ [top T (a.drop (hf n))]).getD ((prov T (a.take (hf n)) i ++ [top T (a.drop (hf n))]).length - 1) 0 = top T (a.drop (hf n)) := by
          rw [List.length_append, List.length_singleton, Nat.add_sub_cancel, List.getD_eq_getElem?_getD, List.getElem?_append_right (Nat.le_refl _), Nat.sub_self]; rfl
        have hl0 : ¬ (prov T (a.take (hf n)) i ++ [top T (a.drop (hf n))]).length = 0 := by rw [List.length_append, List.length_singleton]; omega
        rw [e1, e2]
        refine ⟨fun e => g1 (h.left _ _ _ (top_D T D h _ hDt (by simp; omega)) (top_D T D h _ (fun z hz => ?_) (by simp; omega)) e), ?_, ?_, ?_⟩
        · rcases List.mem_or_eq_of_mem_set hz with hz | hz
          · exact hDt z hz
          · rw [hz]; exact hy
        · rw [if_pos g1]; exact g2
        · rw [if_pos q, if_neg hl0, if_pos q, List.dropLast_concat, hlast, g3]; rfl
        · rw [if_pos q, if_neg hl0, if_pos q, List.dropLast_concat, hlast, g4]; rfl
      · have e1 : (a.set i y).take (hf n) = a.take (hf n) := List.take_set_of_le (by omega)
        have e2 : (a.set i y).drop (hf n) = (a.drop (hf n)).set (i - hf n) y := by rw [List.drop_set, if_neg q]
        have e3 : (a.drop (hf n)).getD (i - hf n) 0 = a.getD i 0 := by
          rw [List.getD_eq_getElem?_getD, List.getD_eq_getElem?_getD, List.getElem?_drop, show hf n + (i - hf n) = i by omega]
        obtain ⟨g1, g2, g3, g4⟩ := ih (n - hf n) (by omega) (a.drop (hf n)) (i - hf n) y (by simp; omega) (by omega) hDd hy (by rw [e3]; exact hne)
        rw [e3] at g3
        have hlast : (prov T (a.drop (hf n)) (i - hf n) ++ [top T (a.take (hf n))]).getD ((prov T (a.drop (hf n)) (i - hf n) ++ [top T (a.take (hf n))]).length - 1) 0 = top T (a.take (hf n)) := by
          rw [List.length_append, List.length_singleton, Nat.add_sub_cancel, List.getD_eq_getElem?_getD, List.getElem?_append_right (Nat.le_refl _), Nat.sub_self]; rfl
        have hl0 : ¬ (prov T (a.drop (hf n)) (i - hf n) ++ [top T (a.take (hf n))]).length = 0 := by rw [List.length_append, List.length_singleton]; omega
        rw [e1, e2]
        refine ⟨fun e => g1 (h.right _ _ _ (top_D T D h _ hDd (by simp; omega)) (top_D T D h _ (fun z hz => ?_) (by simp; omega)) e), ?_, ?_, ?_⟩
        · rcases List.mem_or_eq_of_mem_set hz with hz | hz
          · exact hDd z hz
          · rw [hz]; exact hy
        · rw [if_neg (by simp)]
          show hf n + _ = i
          rw [g2]; omega
        · rw [if_neg q, if_neg hl0, if_neg q, List.dropLast_concat, hlast, g3]; rfl
        · rw [if_neg q, if_neg hl0, if_neg q, List.dropLast_concat, hlast, g4]; rfl
end
end Go.Mk
end
/- Digests differ where one number does: plain. -/
section
namespace Go.Proofs.Ytncnbfefciobcaa
open Go.Mk
set_option linter.unusedVariables false
theorem over_inj (j : Nat) (hj : 1 ≤ j) {x y : Nat} (h : over x (2 ^ j) = over y (2 ^ j)) : x = y := by
  have e : ∀ z, over z (2 ^ j) = z ^^^ (z >>> j) := fun z => by unfold over; rw [Nat.shiftRight_eq_div_pow]
  rw [e, e] at h
  have h2 : (x ^^^ y) = (x ^^^ y) >>> j := by
    rw [Nat.shiftRight_xor_distrib]
    have := congrArg (fun z => z ^^^ (y ^^^ (x >>> j))) h
    rw [show x ^^^ x >>> j ^^^ (y ^^^ x >>> j) = (x ^^^ y) ^^^ ((x >>> j) ^^^ (x >>> j)) by ac_rfl, show y ^^^ y >>> j ^^^ (y ^^^ x >>> j) = (y ^^^ y) ^^^ ((x >>> j) ^^^ (y >>> j)) by ac_rfl, Nat.xor_self, Nat.xor_self, Nat.xor_zero, Nat.zero_xor] at this
    exact this
  have h3 : x ^^^ y = 0 := by
    rcases Nat.eq_zero_or_pos (x ^^^ y) with h0 | h0
    · exact h0
    · rw [Nat.shiftRight_eq_div_pow] at h2
      have := Nat.div_lt_self h0 (show 1 < 2 ^ j from Nat.one_lt_two_pow (by omega))
      omega
  have := congrArg (fun z => z ^^^ y) h3
  rwa [Nat.xor_assoc, Nat.xor_self, Nat.xor_zero, Nat.zero_xor] at this
theorem mul_inj64 (c d : Nat) (hcd : c * d % 18446744073709551616 = 1) {x y : Nat} (hx : x < 18446744073709551616) (hy : y < 18446744073709551616) (h : x * c % 18446744073709551616 = y * c % 18446744073709551616) : x = y := by
  have key : ∀ z, z < 18446744073709551616 → (z * c % 18446744073709551616) * d % 18446744073709551616 = z := fun z hz => by
    rw [Nat.mod_mul_mod, Nat.mul_assoc, Nat.mul_mod, hcd, Nat.mul_one, Nat.mod_mod, Nat.mod_eq_of_lt hz]
  rw [← key x hx, ← key y hy, h]
theorem mix1_inj {x y : Nat} (hx : x < 18446744073709551616) (hy : y < 18446744073709551616) (h : mix1 x = mix1 y) : x = y :=
  over_inj 31 (by decide) (mul_inj64 7640891576956012809 17228112808425395513 (by decide +kernel) (over_lt x _ hx) (over_lt y _ hy) h)
theorem mix1_lt (x : Nat) : mix1 x < 18446744073709551616 := Nat.mod_lt _ (by decide)
theorem mix2_inj {x y : Nat} (hx : x < 18446744073709551616) (hy : y < 18446744073709551616) (h : mix2 x = mix2 y) : x = y :=
  mix1_inj hx hy (over_inj 27 (by decide) (mul_inj64 13503953896175478587 517726987020900851 (by decide +kernel) (over_lt _ _ (mix1_lt x)) (over_lt _ _ (mix1_lt y)) h))
theorem mix_inj {x y : Nat} (hx : x < 18446744073709551616) (hy : y < 18446744073709551616) (h : mix x = mix y) : x = y := mix2_inj hx hy (over_inj 30 (by decide) h)
theorem add_inj64 {X Y b : Nat} (h : (X + b) % 18446744073709551616 = (Y + b) % 18446744073709551616) : X % 18446744073709551616 = Y % 18446744073709551616 := by omega
theorem add_inj64r {X b b' : Nat} (hb : b < 18446744073709551616) (hb' : b' < 18446744073709551616) (h : (X + b) % 18446744073709551616 = (X + b') % 18446744073709551616) : b = b' := by omega
theorem tied_left {a a' b : Nat} (ha : a < 18446744073709551616) (ha' : a' < 18446744073709551616) (h : tied a b = tied a' b) : a = a' := by
  have h1 := mix_inj (Nat.mod_lt _ (by decide)) (Nat.mod_lt _ (by decide)) h
  have h3 := mul_inj64 11170449401992604703 9861552557614567391 (by decide +kernel) (mix_lt _) (mix_lt _) (add_inj64 h1)
  have h4 := add_inj64 (mix_inj (Nat.mod_lt _ (by decide)) (Nat.mod_lt _ (by decide)) h3)
  rwa [Nat.mod_eq_of_lt ha, Nat.mod_eq_of_lt ha'] at h4
theorem tied_right {a b b' : Nat} (hb : b < 18446744073709551616) (hb' : b' < 18446744073709551616) (h : tied a b = tied a b') : b = b' :=
  add_inj64r hb hb' (mix_inj (Nat.mod_lt _ (by decide)) (Nat.mod_lt _ (by decide)) h)
theorem tie_inj2 : Inj2 tieI In64 where
  in_ := tieI_in
  left a a' b ha ha' h := by
    obtain ⟨x, rfl, hx⟩ := ha.nat
    obtain ⟨y, rfl, hy⟩ := ha'.nat
    unfold tieI at h
    rw [W64.u_nat x hx, W64.u_nat y hy] at h
    have := tied_left hx hy (by exact_mod_cast h)
    rw [this]
  right a b b' hb hb' h := by
    obtain ⟨x, rfl, hx⟩ := hb.nat
    obtain ⟨y, rfl, hy⟩ := hb'.nat
    unfold tieI at h
    rw [W64.u_nat x hx, W64.u_nat y hy] at h
    have := tied_right hx hy (by exact_mod_cast h)
    rw [this]
theorem dig1_ne (l : List Int) : ∀ {d d' : Nat}, d < 18446744073709551616 → d' < 18446744073709551616 → d ≠ d' → dig1 d l ≠ dig1 d' l := by
  induction l with
  | nil => intro d d' _ _ h; exact h
  | cons a l ih => intro d d' h1 h2 h; exact ih (tie_lt _ _) (tie_lt _ _) (fun e => h (tied_left h1 h2 e))
theorem dig1_app (d : Nat) (p q : List Int) : dig1 d (p ++ q) = dig1 (dig1 d p) q := by
  induction p generalizing d with
  | nil => rfl
  | cons a p ih => exact ih _
/-- one number differs: so do the digests -/
theorem dig_ne (p q : List Int) (x y : Int) (h : W64.u x ≠ W64.u y) : dig (p ++ x :: q) ≠ dig (p ++ y :: q) := by
  unfold dig
  rw [show (p ++ x :: q).length = (p ++ y :: q).length by simp, dig1_app, dig1_app]
  exact dig1_ne q (tie_lt _ _) (tie_lt _ _) (fun e => h (tied_right (W64.u_lt x) (W64.u_lt y) e))
end Go.Proofs.Ytncnbfefciobcaa
end
/- The law TopDigestPlace: plain. -/
section
namespace Go.Proofs.Ytncnbfefciobcaa
open Go.ChangeShapes Go.WideShapes Go.ChangeAt Go.RowKit Go.Nm Go.Mem Go.Mk
set_option linter.unusedVariables false
/-! Worlds that tourmake makes are valid and small. -/
theorem ValsOk.fit {fs : List FieldV} {vs : List Int} (h : ValsOk fs vs) (hl : vs.length = fs.length) : fitL fs vs = vs := by
  unfold fitL
  apply List.ext_getElem
  · rw [List.length_zipWith]; omega
  · intro j h1 h2
    rw [List.getElem_zipWith]
    have hv := h.2 j h2 (by omega)
    unfold ValOk at hv
    unfold nearV nearF topF
    have hc : ((2 : Int) ^ (fs[j]'(by omega)).bits.toNat) = ((2 ^ (fs[j]'(by omega)).bits.toNat : Nat) : Int) := by simp
    rw [hc]
    generalize (2 ^ (fs[j]'(by omega)).bits.toNat : Nat) = P at hv ⊢
    omega
theorem CsOk.held {ks : List KindV} {cs : List CompV} (hk : KsOk ks) (h : CsOk ks ks.length cs) : heldB ks cs = true := by
  rw [heldB_iff]
  refine ⟨h.2.1, fun c hc => ?_⟩
  obtain ⟨h0, h1, h2, h3⟩ := (h.2.2 c hc).2
  refine ⟨h0, h1, ?_⟩
  have hi : c.kind.toNat < ks.length := by omega
  have hg : ks.getD c.kind.toNat default = ks[c.kind.toNat] := by rw [List.getD_eq_getElem?_getD, List.getElem?_eq_getElem hi]; rfl
  rw [hg] at h2 h3 ⊢
  have he := (hk.2 _ hi).err (by have := hk.1; omega)
  unfold holdsB fitE
  rw [he, if_neg (by simp), if_neg (by omega), h3.fit h2]
  simp
theorem WOk.check {y : WorldV} (h : WOk y) : checkE y = 0 := by
  obtain ⟨hk, hk1, hg, hgo, hl, h8, hp, hi⟩ := h
  have hgen : ∀ i, i < y.gens.length → 0 ≤ y.gens.getD i 0 ∧ y.gens.getD i 0 < 3 := fun i hi => by
    rw [List.getD_eq_getElem?_getD, List.getElem?_eq_getElem hi]
    exact hgo _ (List.getElem_mem _)
  unfold checkE
  rw [hk.err, if_neg (by simp), if_neg (by omega), if_pos]
  refine ⟨(gensAt_iff _ _).2 (fun i hi => by have := hgen i hi; omega), (itemsAt_iff y _ (Nat.le_refl _)).2 ?_⟩
  rw [List.take_length]
  refine ⟨hp, fun t ht => ?_⟩
  obtain ⟨g1, g2, g3, g4⟩ := hi t ht
  exact ⟨g1, g2, g3, by have := hgen t.n.toNat (by omega); omega, g4.held hk⟩
theorem sum_le {α : Type} (f : α → Nat) (B : Nat) : ∀ (l : List α), (∀ x ∈ l, f x ≤ B) → (l.map f).sum ≤ B * l.length
  | [], _ => by simp
  | a :: l, h => by
    have h1 := sum_le f B l (fun x hx => h x (List.mem_cons_of_mem _ hx))
    have h2 := h a (List.mem_cons_self ..)
    rw [List.map_cons, List.sum_cons, List.length_cons, Nat.mul_add]; omega
theorem comp_small' {ks : List KindV} {i : Nat} {cs : List CompV} (hk : KsOk ks) (h : CsOk ks i cs) : ∀ c ∈ cs, c.vals.length ≤ 3 := fun c hc => by
  obtain ⟨h0, h1, h2, _⟩ := (h.2.2 c hc).2
  rw [h2]
  have hl : c.kind.toNat < ks.length := by omega
  rw [List.getD_eq_getElem?_getD, List.getElem?_eq_getElem hl]
  exact (hk.2 _ hl).2.1
theorem fname_small : ∀ j : Fin 3, (fname j.val).size ≤ 100 := by decide
theorem kname_small : ∀ j : Fin 4, (kname j.val).size ≤ 100 := by decide
theorem WOk.cost {y : WorldV} (h : WOk y) : costWorld y ≤ 100000 := by
  obtain ⟨hk, hk1, hg, hgo, hl, h8, hp, hi⟩ := h
  have h4 := hk.1
  have c1 : (y.kinds.map costKind).sum ≤ 1000 * y.kinds.length := sum_le _ _ _ (fun k hkm => by
    obtain ⟨i, hi, rfl⟩ := List.getElem_of_mem hkm
    have ho := hk.2 i hi
    have h3 := ho.2.1
    have hn := kname_small ⟨i, by omega⟩
    have c2 : ((y.kinds[i]).fields.map costField).sum ≤ 101 * (y.kinds[i]).fields.length := sum_le _ _ _ (fun f hf => by
      obtain ⟨j, hj, rfl⟩ := List.getElem_of_mem hf
      have hfo := (ho.2.2 j hj).1
      have := fname_small ⟨j, by omega⟩
      unfold costField
      rw [hfo]
      simp only at this
      omega)
    unfold costKind
    rw [ho.1]
    simp only at hn
    omega)
  have c3 : (y.items.map costItem).sum ≤ 100 * y.items.length := sum_le _ _ _ (fun t ht => by
    obtain ⟨_, _, _, hc⟩ := hi t ht
    have h5 := hc.1
    have c4 : (t.comps.map costComp).sum ≤ 4 * t.comps.length := sum_le _ _ _ (fun c hcm => by
      have := comp_small' hk hc c hcm
      unfold costComp; omega)
    unfold costItem; omega)
  unfold costWorld
  omega
theorem WOk.fine {y : WorldV} (h : WOk y) : FineW y := fine_of (by have := h.cost; omega)
theorem WOk.small {y : WorldV} (h : WOk y) : SmallW y := by
  have f := h.fine
  exact ⟨f.kl, f.gl, f.il, fun t ht => ⟨(f.i t ht).1, fun c hc => (f.i t ht).2 c hc⟩⟩
/-! One value changed. -/
theorem comps_ok {ks : List KindV} {C1 C2 : List CompV} {c : CompV} {vs : List Int} {i : Nat} (h : CsOk ks i (C1 ++ c :: C2)) (hl : vs.length = c.vals.length) (hv : ValsOk (ks.getD c.kind.toNat default).fields vs) : CsOk ks i (C1 ++ ⟨c.kind, vs⟩ :: C2) := by
  refine ⟨by have := h.1; simpa using this, ?_, fun x hx => ?_⟩
  · have h2 := h.2.1
    rw [← List.pairwise_map (f := fun c : CompV => c.kind) (R := fun a b => a < b)] at h2 ⊢
    simpa using h2
  · rcases List.mem_append.1 hx with hx | hx
    · exact h.2.2 x (List.mem_append_left _ hx)
    · rcases List.mem_cons.1 hx with rfl | hx
      · have hc := h.2.2 c (List.mem_append_right _ (List.mem_cons_self ..))
        exact ⟨hc.1, hc.2.1, hc.2.2.1, by rw [← hc.2.2.2.1]; exact hl, hv⟩
      · exact h.2.2 x (List.mem_append_right _ (List.mem_cons_of_mem _ hx))
/-- two lists that differ in one number -/
def Df (a b : List Int) : Prop := ∃ (P Q : List Int) (x y : Int), a = P ++ x :: Q ∧ b = P ++ y :: Q ∧ W64.u x ≠ W64.u y
theorem Df.left {a b : List Int} (L : List Int) : Df a b → Df (L ++ a) (L ++ b) := fun ⟨P, Q, x, y, h1, h2, h3⟩ => ⟨L ++ P, Q, x, y, by rw [h1, List.append_assoc], by rw [h2, List.append_assoc], h3⟩
theorem Df.right {a b : List Int} (R : List Int) : Df a b → Df (a ++ R) (b ++ R) := fun ⟨P, Q, x, y, h1, h2, h3⟩ => ⟨P, Q ++ R, x, y, by rw [h1, List.append_assoc]; rfl, by rw [h2, List.append_assoc]; rfl, h3⟩
theorem Df.dig {a b : List Int} : Df a b → dig a ≠ dig b := fun ⟨P, Q, x, y, h1, h2, h3⟩ => by rw [h1, h2]; exact dig_ne P Q x y h3
theorem Df.mid {α : Type} (f : α → List Int) (A B : List α) {x y : α} (h : Df (f x) (f y)) : Df ((A ++ x :: B).map f).flatten ((A ++ y :: B).map f).flatten := by
  rw [List.map_append, List.flatten_append, List.map_cons, List.flatten_cons, List.map_append, List.flatten_append, List.map_cons, List.flatten_cons]
  exact (h.right _).left _
structure Tdp (y z : WorldV) (at_ n : Nat) (A B : List Int) (ra rb x x' : Nat) : Prop where
  wz : WOk z
  chk : checkE z = 0
  fy : FineW y
  fz : FineW z
  sy : SmallW y
  sz : SmallW z
  dg : dig (intsW y) ≠ dig (intsW z)
  sm : sameB y z = false
  an : A = y.items.map leafD
  bn : B = z.items.map leafD
  al : A.length = n
  bl : B.length = n
  n8 : n ≤ 8
  lt : at_ < n
  ua : U64s A
  ub : U64s B
  nw : (narrow (fill A B) (fill B A)).1 = (at_ : Int)
  ta : top tieI A = (ra : Int)
  ral : ra < 18446744073709551616
  tb : top tieI B = (rb : Int)
  rr : ra ≠ rb
  xa : A.getD at_ 0 = (x : Int)
  xl : x < 18446744073709551616
  xb : B.getD at_ 0 = (x' : Int)
  xl' : x' < 18446744073709551616
  v1 : ver tieI n at_ x (prov tieI A at_) = some (ra : Int)
  v2 : ver tieI n at_ x' (prov tieI A at_) ≠ some (ra : Int)
  up : U64s (prov tieI A at_)
theorem prov_in (T : Int → Int → Int) (D : Int → Prop) (h : Inj2 T D) : ∀ (n : Nat) (l : List Int) (i : Nat), l.length = n → 1 ≤ n → (∀ z ∈ l, D z) → ∀ z ∈ prov T l i, D z := by
  intro n
  induction n using Nat.strongRecOn with
  | _ n ih =>
    intro l i hl h1 hD z hz
    by_cases hn : n = 1
    · rw [prov_one T l i (by omega)] at hz; cases hz
    · obtain ⟨s1, s2⟩ := hf_spec n (by omega)
      have s3 := hf_pos n
      have hDt : ∀ z ∈ l.take (hf n), D z := fun z hz => hD z (List.mem_of_mem_take hz)
      have hDd : ∀ z ∈ l.drop (hf n), D z := fun z hz => hD z (List.mem_of_mem_drop hz)
      rw [prov_two T l i (by omega), hl] at hz
      split at hz
      · rcases List.mem_append.1 hz with hz | hz
        · exact ih (hf n) s1 (l.take (hf n)) i (by simp; omega) (by omega) hDt z hz
        · rw [List.mem_singleton.1 hz]; exact top_D T D h _ hDd (by simp; omega)
      · rcases List.mem_append.1 hz with hz | hz
        · exact ih (n - hf n) (by omega) (l.drop (hf n)) (i - hf n) (by simp; omega) (by omega) hDd z hz
        · rw [List.mem_singleton.1 hz]; exact top_D T D h _ hDt (by simp; omega)
theorem fill_eq {A B : List Int} (h : A.length = B.length) : fill A B = A := by unfold fill; rw [h, List.drop_length]; simp
theorem dig_lt (l : List Int) : dig l < 18446744073709551616 := dig1_lt _ _ (tie_lt _ _)
theorem leafD_in (t : ItemV) : In64 (leafD t) := by
  have := dig_lt (leafI t)
  unfold leafD In64; omega
theorem tdp {y : WorldV} (hy : WOk y) (b I : Int) (h0 : 0 ≤ I) (h1 : I < (totI y.items : Int)) : ∃ (n : Nat) (A B : List Int) (ra rb x x' : Nat), Tdp y ⟨y.kinds, y.gens, chI b y.kinds I y.items⟩ (atI y.items I 0) n A B ra rb x x' := by
  obtain ⟨I1, t, I2, i', e1, p0, p1, e2, e3⟩ := chI_split b y.kinds y.items I 0 h0 h1
  obtain ⟨C1, c, C2, j, e4, hj, e5⟩ := chC_split b y.kinds t.comps i' p0 p1
  have htm : t ∈ y.items := by rw [e1]; exact List.mem_append_right _ (List.mem_cons_self ..)
  obtain ⟨t0, t1, t2, tc⟩ := hy.2.2.2.2.2.2.2 t htm
  rw [e4] at tc
  have hco := tc.2.2 c (List.mem_append_right _ (List.mem_cons_self ..))
  obtain ⟨k0, k1, k2, k3⟩ := hco.2
  have hk : c.kind.toNat < y.kinds.length := by omega
  have hkg : y.kinds.getD c.kind.toNat default = y.kinds[c.kind.toNat] := by rw [List.getD_eq_getElem?_getD, List.getElem?_eq_getElem hk]; rfl
  have hfc : fieldsC y.kinds c = (y.kinds[c.kind.toNat]).fields := by unfold fieldsC; rw [hkg]
  rw [hkg] at k2 k3
  obtain ⟨fs, hfs⟩ : ∃ fs, fs = (y.kinds[c.kind.toNat]).fields := ⟨_, rfl⟩
  have hfo : FldsOk fs := by rw [hfs]; exact (hy.1.2 _ hk).2
  rw [← hfs] at k2 k3 hfc
  have hjf : j < fs.length := by omega
  obtain ⟨v, hv⟩ : ∃ v, v = c.vals[j] := ⟨_, rfl⟩
  have hvo : ValOk fs[j] v := by rw [hv]; exact k3.2 j hj hjf
  obtain ⟨nv, hnv⟩ : ∃ nv, nv = newv b ((fieldsC y.kinds c).getD j default) (c.vals.getD j 0) := ⟨_, rfl⟩
  have hnv2 : nv = newv b fs[j] v := by
    rw [hnv, hfc, hv, List.getD_eq_getElem?_getD, List.getD_eq_getElem?_getD, List.getElem?_eq_getElem hjf, List.getElem?_eq_getElem hj]; rfl
  obtain ⟨q1, q2⟩ := newv_ok (hfo.2 j hjf) hvo b
  rw [← hnv2] at q1 q2
  rw [← hnv] at e5
  obtain ⟨nb, hnb, hnb1, hnb2, hlo1, hlo2⟩ := fld_range (hfo.2 j hjf)
  have hP : (2 ^ nb : Nat) ≤ 2 ^ 32 := Nat.pow_le_pow_right (by decide) hnb2
  have hne : W64.u v ≠ W64.u nv := by
    unfold ValOk at hvo q1
    rw [hnb, Int.toNat_natCast] at hvo q1
    generalize (2 ^ nb : Nat) = P at hP hvo q1
    unfold W64.u
    omega
  have hvs : ValsOk fs (c.vals.set j nv) := by
    refine ⟨by rw [List.length_set]; exact k3.1, fun i hi h2 => ?_⟩
    rw [List.getElem_set]
    by_cases e : j = i
    · subst e; rw [if_pos rfl]; exact q1
    · rw [if_neg e]; exact k3.2 i (by rw [List.length_set] at hi; exact hi) h2
  have hcs' : CsOk y.kinds y.kinds.length (C1 ++ ⟨c.kind, c.vals.set j nv⟩ :: C2) := comps_ok tc (by rw [List.length_set]) (by rw [hkg, ← hfs]; exact hvs)
  have hz : WOk ⟨y.kinds, y.gens, chI b y.kinds I y.items⟩ := by
    obtain ⟨w1, w2, w3, w4, w5, w6, w7, w8⟩ := hy
    refine ⟨w1, w2, w3, w4, by simp only; rw [chI_len]; exact w5, by simp only; rw [chI_len]; exact w6, ?_, ?_⟩
    · rw [← List.pairwise_map (f := fun t : ItemV => t.n) (R := fun a b => a < b)] at w7 ⊢
      simp only
      rw [e2]; rw [e1] at w7
      simpa using w7
    · intro it hit
      simp only at hit ⊢
      rw [e2] at hit
      rcases List.mem_append.1 hit with hit | hit
      · exact w8 it (by rw [e1]; exact List.mem_append_left _ hit)
      · rcases List.mem_cons.1 hit with rfl | hit
        · exact ⟨t0, t1, t2, by rw [e5]; exact hcs'⟩
        · exact w8 it (by rw [e1]; exact List.mem_append_right _ (List.mem_cons_of_mem _ hit))
  have dv : Df c.vals (c.vals.set j nv) := ⟨c.vals.take j, c.vals.drop (j + 1), v, nv, by rw [hv, ← List.drop_eq_getElem_cons hj, List.take_append_drop], by rw [List.set_eq_take_append_cons_drop, if_pos hj], hne⟩
  have dc : Df (compI c) (compI ⟨c.kind, c.vals.set j nv⟩) := by
    unfold compI
    simp only [List.length_set]
    exact dv.left _
  have dcs : Df (t.comps.map compI).flatten ((chC b y.kinds i' t.comps).map compI).flatten := by
    rw [e5, e4]; exact Df.mid compI C1 C2 dc
  have dl : Df (leafI t) (leafI ⟨t.n, t.gen, chC b y.kinds i' t.comps⟩) := dcs.left _
  have dI : Df (itemI t) (itemI ⟨t.n, t.gen, chC b y.kinds i' t.comps⟩) := by
    unfold itemI
    simp only [chC_len]
    exact dcs.left _
  have dw : Df (intsW y) (intsW ⟨y.kinds, y.gens, chI b y.kinds I y.items⟩) := by
    unfold intsW
    simp only [chI_len]
    refine ((((?_ : Df _ _).left _).left _).left _).left _ |>.left _
    rw [e2, e1]
    exact Df.mid itemI I1 I2 dI
  obtain ⟨t', ht'⟩ : ∃ t' : ItemV, t' = ⟨t.n, t.gen, chC b y.kinds i' t.comps⟩ := ⟨_, rfl⟩
  rw [← ht'] at e2 dl
  obtain ⟨A, hA⟩ : ∃ A, A = y.items.map leafD := ⟨_, rfl⟩
  obtain ⟨at_, hat⟩ : ∃ a, a = atI y.items I 0 := ⟨_, rfl⟩
  have hat2 : at_ = I1.length := by rw [hat, e3]; omega
  have hB : (chI b y.kinds I y.items).map leafD = A.set at_ (leafD t') := by
    rw [hA, e2, e1, hat2, List.map_append, List.map_append, List.map_cons, List.map_cons, List.set_append_right _ _ (by simp)]
    simp
  have hlt : at_ < A.length := by rw [hA, List.length_map, e1, hat2]; simp
  have hAg : A.getD at_ 0 = leafD t := by
    rw [hA, e1, hat2, List.map_append, List.map_cons, List.getD_eq_getElem?_getD, List.getElem?_append_right (by simp)]
    simp
  have hDA : ∀ z ∈ A, In64 z := fun z hz => by
    rw [hA] at hz
    obtain ⟨s, _, rfl⟩ := List.mem_map.1 hz
    exact leafD_in s
  have hneD : A.getD at_ 0 ≠ leafD t' := by
    rw [hAg]; unfold leafD
    intro e
    exact dl.dig (by omega)
  obtain ⟨o1, o2, o3, o4⟩ := one_off tieI In64 tie_inj2 A.length A at_ (leafD t') rfl hlt hDA (leafD_in t') hneD
  have hDB : ∀ z ∈ A.set at_ (leafD t'), In64 z := fun z hz => by
    rcases List.mem_or_eq_of_mem_set hz with hz | hz
    · exact hDA z hz
    · rw [hz]; exact leafD_in t'
  obtain ⟨ta1, ta2⟩ := top_D tieI In64 tie_inj2 A hDA (by omega)
  obtain ⟨tb1, tb2⟩ := top_D tieI In64 tie_inj2 (A.set at_ (leafD t')) hDB (by rw [List.length_set]; omega)
  obtain ⟨ra, hra⟩ : ∃ r : Nat, top tieI A = (r : Int) := ⟨(top tieI A).toNat, by omega⟩
  obtain ⟨rb, hrb⟩ : ∃ r : Nat, top tieI (A.set at_ (leafD t')) = (r : Int) := ⟨(top tieI (A.set at_ (leafD t'))).toNat, by omega⟩
  have hxt := dig_lt (leafI t)
  have hxt' := dig_lt (leafI t')
  have hBg : (A.set at_ (leafD t')).getD at_ 0 = leafD t' := by
    rw [List.getD_eq_getElem?_getD, List.getElem?_set_self hlt]; rfl
  have hAl : A.length = y.items.length := by rw [hA, List.length_map]
  rw [← hat]
  refine ⟨A.length, A, A.set at_ (leafD t'), ra, rb, dig (leafI t), dig (leafI t'), ?_⟩
  exact {
    wz := hz, chk := hz.check, fy := hy.fine, fz := hz.fine, sy := hy.small, sz := hz.small, dg := dw.dig
    sm := by
      have hne2 : y.items ≠ chI b y.kinds I y.items := fun e => by
        have hh : A.set at_ (leafD t') = A := by rw [← hB, ← e, hA]
        rw [hh] at hBg
        exact hneD hBg
      unfold sameB
      simp only
      rw [decide_eq_false hne2, Bool.and_false, Bool.and_false]
    an := hA, bn := hB.symm, al := rfl, bl := by rw [List.length_set]
    n8 := by rw [hAl]; exact hy.2.2.2.2.2.1
    lt := hlt, ua := hDA, ub := hDB
    nw := by
      rw [fill_eq (by rw [List.length_set]), fill_eq (by rw [List.length_set])]
      unfold narrow
      rw [if_neg o1]
      simp only
      rw [o2]
    ta := hra, ral := by omega, tb := hrb, rr := fun e => o1 (by rw [hra, hrb, e])
    xa := hAg, xl := hxt, xb := hBg, xl' := hxt'
    v1 := by
      rw [hAg, hra] at o3; exact o3
    v2 := by
      intro e
      have o5 : some (top tieI (A.set at_ (leafD t'))) = some (ra : Int) := o4.symm.trans e
      injection o5 with o5
      exact o1 (by rw [hra, o5])
    up := prov_in tieI In64 tie_inj2 A.length A at_ rfl (by omega) hDA }
end Go.Proofs.Ytncnbfefciobcaa
end
/- world.CopyComps. -/
section
namespace Go.Proofs.Ytncnbfefciobcaa
open Go.ChangeShapes Go.WideShapes Go.ChangeAt Go.RowKit Go.Mem
set_option linter.unusedVariables false
def F_cc (BB G n k m : Nat) (q : Int) (av : Option Addr) (cv : Nat) (zs : List Int) (j : Nat) (v : Value) (w : World) : Prop :=
  match j with
  | 0 => v = .slice (some ⟨G, 0, none⟩) n n
  | 1 => v = .int .i64 k
  | 2 => v = .pointer (some ⟨BB, 0, none⟩)
  | 3 => v = .int .i64 q
  | 4 => v = .pointer (some ⟨BB, 1, none⟩)
  | 5 => v = .slice av m cv
  | 6 => ∃ a c, v = .slice a m c ∧ IntsAt .i64 w a zs ∧ (∀ x, a = some x → BB < x.block)
  | 7 => ∃ a c, v = .agg #[.int .i64 q, .slice a m c] ∧ IntsAt .i64 w a zs ∧ (∀ x, a = some x → BB < x.block)
  | 8 => v = .pointer (some ⟨G, k * 2, none⟩)
  | _ => True
theorem F_cc_mono (BB G n k m : Nat) (q : Int) (av : Option Addr) (cv : Nat) (zs : List Int) : Facts (F_cc BB G n k m q av cv zs) := ⟨by
  intro j v w w' h hb
  unfold F_cc at h ⊢
  split at h
  all_goals first
    | exact h
    | (obtain ⟨a, c, e, hi, hx⟩ := h; exact ⟨a, c, e, hi.below hb, hx⟩)
    | trivial⟩
/-- a component in the making: its numbers lie in another block than the row -/
def CompNew (G : Nat) (w : World) (i : Nat) (y : CompV) : Prop := w.cell? ⟨G, i, none⟩ = some (.int .i64 y.kind) ∧ ∃ a c, w.cell? ⟨G, i + 1, none⟩ = some (.slice a y.vals.length c) ∧ IntsAt .i64 w a y.vals ∧ (∀ x, a = some x → G < x.block)
theorem ints_far {k : IntKind} {w : World} {a : Option Addr} {zs : List Int} (h : IntsAt k w a zs) {p : Addr} (hx : ∀ x, a = some x → x.block ≠ p.block) (v : Value) : IntsAt k (w.setCell p v) a zs := fun h0 => by
  obtain ⟨x, e, h1, h2⟩ := h h0
  refine ⟨x, e, by simpa using h1, fun i hi => ?_⟩
  rw [cell_set_ne (fun e2 => hx x e (by rw [e2, block_of_add]))]
  exact h2 i hi
theorem CompNew.below {G : Nat} {w w' : World} {i : Nat} {y : CompV} (h : CompNew G w i y) (hb : Below w.heap.size w w') : CompNew G w' i y := by
  obtain ⟨h1, a, c, h2, h3, h4⟩ := h
  exact ⟨cell_abides h1 hb, a, c, cell_abides h2 hb, h3.below hb, h4⟩
theorem CompNew.far {G : Nat} {w : World} {i : Nat} {y : CompV} (h : CompNew G w i y) (j : Nat) (v : Value) (n1 : j ≠ i) (n2 : j ≠ i + 1) : CompNew G (w.setCell ⟨G, j, none⟩ v) i y := by
  obtain ⟨h1, a, c, h2, h3, h4⟩ := h
  exact ⟨by rw [cell_set_ne (fun e => n1 (by injection e))]; exact h1, a, c, by rw [cell_set_ne (fun e => n2 (by injection e))]; exact h2, ints_far h3 (fun x e => by have := h4 x e; show x.block ≠ G; omega) v, h4⟩
theorem CompNew.at {G : Nat} {w : World} {i : Nat} {y : CompV} (h : CompNew G w i y) : CompAt w ⟨G, i, none⟩ y := by
  obtain ⟨h1, a, c, h2, h3, _⟩ := h
  exact ⟨h1, a, c, h2, h3⟩
/-- one element written -/
theorem CompNew.new {G : Nat} {w : World} {i : Nat} {y : CompV} {a : Option Addr} {c : Nat} {o1 o2 : Value} (h1 : w.cell? ⟨G, i, none⟩ = some o1) (h2 : w.cell? ⟨G, i + 1, none⟩ = some o2) (hi : IntsAt .i64 w a y.vals) (hx0 : ∀ x, a = some x → G < x.block) :
    CompNew G ((w.setCell ⟨G, i, none⟩ (.int .i64 y.kind)).setCell ⟨G, i + 1, none⟩ (.slice a y.vals.length c)) i y := by
  have hx : ∀ x, a = some x → x.block ≠ G := fun x e => by have := hx0 x e; omega
  have hne : (⟨G, i + 1, none⟩ : Addr) ≠ ⟨G, i, none⟩ := fun e => by injection e with _ e; omega
  refine ⟨?_, a, c, ?_, ints_far (ints_far hi hx _) hx _, hx0⟩
  · rw [cell_set_ne hne]; exact cell_set_eq h1
  · exact cell_set_eq (u := o2) (by rw [cell_set_ne hne.symm]; exact h2)
theorem CompNew.up {G : Nat} {w w2 : World} {i : Nat} {y : CompV} (h : CompNew G w i y) (hs : SameUp G w w2) : CompNew G w2 i y := by
  obtain ⟨h1, a, c, h2, h3, h4⟩ := h
  exact ⟨cell_up hs (Nat.le_refl _) h1, a, c, cell_up hs (Nat.le_refl _) h2, ints_up hs (fun x e => Nat.le_of_lt (h4 x e)) h3, h4⟩
def CopyPost (l : List CompV) (n : Nat) (W : World) (e : Ending) (w' : World) : Prop := ∃ a, e = .returned (.slice a n n) ∧ Up W.heap.size (fun w => SlAt 2 CompAt w a l) w' ∧ Below W.heap.size W w'
set_option maxHeartbeats 4000000 in
theorem copy_comps (l : List CompV) (a : Option Addr) (n cap : Nat) (hn : l.length = n) (h1 : n ≤ 1048576) (hv : ∀ y ∈ l, y.vals.length ≤ 1048576) (W : World) (hz : SlAt 2 CompAt W a l) :
    Calls Try.prog 28 #[.slice a n cap] W (CopyPost l n W) := by
  have HN := Lib.hid hn
  have HZ := Lib.hid hz
  have HV := Lib.hid hv
  clear hn hz hv
  go_enter Try.func28, Try.ntmps28
  go_wp2_with (at_make; go_must (refine wpList_make_blk rfl _ _ 60 rfl 59 (.agg #[.int .i64 0, .slice none 0 0]) 2 32 Try.underlying60 (by kernel_rfl) _ _ _ _ n rfl rfl rfl rfl ?b1 ?b2 ?_))
  case b1 => omega
  case b2 => unfold maxLen; omega
  intro w1 hblk hb1 hs1
  obtain ⟨G, hG⟩ : ∃ G, G = W.heap.size := ⟨_, rfl⟩
  rw [← hG] at hblk hs1 ⊢
  have HG := Lib.hid hG
  have HBLK := Lib.hid hblk
  have HB1 := Lib.hid hb1
  clear hG hblk hb1 hs1
  go_wp2_with fail
  go_loopg [4, 5, 11] n (fun gk v4 v5 vi wx => ∃ k : Nat, k ≤ n ∧ gk = n - k ∧ vi = .int .i64 k ∧ Blk wx G 59 (n * 2) ∧ (∀ j (h : j < l.length), j < k → CompNew G wx (j * 2) l[j]) ∧ Below W.heap.size W wx)
  case atStart => exact ⟨0, Nat.zero_le _, rfl, rfl, HBLK.out, fun j h h2 => absurd h2 (by omega), HB1.out⟩
  case round =>
    obtain ⟨k, hk, g2, rfl, hblk, hat, hb⟩ := hrel
    have G2 := Lib.hid g2
    have HB := Lib.hid hb
    have HBLK2 := Lib.hid hblk
    have HAT := Lib.hid hat
    have hgl := hblk.lt
    clear g2 hb hblk hat HBLK HB1
    by_cases hlt : k < n
    · obtain ⟨x, rfl, hx, hi⟩ := (HZ.out.below CompAt.abides HB.out) (by rw [HN.out]; omega)
      obtain ⟨c0, av, cv, c1, hv⟩ := hi k (by rw [HN.out]; exact hlt)
      obtain ⟨y, hy⟩ : ∃ y, y = l[k]'(by rw [HN.out]; exact hlt) := ⟨_, rfl⟩
      rw [← hy] at c0 c1 hv
      have hm : y.vals.length ≤ 1048576 := HV.out y (by rw [hy]; exact List.getElem_mem _)
      obtain ⟨m, hm2⟩ : ∃ m, m = y.vals.length := ⟨_, rfl⟩
      rw [← hm2] at c1 hm
      obtain ⟨q, hq⟩ : ∃ q, q = y.kind := ⟨_, rfl⟩
      rw [← hq] at c0
      have HY := Lib.hid hy
      have HM := Lib.hid hm2
      have HQ := Lib.hid hq
      have HI := Lib.hid hv
      clear hi hv hy hm2 hq
      go_wp2_with fail
      have B0 : (wr.alloc (.cells #[.int .i64 q, .slice av m cv] 59)).cell? ⟨wr.heap.size, 0, none⟩ = some (.int .i64 q) := by simp
      have B1 : (wr.alloc (.cells #[.int .i64 q, .slice av m cv] 59)).cell? ⟨wr.heap.size, 1, none⟩ = some (.slice av m cv) := by simp
      have hb0 := (Below.refl wr.heap.size wr).alloc (Nat.le_refl _) (.cells #[.int .i64 q, .slice av m cv] 59)
      have HC := Lib.hid (clone_at y.vals av m cv HM.out.symm (by omega))
      have HI2 := Lib.hid (HI.out.below hb0)
      refine wp_region_facts rfl 9 (by kernel_rfl) (F_cc wr.heap.size G n k m q av cv y.vals) (F_cc_mono wr.heap.size G n k m q av cv y.vals) ?_ ?_
      · refine ⟨?_, ?_, ?_, ?_, ?_, ?_, ?_, ?_, ?_, trivial⟩
        · intro vs w' F hb hd hF hl
          have e := (hF 3).trans (look_out _ 3 _ _ (by kernel_rfl))
          exact one_move _ rfl (by first | exact Or.inl rfl | exact Or.inr rfl) ⟨_, rfl, Below.refl _ _, e⟩
        · intro vs w' F hb hd hF hl
          have e := (hF 4).trans (look_out _ 4 _ _ (by kernel_rfl))
          exact one_move _ rfl (by first | exact Or.inl rfl | exact Or.inr rfl) ⟨_, rfl, Below.refl _ _, e⟩
        · intro vs w' F hb hd hF hl
          have e := (hF 5).trans (look_out _ 5 _ _ (by kernel_rfl))
          exact one_field _ _ _ rfl rfl _ _ e _ (fun w => by kernel_rfl) ⟨_, rfl, Below.refl _ _, rfl⟩
        · intro vs w' F hb hd hF hl
          have e := ((hF 18).trans (look_at _ 18 2 _ _ (by kernel_rfl) (by kernel_rfl) hl)).trans (dep_of (Fact := F_cc wr.heap.size G n k m q av cv y.vals) hd 2 (by kernel_rfl))
          exact one_load _ _ rfl rfl _ _ e (cell_abides B0 hb) (by kernel_rfl) ⟨_, rfl, Below.refl _ _, rfl⟩
        · intro vs w' F hb hd hF hl
          have e := (hF 5).trans (look_out _ 5 _ _ (by kernel_rfl))
          exact one_field _ _ _ rfl rfl _ _ e _ (fun w => by kernel_rfl) ⟨_, rfl, Below.refl _ _, rfl⟩
        · intro vs w' F hb hd hF hl
          have e := ((hF 20).trans (look_at _ 20 4 _ _ (by kernel_rfl) (by kernel_rfl) hl)).trans (dep_of (Fact := F_cc wr.heap.size G n k m q av cv y.vals) hd 4 (by kernel_rfl))
          exact one_load _ _ rfl rfl _ _ e (cell_abides B1 hb) (by kernel_rfl) ⟨_, rfl, Below.refl _ _, rfl⟩
        · intro vs w' F hb hd hF hl
          have e := (((hF 21).trans (look_at _ 21 5 _ _ (by kernel_rfl) (by kernel_rfl) hl)).trans (dep_of (Fact := F_cc wr.heap.size G n k m q av cv y.vals) hd 5 (by kernel_rfl)))
          refine one_call _ _ rfl rfl (enters_of Try.func24 (by kernel_rfl) rfl) #[.slice av m cv] (eval1 e) ?_
          refine (HC.out w' (HI2.out.below hb)).mono ?_
          rintro e2 w2 ⟨a2, c2, rfl, hi2, hx2, hb2⟩
          exact ⟨_, rfl, _, rfl, hb2, a2, c2, rfl, hi2, fun x hx => by have h1 := hx2 x hx; have h2 := hb.size; simp at h2; omega⟩
        · intro vs w' F hb hd hF hl
          obtain ⟨a2, c2, hv2, hi2, hx2⟩ := (dep_of (Fact := F_cc wr.heap.size G n k m q av cv y.vals) hd 6 (by kernel_rfl))
          have e1 := (((hF 19).trans (look_at _ 19 3 _ _ (by kernel_rfl) (by kernel_rfl) hl)).trans (dep_of (Fact := F_cc wr.heap.size G n k m q av cv y.vals) hd 3 (by kernel_rfl)))
          have e2 := ((hF 22).trans (look_at _ 22 6 _ _ (by kernel_rfl) (by kernel_rfl) hl)).trans hv2
          exact one_build _ _ rfl rfl #[(0, .int .i64 q), (1, .slice a2 m c2)] (parts2 e1 e2) (.agg #[.int .i64 q, .slice a2 m c2]) (fun w => by kernel_rfl) ⟨_, rfl, Below.refl _ _, a2, c2, rfl, hi2, hx2⟩
        · intro vs w' F hb hd hF hl
          have ex := (((hF 16).trans (look_at _ 16 0 _ _ (by kernel_rfl) (by kernel_rfl) hl)).trans (dep_of (Fact := F_cc wr.heap.size G n k m q av cv y.vals) hd 0 (by kernel_rfl)))
          have ey := (((hF 17).trans (look_at _ 17 1 _ _ (by kernel_rfl) (by kernel_rfl) hl)).trans (dep_of (Fact := F_cc wr.heap.size G n k m q av cv y.vals) hd 1 (by kernel_rfl)))
          exact one_index 60 _ _ rfl rfl (.slice (some ⟨G, 0, none⟩) n n) (.int .i64 k) (.pointer (some ⟨G, k * 2, none⟩)) ex ey (fun w => by clear hb hd hF hl ex ey; go_simp) ⟨_, rfl, Below.refl _ _, rfl⟩
      · intro vs W1 hl hb hI
        obtain ⟨a8, c8, i7, hi8, hx8⟩ := hI 7 (by omega)
        have i8 : vs.getD 8 undef = .pointer (some ⟨G, k * 2, none⟩) := hI 8 (by omega)
        obtain ⟨v0, v1, v2, v3, v4, v5, v6, v7, v8, v9, rfl⟩ := list10 hl
        replace i7 : v7 = .agg #[.int .i64 q, .slice a8 m c8] := i7
        replace i8 : v8 = .pointer (some ⟨G, k * 2, none⟩) := i8
        subst i7 i8
        have hblk1 := (HBLK2.out.below hb0).below hb
        obtain ⟨o1, ho1⟩ := hblk1.cell (k * 2) (by omega)
        obtain ⟨o2, ho2⟩ := hblk1.cell (k * 2 + 1) (by omega)
        have f1 := hblk1.frozen (k * 2)
        have f2 := hblk1.frozen (k * 2 + 1)
        have hbw : Below wr.heap.size wr W1 := hb0.trans (hb.mono (by simp))
        have hbn : Below W.heap.size W ((W1.setCell ⟨G, k * 2, none⟩ (.int .i64 q)).setCell ⟨G, k * 2 + 1, none⟩ (.slice a8 m c8)) := ((HB.out.trans (hbw.mono HB.out.size)).setCell (by rw [← HG.out]; exact Nat.le_refl _) _).setCell (by rw [← HG.out]; exact Nat.le_refl _) _
        have HBN := Lib.hid hbn
        have HBK := Lib.hid ((hblk1.set (k * 2) (.int .i64 q)).set (k * 2 + 1) (.slice a8 m c8))
        have hatn : ∀ j (h : j < l.length), j < k + 1 → CompNew G ((W1.setCell ⟨G, k * 2, none⟩ (.int .i64 q)).setCell ⟨G, k * 2 + 1, none⟩ (.slice a8 m c8)) (j * 2) l[j] := by
          intro j h hj
          by_cases hjk : j < k
          · exact (((HAT.out j h hjk).below hbw).far _ _ (by omega) (by omega)).far _ _ (by omega) (by omega)
          · obtain rfl : j = k := by omega
            rw [← HY.out, HQ.out, HM.out]
            exact CompNew.new ho1 ho2 hi8 (fun x hx => by have := hx8 x hx; omega)
        have HATN := Lib.hid hatn
        clear hI hl hb hbw hbn hblk1 hatn hi8 hx8 HC HI2 hb0 B0 B1
        simp only [fillAll, Act.put, List.setIfInBounds_toArray, List.set_cons_succ, List.set_cons_zero]
        go_wp2
        go_roundg (n - (k + 1))
        case measure => rw [G2.out]; omega
        case rel => exact ⟨k + 1, hlt, rfl, by go_num, HBK.out, HATN.out, HBN.out⟩
    · have hke : k = n := by omega
      have HK := Lib.hid hke
      clear hke
      go_wp2_with fail
      go_ret
      refine ⟨some ⟨G, 0, none⟩, rfl, fun w2 hs h0 => ⟨_, rfl, Nat.lt_of_lt_of_le hgl hs.1, fun i hi => ?_⟩, HB.out⟩
      have := HAT.out i hi (by rw [HK.out, ← HN.out]; exact hi)
      rw [add_zero_block]; exact (this.up (by rw [HG.out]; exact hs)).at
end Go.Proofs.Ytncnbfefciobcaa
end
/- slices.Clone of ints once more: no cell of the new row is a string. -/
section
namespace Go.Proofs.Ytncnbfefciobcaa
open Go.ChangeShapes Go.WideShapes Go.ChangeAt Go.RowKit Go.Mem
set_option linter.unusedVariables false
/-- no cell of block G is a string -/
def NoStr (w : World) (G : Nat) : Prop := ∀ i s, w.cell? ⟨G, i, none⟩ ≠ some (.string s)
theorem NoStr.below {w w' : World} {G : Nat} (h : NoStr w G) (hG : G < w.heap.size) (hb : Below w.heap.size w w') : NoStr w' G := fun i s => by
  rw [World.cell?_of_block (w := w) (hb.block G hG)]
  exact h i s
theorem nostr_row0 {w : World} {G : Nat} {cs : Array Value} {t : TypeId} {fr : Nat × Nat} (h : w.heap[G]? = some (.cells cs t fr)) (hs : ∀ (j : Nat) (s : ByteArray), cs[j]? ≠ some (Value.string s)) : NoStr w G := fun i s => by
  rw [cell_of_row _ _ _ _ _ _ h]; exact hs i s
/-- A slice of ints that the call owns; its row holds no string. -/
def OwnPostN (zs : List Int) (n : Nat) (w : World) (e : Ending) (w' : World) : Prop := ∃ v, e = .returned v ∧ w'.ownsRow w.heap.size 3 1 v n (vints .i64 zs) ∧ Below w.heap.size w w' ∧ ∀ g, v.ownBlock = some g → NoStr w' g
set_option maxHeartbeats 4000000 in
theorem clone_intsN (l : List Int) (a : Option Addr) (n cap : Nat) (hn : l.length = n) (h1 : n ≤ 17592186044416) (w : World) (hin : IntsAt .i64 w a l) :
    Calls Try.prog 24 #[.slice a n cap] w (OwnPostN l n w) := by
  rcases a with _ | x
  · have h0 : n = 0 := by
      rcases Nat.eq_zero_or_pos n with h | h
      · exact h
      · obtain ⟨x, h2, _⟩ := hin (by omega)
        cases h2
    subst h0
    have : l = [] := List.eq_nil_of_length_eq_zero hn
    subst this
    have hnil : w.ownsRow w.heap.size 3 1 (.slice none 0 0) 0 (vints .i64 []) := ⟨rfl, .inl ⟨rfl, rfl⟩⟩
    have HNIL := Lib.hid hnil
    clear hnil hin hn
    have hq := fun wx => Lib.run_eql_slice_nil (P := Try.prog) wx 22 3 none 0 cap 0 0 Try.underlying22
    simp only [Option.isNone] at hq
    go_enter Try.func24, Try.ntmps24
    go_wp2
    go_ret
    exact ⟨_, rfl, HNIL.out, Below.refl _ _, fun g h => by cases h⟩
  · have HN := Lib.hid hn
    obtain ⟨i0, hi0, hz0, hzs, hzb⟩ := info_parts (show (Try.prog.info? 3).map (fun i => (i.zero, i.size, i.bytes)) = some (some (.int .i64 0), 1, 8) by kernel_rfl)
    have hq := fun wx => Lib.run_eql_slice_nil (P := Try.prog) wx 22 3 (some x) n cap 0 0 Try.underlying22
    simp only [Option.isNone] at hq
    obtain ⟨W1, hW1⟩ : ∃ W1, W1 = w.alloc (.cells #[] 3) := ⟨_, rfl⟩
    have hba : Below w.heap.size w W1 := by rw [hW1]; exact (Below.refl w.heap.size w).alloc (Nat.le_refl _) (.cells #[] 3)
    have hs1 : W1.heap.size = w.heap.size + 1 := by rw [hW1, World.size_alloc]
    have hr1 : W1.heap[w.heap.size]? = some (.cells #[] 3 (0, 0)) := by rw [hW1]; exact heap_alloc_new w _
    have hin1 := hin.below hba
    by_cases h0 : n = 0
    · subst h0
      have hl0 : l = [] := List.eq_nil_of_length_eq_zero hn
      have hown : W1.ownsRow w.heap.size 3 1 (.slice (some ⟨w.heap.size, 0, none⟩) 0 0) 0 (vints .i64 l) := by
        rw [hl0]
        exact ⟨rfl, Or.inr ⟨w.heap.size, 0, #[], rfl, Nat.le_refl _, hr1, Nat.le_refl _, by unfold maxLen; omega, rfl, rfl⟩⟩
      have hno : NoStr W1 w.heap.size := nostr_row0 hr1 (fun j s => by simp)
      have hlo : ∀ wx : World, (loadCells x 0).run Try.prog wx = .ok #[] wx := fun wx => by simpa using run_loadCells_list (P := Try.prog) wx x [] (by simp)
      have hrun : ∀ ty, (Builtin.append_ #[22, 22] ty #[.slice (some ⟨w.heap.size, 0, none⟩) 0 0, .slice (some x) 0 cap]).run Try.prog W1 = .ok (.slice (some ⟨w.heap.size, 0, none⟩) 0 0) W1 := fun ty => by
        simp [Builtin.append_, run_underlying Try.underlying22, sizeOf, typeInfo, hi0, Builtin.lenOf, Builtin.firstCells, storeCells, hlo]
      have HR := Lib.hid hrun
      have HO := Lib.hid hown
      have HNO := Lib.hid hno
      have HBA := Lib.hid hba
      clear hown hno hlo hin1 hr1 hs1 hba hi0 hz0 hzs hzb hl0 hin hn HN
      subst hW1
      go_enter Try.func24, Try.ntmps24
      go_wp2_with (at_builtin; go_must (refine Lib.wpList_append_run _ rfl _ _ _ _ rfl _ _ rfl rfl _ _ (HR.out _) ?_))
      go_ret
      exact ⟨_, rfl, HO.out, HBA.out, fun g hg => by injection hg with hg; have hg2 : w.heap.size = g := hg; rw [← hg2]; exact HNO.out⟩
    · obtain ⟨_, ex, hxb, hxc⟩ := hin1 (by omega)
      injection ex with ex
      subst ex
      have hsrc : Src Try.prog i0.size 22 (.slice (some x) n cap) n (vints .i64 l) W1 := by
        rw [hzs]
        refine Src.ofSlice W1 Try.underlying22 x n cap (vints .i64 l) (by rw [vints_length, hn, Nat.mul_one]) (fun j u hj => ?_) (vints_one .i64 l)
        have hjl : j < l.length := by
          have := (List.getElem?_eq_some_iff.1 hj).1
          rwa [vints_length] at this
        rw [hxc j hjl]
        rw [vints_get .i64 l j hjl] at hj
        exact hj
      have hold : (Builtin.firstCells i0.size 0 (.slice (some ⟨w.heap.size, 0, none⟩) 0 0)).run Try.prog W1.drew = .ok ([] : List Value).toArray W1.drew := by
        exact run_firstCells_some W1.drew i0.size 0 ⟨w.heap.size, 0, none⟩ 0 0 [] (by simp) (fun j v hj => by simp at hj)
      have hrun := fun ty => run_append_grow_src W1 22 22 ty 3 i0 _ Try.underlying22 hi0 hz0 (some ⟨w.heap.size, 0, none⟩) 0 0 [] hold _ n (vints .i64 l) hsrc (by omega) (by omega) (by rw [hzb]; exact growslice_fits (by omega) (by omega))
      obtain ⟨C, hC⟩ : ∃ C, C = grownCap W1 (0 + n) 0 3 := ⟨_, rfl⟩
      obtain ⟨ROW, hROW⟩ : ∃ ROW : Array Value, ROW = (([] : List Value) ++ vints .i64 l).toArray ++ Builtin.zeroCells (Value.int .i64 0).cells (C - (0 + n)) := ⟨_, rfl⟩
      rw [← hC, ← hROW] at hrun
      have hCn : 0 + n ≤ C := by rw [hC]; exact grownCap_ge W1 _ _ _
      have hCm : C ≤ maxLen := by rw [hC]; exact grownCap_le_maxLen W1 (0 + n) 0 3 (by unfold maxLen; omega)
      obtain ⟨W2, hW2⟩ : ∃ W2, W2 = W1.drew.alloc (.cells ROW 3) := ⟨_, rfl⟩
      have hr2 : W2.heap[W1.heap.size]? = some (.cells ROW 3 (0, 0)) := by rw [hW2]; exact heap_alloc_new W1.drew _
      have hb2 : Below w.heap.size w W2 := by rw [hW2]; exact hba.drew.alloc (by show w.heap.size ≤ W1.heap.size; omega) _
      have hRs : ROW.size = C * 1 := by
        rw [hROW]
        simp [Builtin.zeroCells, Value.cells, vints_length, hn]
        omega
      have hown : W2.ownsRow w.heap.size 3 1 (.slice (some ⟨W1.heap.size, 0, none⟩) n C) n (vints .i64 l) := by
        refine ⟨by rw [vints_length, hn, Nat.mul_one], Or.inr ⟨W1.heap.size, C, ROW, rfl, by omega, hr2, by omega, hCm, hRs, ?_⟩⟩
        rw [hROW]
        simp only [List.nil_append, Array.toList_append]
        rw [List.take_append_of_le_length (by rw [vints_length]; omega), List.take_of_length_le (by rw [vints_length]; omega)]
      have hno : NoStr W2 W1.heap.size := nostr_row0 hr2 (fun j s hj => by
        have hm := Array.mem_of_getElem? hj
        rw [hROW] at hm
        rw [Array.mem_append] at hm
        rcases hm with hm | hm
        · simp [vints] at hm
        · simp [Builtin.zeroCells, Value.cells] at hm
          obtain ⟨a, _, ha⟩ := hm
          rw [Nat.mod_one] at ha
          simp at ha)
      rw [Nat.zero_add, ← hW2, hs1] at hrun
      rw [hs1] at hown hno
      have HR := Lib.hid hrun
      have HO := Lib.hid hown
      have HNO := Lib.hid hno
      have HB2 := Lib.hid hb2
      clear hown hno hin1 hr1 hs1 hba hi0 hz0 hzs hzb hin hn HN hxc hxb hsrc hold hrun hROW hC hr2 hb2 hRs hCn hCm hW2
      subst hW1
      go_enter Try.func24, Try.ntmps24
      go_wp2_with (at_builtin; go_must (refine Lib.wpList_append_run _ rfl _ _ _ _ rfl _ _ rfl rfl _ _ (HR.out _) ?_))
      go_ret
      exact ⟨_, rfl, HO.out, HB2.out, fun g hg => by injection hg with hg; have hg2 : _ = g := hg; rw [← hg2]; exact HNO.out⟩
theorem OwnPostN.own {zs : List Int} {n : Nat} {w w' : World} {e : Ending} (h : OwnPostN zs n w e w') : OwnPost zs n w e w' := by
  obtain ⟨v, h1, h2, h3, _⟩ := h
  exact ⟨v, h1, h2, h3⟩
end Go.Proofs.Ytncnbfefciobcaa
end
