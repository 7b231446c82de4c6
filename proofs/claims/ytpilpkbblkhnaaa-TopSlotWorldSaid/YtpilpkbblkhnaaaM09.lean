/- Lemmas for the law TopSlotWorld: RegRel, RegAnc, RegBef, SlotT. No conditions. -/
import Derived.Test.YtpilpkbblkhnaaaM06
import Derived.Test.YtpilpkbblkhnaaaM08
/- Drawn regions by facts, over relations of worlds, one for each operation: an operation that writes a row of the call's own (an append) may stand in the head. By program from RegTail (its proof, Below turned into Rel). -/
section
namespace Go.Mem
open Go.Proofs
set_option linter.unusedVariables false
structure FactsR (RelI : Nat → World → World → Prop) (Fact : Nat → Value → World → Prop) : Prop where
  mono : ∀ i j v w w', i ≠ j → Fact j v w → RelI i w w' → Fact j v w'
section
variable (P : Program) (ops : List Oper) (Q : Exit → Act → World → Prop) (a0 : Act) (W0 : World) (Rel : World → World → Prop) (RelI : Nat → World → World → Prop) (Fact : Nat → Value → World → Prop) (qw : Nat) (Inv : World → Prop) (n : Nat)
/-- What stands behind operation i. -/
def QOneR (w : World) (i : Nat) (o : Oper) (F : Act) : Exit → Act → World → Prop
  | .normal, a, w' => ∃ v : Value, a = F.put o.dst v ∧ RelI i w w' ∧ Fact i v w'
  | e, a, w => Q e a w
/-- what is owed for operation i; the tail's slots hold what they held -/
def OblOneR (i : Nat) (o : Oper) : Prop := ∀ (vs : List Value) (w : World) (F : Act), Rel W0 w → (∀ e ∈ o.after, Region.binds .any e = true → Fact e.on (vs.getD e.on undef) w) → (∀ t, F.eval (.tmp t) = look a0 t ops vs) → vs.length = ops.length → (∀ t, n ≤ t → vs.getD t undef = (origs a0 ops).getD t undef) → (i = qw → Inv w) → wpList P ops.toArray (QOneR Q RelI Fact w i o F) [o] F w
def OblR : List Oper → Nat → Prop
  | [], _ => True
  | o :: r, i => OblOneR P ops Q a0 W0 Rel RelI Fact qw Inv n i o ∧ OblR r (i + 1)
end
theorem OblR.get {P : Program} {ops : List Oper} {Q : Exit → Act → World → Prop} {a0 : Act} {W0 : World} {Rel : World → World → Prop} {RelI : Nat → World → World → Prop} {Fact : Nat → Value → World → Prop} {qw : Nat} {Inv : World → Prop} {n : Nat} : ∀ {l : List Oper} {k : Nat}, OblR P ops Q a0 W0 Rel RelI Fact qw Inv n l k → ∀ {i : Nat} {o : Oper}, l[i]? = some o → OblOneR P ops Q a0 W0 Rel RelI Fact qw Inv n (k + i) o
  | [], _, _, i, o, h => by simp at h
  | x :: r, k, H, 0, o, h => by simp at h; subst h; exact H.1
  | x :: r, k, H, i + 1, o, h => by
    have := H.2.get (i := i) (o := o) (by simpa using h)
    rwa [show k + 1 + i = k + (i + 1) by omega] at this
theorem wp_region_facts_r {P : Program} {id : Nat} {ops : List Oper} {Q : Exit → Act → World → Prop} {a0 : Act} {w0 : World} (hm : P.follows .mixedOrders = true) (n : Nat)
    (hac : (acyclicB ops && distinctB ops && tailT ops n && Region.seqB .any ops.toArray (ops.drop n).length n (headTail n (ops.length - n)) && decide (n ≤ ops.length)) = true)
    (Rel : World → World → Prop) (hr0 : Rel w0 w0.drew) (htr : ∀ a b c, Rel a b → Rel b c → Rel a c) (RelI : Nat → World → World → Prop) (hsub : ∀ i a b, RelI i a b → Rel a b) (Fact : Nat → Value → World → Prop) (hF : FactsR RelI Fact) (qw : Nat) (Inv : World → Prop) (hi0 : Inv w0.drew) (hinv : ∀ i a b, i ≠ qw → RelI i a b → Inv a → Inv b)
    (hstep : OblR P ops Q a0 w0 Rel RelI Fact qw Inv n (ops.take n) 0)
    (hend : ∀ (vs : List Value) (w : World), vs.length = ops.length → Rel w0 w → (∀ j, j < n → Fact j (vs.getD j undef) w) → wpList P ops.toArray Q (ops.drop n) (fillAll a0 ops vs) w) :
    (Code.region id ops.toArray true).wp P Q a0 w0 := by
  simp only [Bool.and_eq_true, decide_eq_true_eq] at hac
  obtain ⟨⟨⟨⟨hac, hdis⟩, htl⟩, hseq⟩, hn⟩ := hac
  refine wp_region_any hm ?_
  have key : ∀ (fuel : Nat) (listed : Array Bool) (vs : List Value) (w : World), listed.size = ops.length → vs.length = ops.length → unl listed.toList = fuel → (∀ t, n ≤ t → t < ops.length → listed.getD t true = false) →
      Rel w0 w → (∀ j, j < ops.length → listed.getD j true = true → Fact j (vs.getD j undef) w) → (∀ j o, ops[j]? = some o → listed.getD j true = true → ∀ e ∈ o.after, Region.binds .any e = true → listed.getD e.on true = true) → (∀ t, n ≤ t → vs.getD t undef = (origs a0 ops).getD t undef) → (listed.getD qw true = false → Inv w) → wpAny P .any ops.toArray Q fuel listed (fillAll a0 ops vs) w := by
    intro fuel
    induction fuel with
    | zero =>
      intro listed vs w hs hvl hu ht hb hI hcl hT hIV
      have hall : ∀ j, listed.getD j true = true := by
        intro j
        by_cases hj : j < listed.size
        · exact unl_zero hu (listed.getD j true) (by simp [hj])
        · simp [hj]
      have hno : n = ops.length := by
        rcases Nat.lt_or_ge n ops.length with h | h
        · have h1 := ht n (Nat.le_refl _) h; rw [hall n] at h1; cases h1
        · omega
      have hd : ops.drop n = [] := by rw [hno]; simp
      have := hend vs w hvl hb (fun j hj => hI j (by omega) (hall j))
      rw [hd] at this
      refine ⟨?_, this⟩
      unfold Region.ready
      rw [List.filter_eq_nil_iff]
      intro i hi
      simp [hall i]
    | succ fuel ih =>
      intro listed vs w hs hvl hu ht hb hI hcl hT hIV
      by_cases hpre : ∀ j, j < n → listed.getD j true = true
      · -- the head is done: the tail, in its one order
        have hL : listed = headTail n (ops.length - n) := by
          unfold headTail
          apply Array.ext
          · simp; omega
          · intro i h1 h2
            have e : listed[i] = listed.getD i true := by simp [h1]
            rw [e]
            by_cases hi : i < n
            · rw [hpre i hi]; simp [hi]
            · rw [ht i (by omega) (by omega)]; simp [List.getElem_append, hi]
        have hf : fuel + 1 = (ops.drop n).length := by
          rw [← hu, hL]; simp [headTail, unl]
        rw [hf]
        refine wpAny_of_seq (ops.drop n) n listed _ w (fun j => by simp [List.getElem?_drop]) (by rw [hL]; exact hseq) ?_
        exact hend vs w hvl hb (fun j hj => hI j (by omega) (hpre j hj))
      · constructor
        · intro hr
          exfalso
          obtain ⟨i, h1, h2⟩ := first_false listed.toList (by omega)
          have hi : i < listed.size := by
            have := (List.getElem?_eq_some_iff.1 h1).1; simpa using this
          have hio : i < ops.length := by omega
          have hmem : i ∈ Region.ready .any ops.toArray listed := by
            unfold Region.ready
            rw [List.mem_filter]
            refine ⟨by simp; omega, ?_⟩
            have hl : listed.getD i true = false := by simp [Array.getD_eq_getD_getElem?, ← Array.getElem?_toList, h1]
            rw [hl]
            have ho : ops.toArray[i]? = some ops[i] := by simp [hio]
            rw [ho]
            simp only [Option.map_some, Option.getD_some, Bool.not_false, Bool.true_and, Array.all_eq_true_iff_forall_mem]
            intro e he
            unfold acyclicB at hac
            have := List.all_eq_true.1 hac (ops[i], i) (by rw [List.mem_zipIdx_iff_getElem?]; simp [hio])
            have := (Array.all_eq_true_iff_forall_mem.1 this) e he
            simp only [Bool.or_eq_true, Bool.not_eq_true', decide_eq_true_eq] at this ⊢
            rcases this with h | h
            · exact Or.inl h
            · right
              have := h2 e.on h
              simp [Array.getD_eq_getD_getElem?, ← Array.getElem?_toList, this]
          rw [hr] at hmem
          cases hmem
        · intro i hi
          unfold Region.ready at hi
          rw [List.mem_filter] at hi
          obtain ⟨hir, hi⟩ := hi
          have hio : i < ops.length := by simpa using hir
          have hoA : ops.toArray[i]? = some ops[i] := by simp [hio]
          rw [hoA] at hi
          simp only [Option.map_some, Option.getD_some, Bool.and_eq_true, Bool.not_eq_true', Array.all_eq_true_iff_forall_mem] at hi
          obtain ⟨hl, hdep⟩ := hi
          have hdep' : ∀ e ∈ (ops[i]).after, Region.binds .any e = true → e.on < listed.size ∧ listed.getD e.on true = true := by
            intro e he hbd
            have := hdep e he
            rw [hbd] at this
            simp only [Bool.not_true, Bool.false_or] at this
            by_cases hb : e.on < listed.size
            · exact ⟨hb, by simpa [hb] using this⟩
            · simp [hb] at this
          have hin : i < n := by
            rcases Nat.lt_or_ge i n with h | h
            · exact h
            · exfalso
              apply hpre
              intro j hj
              unfold tailT at htl
              have := List.all_eq_true.1 htl (ops[i], i) (by rw [List.mem_zipIdx_iff_getElem?]; simp [hio])
              simp only [Bool.or_eq_true, decide_eq_true_eq] at this
              rcases this with h' | h'
              · omega
              · have := List.all_eq_true.1 h' j (by simp; omega)
                exact anc_listed hcl 8 i j ops[i] (by simp [hio]) (fun e he hbd => (hdep' e he hbd).2) this
          have ho : ops[i]? = some ops[i] := by simp [hio]
          have hot : (ops.take n)[i]? = some ops[i] := by rw [List.getElem?_take, if_pos hin]; exact ho
          have hl' : listed.toList[i]? = some false := by
            have hlt : i < listed.size := by omega
            have : listed.getD i true = listed[i] := by simp [hlt]
            rw [this] at hl
            rw [Array.getElem?_toList, Array.getElem?_eq_getElem hlt, hl]
          have hstep' := hstep.get hot
          rw [Nat.zero_add] at hstep'
          have H := hstep' vs w (fillAll a0 ops vs) hb (fun e he hbd => hI e.on (by have := (hdep' e he hbd).1; omega) (hdep' e he hbd).2) (fun t => eval_fill a0 t ops vs) hvl hT (fun e => hIV (by rw [← e]; exact hl))
          have hnext : ∀ (a' : Act) (w' : World), QOneR Q RelI Fact w i ops[i] (fillAll a0 ops vs) .normal a' w' → wpAny P .any ops.toArray Q fuel (listed.setIfInBounds i true) a' w' := by
            rintro a' w' ⟨v, rfl, hb', hv⟩
            rw [fillAll_set a0 ops vs i ops[i] v hdis ho (by omega)]
            refine ih _ (vs.set i v) w' (by simpa using hs) (by simpa using hvl) ?_ ?_ (htr _ _ _ hb (hsub _ _ _ hb')) ?_ ?_ ?_ (fun hq => by
              by_cases e : i = qw
              · subst e
                by_cases hlt : i < listed.size <;> simp [Array.getD_eq_getD_getElem?, hlt] at hq
              · rw [Array.getD_eq_getD_getElem?, Array.getElem?_setIfInBounds, if_neg e, ← Array.getD_eq_getD_getElem?] at hq
                exact hinv i _ _ e hb' (hIV hq))
            · have := unl_set listed.toList i hl'
              rw [Array.toList_setIfInBounds]; omega
            · intro t h1 h2
              rw [Array.getD_eq_getD_getElem?, Array.getElem?_setIfInBounds, if_neg (by omega), ← Array.getD_eq_getD_getElem?]
              exact ht t h1 h2
            · intro j hj hlj
              by_cases e : j = i
              · subst e
                rw [List.getD_eq_getElem?_getD, List.getElem?_set_self (by omega)]
                exact hv
              · rw [List.getD_eq_getElem?_getD, List.getElem?_set_ne (by omega), ← List.getD_eq_getElem?_getD]
                refine hF.mono i _ _ _ _ (fun e2 => e e2.symm) (hI j hj ?_) hb'
                rwa [Array.getD_eq_getD_getElem?, Array.getElem?_setIfInBounds, if_neg (by omega), ← Array.getD_eq_getD_getElem?] at hlj
            · have up : ∀ q, listed.getD q true = true → (listed.setIfInBounds i true).getD q true = true := by
                intro q hq
                by_cases e : q = i
                · subst e
                  by_cases hlt : q < listed.size <;> simp [Array.getD_eq_getD_getElem?, hlt]
                · rwa [Array.getD_eq_getD_getElem?, Array.getElem?_setIfInBounds, if_neg (by omega), ← Array.getD_eq_getD_getElem?]
              intro j o hoj hlj e he hbd
              apply up
              by_cases hji : j = i
              · subst hji
                rw [ho] at hoj
                injection hoj with hoj
                subst hoj
                exact (hdep' e he hbd).2
              · rw [Array.getD_eq_getD_getElem?, Array.getElem?_setIfInBounds, if_neg (by omega), ← Array.getD_eq_getD_getElem?] at hlj
                exact hcl j o hoj hlj e he hbd
            · intro t h1
              rw [List.getD_eq_getElem?_getD, List.getElem?_set_ne (by omega), ← List.getD_eq_getElem?_getD]
              exact hT t h1
          unfold wpOp
          rw [hoA]
          simp only
          unfold wpList at H
          split
          · rename_i hw
            rw [if_pos hw] at H
            have conv : ∀ {K : Act → World → Prop}, (ops[i]).wp P (fillAll a0 ops vs) w K (QOneR Q RelI Fact w i ops[i] (fillAll a0 ops vs)) → (ops[i]).wp P (fillAll a0 ops vs) w K Q := by
              intro K hh
              unfold Oper.wp at *
              generalize (execOp (fillAll a0 ops vs).eval ops[i]).run P w = r at *
              cases r with
              | ok n w' =>
                cases n <;> simp only [Oper.upon] at hh ⊢ <;>
                  first
                    | exact hh
                    | (refine Calls.mono hh (fun e w'' he => ?_)
                       cases e with
                       | returned v => exact he
                       | panicked c => exact he
                       | outgrown =>
                         obtain ⟨a1, w1, hq⟩ := he
                         exact ⟨a1, w1, hq⟩)
              | halt x w' => cases x <;> simp only [Oper.upon] at hh ⊢ <;> exact hh
            rcases H with H | ⟨hasks, a1, w1, hq⟩
            · left
              refine conv (Oper.wp_mono (fun a w h => ?_) H)
              exact hnext _ _ h
            · right
              exact ⟨hasks, a1, w1, hq⟩
          · rename_i hw
            rw [if_neg hw] at H
            exact hnext _ _ H
  have hrep : unl (Array.replicate ops.toArray.size false).toList = ops.toArray.size := by
    simp [unl]
  have := key ops.toArray.size (Array.replicate ops.toArray.size false) (origs a0 ops) w0.drew (by simp) (by simp [origs]) hrep (fun t h1 h2 => by simp [h2]) hr0 (fun j hj h => by simp [hj] at h) (fun j o hoj h => by have := (List.getElem?_eq_some_iff.1 hoj).1; simp [this] at h) (fun t h => rfl) (fun _ => hi0)
  rwa [fillAll_origs] at this
end Go.Mem
end
/- Drawn regions by facts, over relations of worlds, where a fact need not outlive an operation that it stands behind. By program from RegRel. -/
section
namespace Go.Mem
open Go.Proofs
set_option linter.unusedVariables false
/-- A lists, for each operation, operations that it stands behind (a bit each). -/
def ancOkB (ops : List Oper) (A : List Nat) : Bool := (ops.zipIdx).all fun x => (List.range ops.length).all fun i => !(A.getD x.2 0).testBit i || x.1.after.any fun e => Region.binds .any e && decide (e.on < x.2) && (e.on == i || (A.getD e.on 0).testBit i)
theorem anc_listed2 {ops : List Oper} {A : List Nat} (hA : ancOkB ops A = true) {listed : Array Bool} (hcl : ∀ j o, ops[j]? = some o → listed.getD j true = true → ∀ e ∈ o.after, Region.binds .any e = true → listed.getD e.on true = true) :
    ∀ (n j i : Nat), j < n → j < ops.length → i < ops.length → listed.getD j true = true → (A.getD j 0).testBit i = true → listed.getD i true = true := by
  intro n
  induction n with
  | zero => intro j i h; omega
  | succ n ih =>
    intro j i hjn hj hi hl ht
    have h1 := List.all_eq_true.1 hA (ops[j], j) (by rw [List.mem_zipIdx_iff_getElem?]; simp [hj])
    have h2 := List.all_eq_true.1 h1 i (by simpa using hi)
    simp only [ht, Bool.not_true, Bool.false_or] at h2
    obtain ⟨e, he, h3⟩ := Array.any_eq_true'.1 h2
    simp only [Bool.and_eq_true, Bool.or_eq_true, decide_eq_true_eq, beq_iff_eq] at h3
    obtain ⟨⟨hb, hlt⟩, h4⟩ := h3
    have hle := hcl j ops[j] (by simp [hj]) hl e he hb
    rcases h4 with h4 | h4
    · rw [← h4]; exact hle
    · exact ih e.on i (by omega) (by omega) hi hle h4
structure FactsA (A : List Nat) (RelI : Nat → World → World → Prop) (Fact : Nat → Value → World → Prop) : Prop where
  mono : ∀ i j v w w', i ≠ j → (A.getD j 0).testBit i = false → Fact j v w → RelI i w w' → Fact j v w'
end Go.Mem
end
/- Drawn regions by facts: what stands ahead of one chosen operation knows that it has not been run. By program from RegRel and RegAnc. -/
section
namespace Go.Mem
open Go.Proofs
set_option linter.unusedVariables false
section
variable (P : Program) (ops : List Oper) (Q : Exit → Act → World → Prop) (a0 : Act) (W0 : World) (Rel : World → World → Prop) (RelI : Nat → World → World → Prop) (Fact : Nat → Value → World → Prop) (qw : Nat) (AQ : Nat) (Inv : World → Prop) (n : Nat)
/-- what is owed for operation i; the tail's slots hold what they held -/
def OblOneB (i : Nat) (o : Oper) : Prop := ∀ (vs : List Value) (w : World) (F : Act), Rel W0 w → (∀ e ∈ o.after, Region.binds .any e = true → Fact e.on (vs.getD e.on undef) w) → (∀ t, F.eval (.tmp t) = look a0 t ops vs) → vs.length = ops.length → (∀ t, n ≤ t → vs.getD t undef = (origs a0 ops).getD t undef) → (i = qw ∨ AQ.testBit i = true → Inv w) → wpList P ops.toArray (QOneR Q RelI Fact w i o F) [o] F w
def OblB : List Oper → Nat → Prop
  | [], _ => True
  | o :: r, i => OblOneB P ops Q a0 W0 Rel RelI Fact qw AQ Inv n i o ∧ OblB r (i + 1)
end
theorem OblB.get {P : Program} {ops : List Oper} {Q : Exit → Act → World → Prop} {a0 : Act} {W0 : World} {Rel : World → World → Prop} {RelI : Nat → World → World → Prop} {Fact : Nat → Value → World → Prop} {qw AQ : Nat} {Inv : World → Prop} {n : Nat} : ∀ {l : List Oper} {k : Nat}, OblB P ops Q a0 W0 Rel RelI Fact qw AQ Inv n l k → ∀ {i : Nat} {o : Oper}, l[i]? = some o → OblOneB P ops Q a0 W0 Rel RelI Fact qw AQ Inv n (k + i) o
  | [], _, _, i, o, h => by simp at h
  | x :: r, k, H, 0, o, h => by simp at h; subst h; exact H.1
  | x :: r, k, H, i + 1, o, h => by
    have := H.2.get (i := i) (o := o) (by simpa using h)
    rwa [show k + 1 + i = k + (i + 1) by omega] at this
theorem wp_region_facts_b {P : Program} {id : Nat} {ops : List Oper} {Q : Exit → Act → World → Prop} {a0 : Act} {w0 : World} (hm : P.follows .mixedOrders = true) (n : Nat)
    (hac : (acyclicB ops && distinctB ops && tailT ops n && Region.seqB .any ops.toArray (ops.drop n).length n (headTail n (ops.length - n)) && decide (n ≤ ops.length)) = true)
    (Rel : World → World → Prop) (hr0 : Rel w0 w0.drew) (htr : ∀ a b c, Rel a b → Rel b c → Rel a c) (RelI : Nat → World → World → Prop) (hsub : ∀ i a b, RelI i a b → Rel a b) (Fact : Nat → Value → World → Prop) (A : List Nat) (hA : ancOkB ops A = true) (hF : FactsA A RelI Fact) (qw : Nat) (hqw : qw < ops.length) (Inv : World → Prop) (hi0 : Inv w0.drew) (hinv : ∀ i a b, i ≠ qw → RelI i a b → Inv a → Inv b)
    (hstep : OblB P ops Q a0 w0 Rel RelI Fact qw (A.getD qw 0) Inv n (ops.take n) 0)
    (hend : ∀ (vs : List Value) (w : World), vs.length = ops.length → Rel w0 w → (∀ j, j < n → Fact j (vs.getD j undef) w) → wpList P ops.toArray Q (ops.drop n) (fillAll a0 ops vs) w) :
    (Code.region id ops.toArray true).wp P Q a0 w0 := by
  simp only [Bool.and_eq_true, decide_eq_true_eq] at hac
  obtain ⟨⟨⟨⟨hac, hdis⟩, htl⟩, hseq⟩, hn⟩ := hac
  refine wp_region_any hm ?_
  have key : ∀ (fuel : Nat) (listed : Array Bool) (vs : List Value) (w : World), listed.size = ops.length → vs.length = ops.length → unl listed.toList = fuel → (∀ t, n ≤ t → t < ops.length → listed.getD t true = false) →
      Rel w0 w → (∀ j, j < ops.length → listed.getD j true = true → Fact j (vs.getD j undef) w) → (∀ j o, ops[j]? = some o → listed.getD j true = true → ∀ e ∈ o.after, Region.binds .any e = true → listed.getD e.on true = true) → (∀ t, n ≤ t → vs.getD t undef = (origs a0 ops).getD t undef) → (listed.getD qw true = false → Inv w) → wpAny P .any ops.toArray Q fuel listed (fillAll a0 ops vs) w := by
    intro fuel
    induction fuel with
    | zero =>
      intro listed vs w hs hvl hu ht hb hI hcl hT hIV
      have hall : ∀ j, listed.getD j true = true := by
        intro j
        by_cases hj : j < listed.size
        · exact unl_zero hu (listed.getD j true) (by simp [hj])
        · simp [hj]
      have hno : n = ops.length := by
        rcases Nat.lt_or_ge n ops.length with h | h
        · have h1 := ht n (Nat.le_refl _) h; rw [hall n] at h1; cases h1
        · omega
      have hd : ops.drop n = [] := by rw [hno]; simp
      have := hend vs w hvl hb (fun j hj => hI j (by omega) (hall j))
      rw [hd] at this
      refine ⟨?_, this⟩
      unfold Region.ready
      rw [List.filter_eq_nil_iff]
      intro i hi
      simp [hall i]
    | succ fuel ih =>
      intro listed vs w hs hvl hu ht hb hI hcl hT hIV
      by_cases hpre : ∀ j, j < n → listed.getD j true = true
      · -- the head is done: the tail, in its one order
        have hL : listed = headTail n (ops.length - n) := by
          unfold headTail
          apply Array.ext
          · simp; omega
          · intro i h1 h2
            have e : listed[i] = listed.getD i true := by simp [h1]
            rw [e]
            by_cases hi : i < n
            · rw [hpre i hi]; simp [hi]
            · rw [ht i (by omega) (by omega)]; simp [List.getElem_append, hi]
        have hf : fuel + 1 = (ops.drop n).length := by
          rw [← hu, hL]; simp [headTail, unl]
        rw [hf]
        refine wpAny_of_seq (ops.drop n) n listed _ w (fun j => by simp [List.getElem?_drop]) (by rw [hL]; exact hseq) ?_
        exact hend vs w hvl hb (fun j hj => hI j (by omega) (hpre j hj))
      · constructor
        · intro hr
          exfalso
          obtain ⟨i, h1, h2⟩ := first_false listed.toList (by omega)
          have hi : i < listed.size := by
            have := (List.getElem?_eq_some_iff.1 h1).1; simpa using this
          have hio : i < ops.length := by omega
          have hmem : i ∈ Region.ready .any ops.toArray listed := by
            unfold Region.ready
            rw [List.mem_filter]
            refine ⟨by simp; omega, ?_⟩
            have hl : listed.getD i true = false := by simp [Array.getD_eq_getD_getElem?, ← Array.getElem?_toList, h1]
            rw [hl]
            have ho : ops.toArray[i]? = some ops[i] := by simp [hio]
            rw [ho]
            simp only [Option.map_some, Option.getD_some, Bool.not_false, Bool.true_and, Array.all_eq_true_iff_forall_mem]
            intro e he
            unfold acyclicB at hac
            have := List.all_eq_true.1 hac (ops[i], i) (by rw [List.mem_zipIdx_iff_getElem?]; simp [hio])
            have := (Array.all_eq_true_iff_forall_mem.1 this) e he
            simp only [Bool.or_eq_true, Bool.not_eq_true', decide_eq_true_eq] at this ⊢
            rcases this with h | h
            · exact Or.inl h
            · right
              have := h2 e.on h
              simp [Array.getD_eq_getD_getElem?, ← Array.getElem?_toList, this]
          rw [hr] at hmem
          cases hmem
        · intro i hi
          unfold Region.ready at hi
          rw [List.mem_filter] at hi
          obtain ⟨hir, hi⟩ := hi
          have hio : i < ops.length := by simpa using hir
          have hoA : ops.toArray[i]? = some ops[i] := by simp [hio]
          rw [hoA] at hi
          simp only [Option.map_some, Option.getD_some, Bool.and_eq_true, Bool.not_eq_true', Array.all_eq_true_iff_forall_mem] at hi
          obtain ⟨hl, hdep⟩ := hi
          have hdep' : ∀ e ∈ (ops[i]).after, Region.binds .any e = true → e.on < listed.size ∧ listed.getD e.on true = true := by
            intro e he hbd
            have := hdep e he
            rw [hbd] at this
            simp only [Bool.not_true, Bool.false_or] at this
            by_cases hb : e.on < listed.size
            · exact ⟨hb, by simpa [hb] using this⟩
            · simp [hb] at this
          have hin : i < n := by
            rcases Nat.lt_or_ge i n with h | h
            · exact h
            · exfalso
              apply hpre
              intro j hj
              unfold tailT at htl
              have := List.all_eq_true.1 htl (ops[i], i) (by rw [List.mem_zipIdx_iff_getElem?]; simp [hio])
              simp only [Bool.or_eq_true, decide_eq_true_eq] at this
              rcases this with h' | h'
              · omega
              · have := List.all_eq_true.1 h' j (by simp; omega)
                exact anc_listed hcl 8 i j ops[i] (by simp [hio]) (fun e he hbd => (hdep' e he hbd).2) this
          have ho : ops[i]? = some ops[i] := by simp [hio]
          have hot : (ops.take n)[i]? = some ops[i] := by rw [List.getElem?_take, if_pos hin]; exact ho
          have hl' : listed.toList[i]? = some false := by
            have hlt : i < listed.size := by omega
            have : listed.getD i true = listed[i] := by simp [hlt]
            rw [this] at hl
            rw [Array.getElem?_toList, Array.getElem?_eq_getElem hlt, hl]
          have hstep' := hstep.get hot
          rw [Nat.zero_add] at hstep'
          have H := hstep' vs w (fillAll a0 ops vs) hb (fun e he hbd => hI e.on (by have := (hdep' e he hbd).1; omega) (hdep' e he hbd).2) (fun t => eval_fill a0 t ops vs) hvl hT (fun e => hIV (by
            rcases e with e | e
            · rw [← e]; exact hl
            · cases hq2 : listed.getD qw true
              · rfl
              · exfalso
                have h9 := anc_listed2 hA hcl (qw + 1) qw i (by omega) hqw hio hq2 e
                rw [hl] at h9; cases h9))
          have hnext : ∀ (a' : Act) (w' : World), QOneR Q RelI Fact w i ops[i] (fillAll a0 ops vs) .normal a' w' → wpAny P .any ops.toArray Q fuel (listed.setIfInBounds i true) a' w' := by
            rintro a' w' ⟨v, rfl, hb', hv⟩
            rw [fillAll_set a0 ops vs i ops[i] v hdis ho (by omega)]
            refine ih _ (vs.set i v) w' (by simpa using hs) (by simpa using hvl) ?_ ?_ (htr _ _ _ hb (hsub _ _ _ hb')) ?_ ?_ ?_ (fun hq => by
              by_cases e : i = qw
              · subst e
                by_cases hlt : i < listed.size <;> simp [Array.getD_eq_getD_getElem?, hlt] at hq
              · rw [Array.getD_eq_getD_getElem?, Array.getElem?_setIfInBounds, if_neg e, ← Array.getD_eq_getD_getElem?] at hq
                exact hinv i _ _ e hb' (hIV hq))
            · have := unl_set listed.toList i hl'
              rw [Array.toList_setIfInBounds]; omega
            · intro t h1 h2
              rw [Array.getD_eq_getD_getElem?, Array.getElem?_setIfInBounds, if_neg (by omega), ← Array.getD_eq_getD_getElem?]
              exact ht t h1 h2
            · intro j hj hlj
              by_cases e : j = i
              · subst e
                rw [List.getD_eq_getElem?_getD, List.getElem?_set_self (by omega)]
                exact hv
              · rw [List.getD_eq_getElem?_getD, List.getElem?_set_ne (by omega), ← List.getD_eq_getElem?_getD]
                have hlj2 : listed.getD j true = true := by
                  rwa [Array.getD_eq_getD_getElem?, Array.getElem?_setIfInBounds, if_neg (by omega), ← Array.getD_eq_getD_getElem?] at hlj
                refine hF.mono i j _ w _ (fun e2 => e e2.symm) ?_ (hI j hj ?_) hb'
                · cases hq : (A.getD j 0).testBit i with
                  | false => rfl
                  | true => exact absurd (anc_listed2 hA hcl (j + 1) j i (Nat.lt_succ_self j) hj hio hlj2 hq) (by rw [hl]; decide)
                rwa [Array.getD_eq_getD_getElem?, Array.getElem?_setIfInBounds, if_neg (by omega), ← Array.getD_eq_getD_getElem?] at hlj
            · have up : ∀ q, listed.getD q true = true → (listed.setIfInBounds i true).getD q true = true := by
                intro q hq
                by_cases e : q = i
                · subst e
                  by_cases hlt : q < listed.size <;> simp [Array.getD_eq_getD_getElem?, hlt]
                · rwa [Array.getD_eq_getD_getElem?, Array.getElem?_setIfInBounds, if_neg (by omega), ← Array.getD_eq_getD_getElem?]
              intro j o hoj hlj e he hbd
              apply up
              by_cases hji : j = i
              · subst hji
                rw [ho] at hoj
                injection hoj with hoj
                subst hoj
                exact (hdep' e he hbd).2
              · rw [Array.getD_eq_getD_getElem?, Array.getElem?_setIfInBounds, if_neg (by omega), ← Array.getD_eq_getD_getElem?] at hlj
                exact hcl j o hoj hlj e he hbd
            · intro t h1
              rw [List.getD_eq_getElem?_getD, List.getElem?_set_ne (by omega), ← List.getD_eq_getElem?_getD]
              exact hT t h1
          unfold wpOp
          rw [hoA]
          simp only
          unfold wpList at H
          split
          · rename_i hw
            rw [if_pos hw] at H
            have conv : ∀ {K : Act → World → Prop}, (ops[i]).wp P (fillAll a0 ops vs) w K (QOneR Q RelI Fact w i ops[i] (fillAll a0 ops vs)) → (ops[i]).wp P (fillAll a0 ops vs) w K Q := by
              intro K hh
              unfold Oper.wp at *
              generalize (execOp (fillAll a0 ops vs).eval ops[i]).run P w = r at *
              cases r with
              | ok n w' =>
                cases n <;> simp only [Oper.upon] at hh ⊢ <;>
                  first
                    | exact hh
                    | (refine Calls.mono hh (fun e w'' he => ?_)
                       cases e with
                       | returned v => exact he
                       | panicked c => exact he
                       | outgrown =>
                         obtain ⟨a1, w1, hq⟩ := he
                         exact ⟨a1, w1, hq⟩)
              | halt x w' => cases x <;> simp only [Oper.upon] at hh ⊢ <;> exact hh
            rcases H with H | ⟨hasks, a1, w1, hq⟩
            · left
              refine conv (Oper.wp_mono (fun a w h => ?_) H)
              exact hnext _ _ h
            · right
              exact ⟨hasks, a1, w1, hq⟩
          · rename_i hw
            rw [if_neg hw] at H
            exact hnext _ _ H
  have hrep : unl (Array.replicate ops.toArray.size false).toList = ops.toArray.size := by
    simp [unl]
  have := key ops.toArray.size (Array.replicate ops.toArray.size false) (origs a0 ops) w0.drew (by simp) (by simp [origs]) hrep (fun t h1 h2 => by simp [h2]) hr0 (fun j hj h => by simp [hj] at h) (fun j o hoj h => by have := (List.getElem?_eq_some_iff.1 hoj).1; simp [this] at h) (fun t h => rfl) (fun _ => hi0)
  rwa [fillAll_origs] at this
end Go.Mem
end
/- Slots: Take. By program (gen_slots3.py). -/
section
namespace Go.Proofs.Ytpilpkbblkhnaaa
open Go.ChangeShapes Go.WideShapes Go.ChangeAt Go.RowKit Go.Mem Go.Sp Go.Slt
set_option linter.unusedVariables false
attribute [local go_sem] Oper.semAt_some
variable {w w' : World} {D s r : Nat} {vg vu vf vb vh : Value} {G : List Int} {B : List Bool} {U F : List Nat}
theorem heap_from {k : Nat} {o : Obj} {W W' : World} {row : Option Nat} {b : Nat} (hs : W.heap[k]? = some o) (hc : o.isCells = true) (hg : W.grownBy W' row) (hr : ∀ r, row = some r → b ≤ r ∧ ∃ o : Obj, W.heap[r]? = some o ∧ o.isCells = false) : W'.heap[k]? = some o :=
  (hg.block k (lt_of_heap hs) (fun e => by
    obtain ⟨_, o', h1, h2⟩ := hr k e.symm
    rw [hs] at h1; injection h1 with h1; rw [← h1, hc] at h2; cases h2)).trans hs
theorem Sl.grow (h : Sl w D s vg vu vf G B U F) (hg : w.grownBy w' vg.ownBlock) {v : Value} {G2 : List Int} (hv : w'.ownsRow D 3 1 v G2.length (vints .i64 G2)) : Sl (w'.setCell ⟨s, 0, none⟩ v) D s v vu vf G2 B U F := by
  have hb : w'.heap[s]? = some (.cells #[vg, vu, vf] 74 (0, 0)) := heap_gb h.block hg (fun e => Mem.own_ne h.gens h.block (by decide) s e.symm rfl)
  have hu := own_grown h.used hg (fun g hg2 => own_other h.used h.gens (by decide) g hg2)
  have hf := own_grown h.free hg (fun g hg2 => own_other h.free h.gens (by decide) g hg2)
  have hn : ∀ {e size n : Nat} {u : Value} {xs : List Value}, w'.ownsRow D e size u n xs → e ≠ 74 → (w'.setCell ⟨s, 0, none⟩ v).ownsRow D e size u n xs := fun ho he => own_set ho (Mem.own_ne ho hb he) _ _
  refine ⟨?_, hn hv (by decide), hn hu (by decide), hn hf (by decide), h.ds, by simpa using Nat.le_trans h.dw hg.size⟩
  have := heap_set hb 0 v
  simpa using this
def TakePost (G : List Int) (B : List Bool) (D s : Nat) (vg : Value) (n : Nat) (w : World) (e : Ending) (w' : World) : Prop :=
  SlPost (if n = 256 then G else takeG G n) (if n = 256 then B else takeB B n) D s vg (.tuple #[.agg (if n = 256 then #[.int .i64 0, .int .i64 0] else #[.int .i64 (n : Int), .int .i64 (G.getD n 0)]), .int .i64 (if n = 256 then 6 else 0)]) w e w'
/-- Worlds that grew; of block s the second cell alone may differ. -/
structure RelS (s : Nat) (vg vf : Value) (a b : World) : Prop where
  os : b.os = a.os
  tape : b.tape = a.tape
  output : b.output = a.output
  size : a.heap.size ≤ b.heap.size
  block : ∀ k, k < a.heap.size → k ≠ s → b.heap[k]? = a.heap[k]?
  here : ∀ x, a.heap[s]? = some (.cells #[vg, x, vf] 74 (0, 0)) → ∃ y, b.heap[s]? = some (.cells #[vg, y, vf] 74 (0, 0))
theorem RelS.trans {s : Nat} {vg vf : Value} {a b c : World} (h : RelS s vg vf a b) (k : RelS s vg vf b c) : RelS s vg vf a c :=
  ⟨k.os.trans h.os, k.tape.trans h.tape, k.output.trans h.output, Nat.le_trans h.size k.size, fun j hj hs => (k.block j (Nat.lt_of_lt_of_le hj h.size) hs).trans (h.block j hj hs), fun x hx => by
    obtain ⟨y, hy⟩ := h.here x hx
    exact k.here y hy⟩
theorem RelS.of_below {s : Nat} {vg vf : Value} {a b : World} (h : Below a.heap.size a b) : RelS s vg vf a b :=
  ⟨h.os, h.tape, h.output, h.size, fun k hk _ => h.block k hk, fun x hx => ⟨x, heap_below hx h⟩⟩
theorem RelS.grp {s : Nat} {vg vf u : Value} {a b : World} (h : RelS s vg vf a b) : GrP (SlP s u) a b := ⟨h.os, h.tape, h.output, h.size, fun k hk hp => h.block k hk (fun e => hp (.inl e))⟩
def RelSI (s : Nat) (vg vf : Value) (i : Nat) (a b : World) : Prop := (i ≠ 16 → Below a.heap.size a b) ∧ RelS s vg vf a b
theorem RelSI.of {s : Nat} {vg vf : Value} {i : Nat} {a b : World} (h : Below a.heap.size a b) : RelSI s vg vf i a b := ⟨fun _ => h, .of_below h⟩
/-- A set, and the slots' block as it may stand. -/
def SetS (DD s : Nat) (vg vf : Value) (A : List Nat) (v : Value) (ww : World) : Prop := SetV DD A v ww ∧ ∃ x, ww.heap[s]? = some (.cells #[vg, x, vf] 74 (0, 0))
theorem SetS.rel {DD s : Nat} {vg vf v : Value} {A : List Nat} {a b : World} (h : SetS DD s vg vf A v a) (hr : RelS s vg vf a b) : SetS DD s vg vf A v b := by
  obtain ⟨⟨ad, n, c, e, ho⟩, x, hx⟩ := h
  refine ⟨⟨ad, n, c, e, own_keep ho fun g hg => hr.block g (own_lt ho g hg).2 (fun e2 => Mem.own_ne ho hx (by decide) g hg (by rw [e2]))⟩, hr.here x hx⟩
theorem own_hole {w : World} {base e size n g : Nat} {v : Value} {xs : List Value} {o : Obj} (h : w.ownsRow base e size v n xs) (hg : w.heap[g]? = some o) (ho : o.isCells = false) : ∀ k, v.ownBlock = some k → k ≠ g := by
  intro k hk he
  subst he
  rcases h.2 with ⟨h3, _⟩ | ⟨g', cap, cur, h3, _, h4, _⟩
  · rw [h3] at hk; cases hk
  · rw [h3] at hk
    obtain rfl : g' = k := by simpa [Value.ownBlock] using hk
    rw [hg] at h4
    injection h4 with h4
    rw [h4] at ho; cases ho
theorem Sl.but (h : Sl w D s vg vu vf G B U F) {x d : Nat} {cs : Array Value} {o : Obj} (hx : w.heap[x]? = some (.cells cs 30 (0, 0))) (hd : w.heap[d]? = some o) (ho : o.isCells = false) (hw : ∀ k, k ≠ x → k ≠ d → w'.heap[k]? = w.heap[k]?) (hs : w.heap.size ≤ w'.heap.size) : Sl w' D s vg vu vf G B U F := by
  have hr : ∀ {e size n : Nat} {u : Value} {xs : List Value}, w.ownsRow D e size u n xs → e ≠ 30 → w'.ownsRow D e size u n xs := fun h1 he => own_keep h1 fun g hg => hw g (fun e => Mem.own_ne h1 hx he g hg (by rw [e])) (own_hole h1 hd ho g hg)
  refine ⟨(hw s (fun e => ?_) (fun e => ?_)).trans h.block, hr h.gens (by decide), hr h.used (by decide), hr h.free (by decide), h.ds, Nat.le_trans h.dw hs⟩
  · have h1 := h.block; rw [e, hx] at h1; injection h1 with h1; injection h1 with _ h1; exact absurd h1 (by decide)
  · have h1 := h.block; rw [e, hd] at h1; injection h1 with h1; rw [h1] at ho; cases ho
theorem grp_then {P : Nat → Prop} {a b c : World} (h : GrP P a b) (k : Below a.heap.size b c) : GrP P a c :=
  ⟨k.os.trans h.os, k.tape.trans h.tape, k.output.trans h.output, Nat.le_trans h.size k.size, fun j hj hp => (k.block j hj).trans (h.block j hj hp)⟩
theorem list20 {α : Type} {vs : List α} (h : vs.length = 20) : ∃ x0 x1 x2 x3 x4 x5 x6 x7 x8 x9 x10 x11 x12 x13 x14 x15 x16 x17 x18 x19, vs = [x0, x1, x2, x3, x4, x5, x6, x7, x8, x9, x10, x11, x12, x13, x14, x15, x16, x17, x18, x19] := by
  obtain ⟨x0, t0, rfl, h0⟩ := cons_of h
  obtain ⟨x1, t1, rfl, h1⟩ := cons_of h0
  obtain ⟨x2, t2, rfl, h2⟩ := cons_of h1
  obtain ⟨x3, t3, rfl, h3⟩ := cons_of h2
  obtain ⟨x4, t4, rfl, h4⟩ := cons_of h3
  obtain ⟨x5, t5, rfl, h5⟩ := cons_of h4
  obtain ⟨x6, t6, rfl, h6⟩ := cons_of h5
  obtain ⟨x7, t7, rfl, h7⟩ := cons_of h6
  obtain ⟨x8, t8, rfl, h8⟩ := cons_of h7
  obtain ⟨x9, t9, rfl, h9⟩ := cons_of h8
  obtain ⟨x10, t10, rfl, h10⟩ := cons_of h9
  obtain ⟨x11, t11, rfl, h11⟩ := cons_of h10
  obtain ⟨x12, t12, rfl, h12⟩ := cons_of h11
  obtain ⟨x13, t13, rfl, h13⟩ := cons_of h12
  obtain ⟨x14, t14, rfl, h14⟩ := cons_of h13
  obtain ⟨x15, t15, rfl, h15⟩ := cons_of h14
  obtain ⟨x16, t16, rfl, h16⟩ := cons_of h15
  obtain ⟨x17, t17, rfl, h17⟩ := cons_of h16
  obtain ⟨x18, t18, rfl, h18⟩ := cons_of h17
  obtain ⟨x19, t19, rfl, h19⟩ := cons_of h18
  exact ⟨x0, x1, x2, x3, x4, x5, x6, x7, x8, x9, x10, x11, x12, x13, x14, x15, x16, x17, x18, x19, by rw [List.eq_nil_of_length_eq_zero h19]⟩
def F_st9 (BN DD s n nu cu nf cf : Nat) (au af : Option Addr) (U FF : List Nat) (vg3 : Value) (jq : Nat) (v : Value) (w : World) : Prop :=
  match jq with
  | 0 => v = .pointer (some ⟨s, 0, none⟩)
  | 1 => v = .pointer (some ⟨s, 0, none⟩)
  | 2 => v = .pointer (some ⟨s, 0, none⟩)
  | 3 => v = .pointer (some ⟨s, 0, none⟩)
  | 4 => v = .pointer (some ⟨s, 1, none⟩)
  | 5 => v = .slice au nu cu
  | 6 => v = .int .i64 (n : Int)
  | 7 => SetS DD s vg3 (.slice af nf cf) (withN U (n : Int)) v w
  | 8 => v = .pointer (some ⟨s, 0, none⟩)
  | 9 => v = .pointer (some ⟨s, 0, none⟩)
  | 10 => v = .pointer (some ⟨s, 2, none⟩)
  | 11 => v = .slice af nf cf
  | 12 => v = .int .i64 (n : Int)
  | 13 => SetS DD s vg3 (.slice af nf cf) (joinN minus FF (oneN (n : Int))) v w
  | 14 => v = .pointer (some ⟨s, 0, none⟩)
  | 15 => v = .pointer (some ⟨s, 1, none⟩)
  | 16 => ∃ u, SetV DD (withN U (n : Int)) u w ∧ w.heap[s]? = some (.cells #[vg3, u, .slice af nf cf] 74 (0, 0))
  | 17 => v = .pointer (some ⟨s, 0, none⟩)
  | 18 => v = .pointer (some ⟨s, 2, none⟩)
  | _ => True
theorem F_st9_mono (BN DD s n nu cu nf cf : Nat) (au af : Option Addr) (U FF : List Nat) (vg3 : Value) : FactsA [0, 0, 0, 0, 0, 0, 0, 0, 0, 0, 0, 0, 0, 6272, 0, 0, 14589, 0, 0, 0] (RelSI s vg3 (.slice af nf cf)) (F_st9 BN DD s n nu cu nf cf au af U FF vg3) := ⟨by
  intro iq jq v w w' hij _ h hr
  unfold F_st9 at h ⊢
  split at h
  all_goals first
    | exact h
    | exact h.rel hr.2
    | (obtain ⟨u, h1, h2⟩ := h; exact ⟨u, h1.below (hr.1 hij), heap_below h2 (hr.1 hij)⟩)
    | trivial⟩


set_option maxRecDepth 100000 in
set_option maxHeartbeats 16000000 in
theorem sl_Take {E0 : List Nat} (h : Sl w D s vg vu vf G B U E0) (si : SI G B U E0) (n : Nat) (hn : Least G B n) :
    Calls Try.prog 8 #[.pointer (some ⟨s, 0, none⟩)] w
      (TakePost G B D s vg n w) := by
  obtain ⟨au, cu, rfl⟩ := own_slice h.used
  obtain ⟨af, cf, rfl⟩ := own_slice h.free
  obtain ⟨ag, cg, rfl⟩ := own_slice h.gens
  have hb0 : Below w.heap.size w (w.alloc (.cells #[.int .i64 0, .int .i64 0] 30)) := (Below.refl _ _).alloc (Nat.le_refl _) _
  obtain ⟨m, hm⟩ : ∃ m, m = G.length := ⟨_, rfl⟩
  obtain ⟨nf, hnf⟩ : ∃ nf, nf = E0.length := ⟨_, rfl⟩
  obtain ⟨nu, hnu⟩ : ∃ nu, nu = U.length := ⟨_, rfl⟩
  have hb1 : Below w.heap.size w ((w.alloc (.cells #[.int .i64 0, .int .i64 0] 30)).alloc (.cells #[.int .i64 0] 3)) := hb0.alloc (by simp) _
  have hbS : Below w.heap.size w ((w.alloc (.cells #[.int .i64 0, .int .i64 0] 30)).alloc (.cells #[.int .i64 (m : Int)] 3)) := hb0.alloc (by simp) _
  have hbe : ((w.alloc (.cells #[.int .i64 0, .int .i64 0] 30)).alloc (.cells #[.int .i64 (m : Int)] 3)).heap[w.heap.size]? = some (.cells #[.int .i64 0, .int .i64 0] 30 (0, 0)) := row_first w _ _
  have hbn : Boxed ((w.alloc (.cells #[.int .i64 0, .int .i64 0] 30)).alloc (.cells #[.int .i64 (m : Int)] 3)) (w.heap.size + 1) 3 (.int .i64 (m : Int)) := row_second w _ _
  have h0 := h.below hb0
  have c0 := h0.c0
  have hS := h.below hbS
  have d2 := hS.c2
  have hcf := si.cf
  have CA := sets_All E0 af E0.length cf rfl (by have := hcf.1; omega) hcf.2.1 _ hS.sf
  have hsS : ((w.alloc (.cells #[.int .i64 0, .int .i64 0] 30)).alloc (.cells #[.int .i64 (m : Int)] 3)).heap.size = w.heap.size + 1 + 1 := by simp
  rw [← hnf] at d2 CA
  rw [← hm] at c0
  have HE := join_nil_els hcf.2.1
  have HC := joinN_canon bw_fst hcf.2.1 canon_nil.2.1
  obtain ⟨J, hJ⟩ : ∃ J, J = joinN (fun x _ => x) E0 [] := ⟨_, rfl⟩
  rw [← hJ] at HE HC CA
  have hfl := free_least si hn
  rw [← HE] at hfl
  have HFL := Lib.hid hfl
  have HCC := Lib.hid HC
  have HCA := Lib.hid CA
  have HSI := Lib.hid si
  have HLE := Lib.hid hn
  have HM := Lib.hid hm
  have HNF := Lib.hid hnf
  have HNU := Lib.hid hnu
  have H0 := Lib.hid h
  have HBS := Lib.hid hbS
  have HBE := Lib.hid hbe
  have HBN := Lib.hid hbn
  have HSS := Lib.hid hsS
  have hm256 : m ≤ 256 := by rw [hm]; exact si.small
  clear hb0 hb1 h0 hS hJ hcf CA hm hnf hnu hfl HC HE h si hn hbe hbn hbS hsS
  refine (callsIn_wide (n := 3)).1 (callsIn_of_wp_marks Try.func8 rfl trivial ?_ rfl)
  refine wpIn_wide.2 ?_
  simp only [Try.ntmps8, List.size_toArray, List.length_cons, List.length_nil, Nat.reduceAdd, Nat.reduceSub, Array.replicate_succ, Array.replicate_zero, List.push_toArray, List.append_toArray, List.nil_append, List.cons_append]
  go_wp2_with fail
  refine HCA.out.mono ?_
  rintro e w1 ⟨rfl, ⟨rr, k, cr, g2, g3, g4, g5⟩, g6, g7⟩
  rw [HSS.out] at g3 g5 g6
  have hbw := HBS.out.trans (g7.mono (by rw [HSS.out]; omega))
  have HB2 := Lib.hid hbw
  have HBE2 := Lib.hid (heap_below HBE.out g7)
  have HBN2 := Lib.hid (show Boxed w1 (w.heap.size + 1) 3 (.int .i64 (m : Int)) from heap_below HBN.out g7)
  rw [HSS.out]
  clear g7 hbw c0 d2 HBE HBN HBS HCA
  go_wp2_with fail
  rename_i K hK
  have REST : ∀ (D1 : Nat) (x5 x16 : Value) (W' : World), w1.heap.size ≤ D1 → W'.heap[D1]? = some (.deferred (some [])) → Below (w.heap.size + 1) w1 W' → W'.heap[w.heap.size + 1]? = some (.cells #[.int .i64 (n : Int)] 3 (0, 0)) →
      K { tmps := #[.pointer (some ⟨s, 0, none⟩), undef, .pointer (some ⟨w.heap.size, 0, none⟩), .int .i64 0, .pointer (some ⟨w.heap.size + 1, 0, none⟩), x5, .pointer (some ⟨s, 0, none⟩), .pointer (some ⟨s, 0, none⟩), .pointer (some ⟨s, 0, none⟩), .slice ag m cg, .int .i64 (m : Int), .pointer (some ⟨s, 0, none⟩), .pointer (some ⟨s, 0, none⟩), .pointer (some ⟨s, 2, none⟩), .slice af nf cf, .func (.func 50) #[] #[.pointer (some ⟨w.heap.size + 1 + 1, 0, none⟩)], x16, undef, undef, undef, undef, undef, undef, undef, undef, undef, undef, undef, undef, undef, undef, undef, undef, undef, undef, undef, undef, undef, undef, undef, undef, undef, undef, undef, undef, undef, undef, undef, undef, undef, undef, undef, undef, undef, undef, undef, undef, undef, undef, undef, undef, undef, undef, undef], defers := [{ target := .collected D1, args := #[] }] } W' := by
    intro D1 x5 x16 W' hD1 hdf hbW hbox
    refine hK _ _ ?_
    have hbw := HB2.out.trans (hbW.mono (Nat.le_succ _))
    have hsl := H0.out.below hbw
    have hbe := (hbW.block w.heap.size (by omega)).trans HBE2.out
    have hbv : Boxed W' (w.heap.size + 1) 3 (.int .i64 (n : Int)) := hbox
    have x0 := hbv.cell
    have x1 := hbv.frozen
    have y0 := cell_of_row _ _ 0 _ _ _ hbe
    have y1 := cell_of_row _ _ 1 _ _ _ hbe
    simp only [List.getElem?_toArray, List.getElem?_cons_zero, List.getElem?_cons_succ] at y0 y1
    have y2 := Mem.frozen_of_row hbe 0
    have y3 := Mem.frozen_of_row hbe 1
    have c0 := hsl.c0
    rw [← HM.out] at c0
    have HSL := Lib.hid hsl
    have HBW := Lib.hid hbw
    have HBE := Lib.hid hbe
    have HBV := Lib.hid hbv
    have HDF := Lib.hid hdf
    have hDw : w.heap.size ≤ D1 := by have := HB2.out.size; omega
    clear hsl hbw hbe hbv hbox hdf hbW hK
    by_cases h256 : n = 256
    · have t0 : ((n : Int) == 256) = true := by rw [beq_iff_eq]; omega
      have H256 := Lib.hid h256
      clear h256
      go_wp2_with fail
      have hdf2 : ((W'.setCell ⟨w.heap.size, 0, none⟩ (.int .i64 0)).setCell ⟨w.heap.size, 1, none⟩ (.int .i64 0)).heap[D1]? = some (.deferred (some [])) := by
        rw [Below.heap_setCell _ ⟨w.heap.size, 1, none⟩ _ D1 (by show D1 ≠ w.heap.size; omega), Below.heap_setCell _ ⟨w.heap.size, 0, none⟩ _ D1 (by show D1 ≠ w.heap.size; omega)]
        exact HDF.out
      have hb2 : Below w.heap.size w ((W'.setCell ⟨w.heap.size, 0, none⟩ (.int .i64 0)).setCell ⟨w.heap.size, 1, none⟩ (.int .i64 0)) := (HBW.out.setCell (p := ⟨w.heap.size, 0, none⟩) (Nat.le_refl _) _).setCell (p := ⟨w.heap.size, 1, none⟩) (Nat.le_refl _) _
      have hbe2 := heap_set2 HBE.out (.int .i64 0) (.int .i64 0)
      refine ⟨by simp, .inl ⟨_, _, rfl, run_takeDeferred hdf2, ?_⟩⟩
      have hfin := hb2.trans (belowK_b (w := w) (Nat.le_refl _) _ D1 _ (.deferred none) hDw hdf2 rfl rfl)
      have hbe3 : (((W'.setCell ⟨w.heap.size, 0, none⟩ (.int .i64 0)).setCell ⟨w.heap.size, 1, none⟩ (.int .i64 0)).putObj D1 (.deferred none)).heap[w.heap.size]? = some (.cells #[.int .i64 0, .int .i64 0] 30 (0, 0)) := (World.putObj_heap_other (by have := hD1; omega)).trans hbe2
      refine ⟨_, results_ct rfl _ _ w.heap.size 30 _ (0, 0) _ rfl hbe3 Try.underlying30 rfl (by kernel_rfl), ?_⟩
      unfold TakePost
      simp only [if_pos H256.out]
      exact ⟨rfl, _, _, _, _, _, H0.out.below hfin, HSI.out, .of_below hfin, fun k hk => .inl hk⟩
    · have t0 : ((n : Int) == 256) = false := by rw [beq_eq_false_iff_ne]; omega
      have H256 := Lib.hid h256
      clear h256
      go_wp2_with fail
      go_quiet (fail)
      have HDF1 := Lib.hid (show (W'.drewN nq).heap[D1]? = some (.deferred (some [])) from HDF.out)
      have HSL1 := Lib.hid (HSL.out.below (below_drewN (Below.refl _ _) nq))
      have HBW1 := Lib.hid (below_drewN HBW.out nq)
      have HBE1 := Lib.hid (show (W'.drewN nq).heap[w.heap.size]? = some (.cells #[.int .i64 0, .int .i64 0] 30 (0, 0)) from HBE.out)
      have HBV1 := Lib.hid (show Boxed (W'.drewN nq) (w.heap.size + 1) 3 (.int .i64 (n : Int)) from HBV.out)
      obtain ⟨W2, hW2⟩ : ∃ W2, W2 = W'.drewN nq := ⟨_, rfl⟩
      rw [← hW2] at HDF1 HSL1 HBW1 HBE1 HBV1 ⊢
      clear hW2 x0 x1 y0 y1 y2 y3 c0 HDF HSL HBW HBE HBV
      rename_i K1 hK1 K2 hK2
      have REST2 : ∀ (b27 : Bool) (y28 y29 y30 y31 y32 y33 y34 y35 y36 : Value) (vg3 : Value) (W3 : World), Sl W3 D s vg3 (.slice au nu cu) (.slice af nf cf) (takeG G n) B U E0 → GrP (SlP s (.slice ag m cg)) w W3 →
          (∀ k, vg3.ownBlock = some k → (Value.slice ag m cg).ownBlock = some k ∨ w.heap.size ≤ k) → W3.heap[D1]? = some (.deferred (some [])) → W3.heap[w.heap.size]? = some (.cells #[.int .i64 0, .int .i64 0] 30 (0, 0)) → Boxed W3 (w.heap.size + 1) 3 (.int .i64 (n : Int)) →
          K1 { tmps := #[.pointer (some ⟨s, 0, none⟩), undef, .pointer (some ⟨w.heap.size, 0, none⟩), .int .i64 0, .pointer (some ⟨w.heap.size + 1, 0, none⟩), x5, .pointer (some ⟨s, 0, none⟩), .pointer (some ⟨s, 0, none⟩), .pointer (some ⟨s, 0, none⟩), .slice ag m cg, .int .i64 (m : Int), .pointer (some ⟨s, 0, none⟩), .pointer (some ⟨s, 0, none⟩), .pointer (some ⟨s, 2, none⟩), .slice af nf cf, .func (.func 50) #[] #[.pointer (some ⟨w.heap.size + 1 + 1, 0, none⟩)], x16, undef, .int .i64 (n : Int), .bool false, undef, .int .i64 (n : Int), .pointer (some ⟨s, 0, none⟩), .pointer (some ⟨s, 0, none⟩), .pointer (some ⟨s, 0, none⟩), .slice ag m cg, .int .i64 (m : Int), .bool b27, y28, y29, y30, y31, y32, y33, y34, y35, y36, undef, undef, undef, undef, undef, undef, undef, undef, undef, undef, undef, undef, undef, undef, undef, undef, undef, undef, undef, undef, undef, undef, undef, undef, undef, undef, undef], defers := [{ target := .collected D1, args := #[] }] } W3 := by
        intro b27 y28 y29 y30 y31 y32 y33 y34 y35 y36 vg3 W3 hsl3 hg3 ho3 hdf3 hbe3 hbv3
        refine hK1 _ _ ?_
        have H3 := Lib.hid hsl3
        have S1 := Lib.hid hsl3.c1
        have S2 := Lib.hid hsl3.c2
        have X0 := Lib.hid hbv3.cell
        have CW := Lib.hid (fun w' (hb : Below W3.heap.size W3 w') => (sets_With U au nu cu HNU.out.symm (by have := HSI.out.cu.1; have := HNU.out; omega) HSI.out.cu.2.1 (n : Int) w' ((hsl3.below hb).su)).mono fun _ _ h => SetV.of_res (DD := D) h (hsl3.below hb).dw)
        have CO := Lib.hid (fun w' (hb : Below W3.heap.size W3 w') => (sets_Without E0 af nf cf HNF.out.symm (by have := HSI.out.cf.1; have := HNF.out; omega) HSI.out.cf.2.1 (n : Int) w' ((hsl3.below hb).sf)).mono fun _ _ h => SetV.of_res (DD := D) h (hsl3.below hb).dw)
        have HG3 := Lib.hid hg3
        have HO3 := Lib.hid ho3
        have HDF3 := Lib.hid hdf3
        have HBE3 := Lib.hid hbe3
        have HBV3 := Lib.hid hbv3
        clear hsl3 hg3 ho3 hdf3 hbe3 hbv3
        go_wp2_with fail
        refine wp_region_facts_b rfl 19 (by kernel_rfl) (RelS s vg3 (.slice af nf cf)) (.of_below (Below.refl _ _).drew) (fun _ _ _ h k => h.trans k) (RelSI s vg3 (.slice af nf cf)) (fun _ _ _ h => h.2) (F_st9 (w.heap.size + 1) D s n nu cu nf cf au af U E0 vg3) [0, 0, 0, 0, 0, 0, 0, 0, 0, 0, 0, 0, 0, 6272, 0, 0, 14589, 0, 0, 0] (by kernel_rfl) (F_st9_mono (w.heap.size + 1) D s n nu cu nf cf au af U E0 vg3) 16 (by decide) (fun w => Below W3.heap.size W3 w) (Below.refl _ _).drew (fun i a b hi h ho => ho.trans ((h.1 hi).mono ho.size)) ?_ ?_
        · refine ⟨?_, ?_, ?_, ?_, ?_, ?_, ?_, ?_, ?_, ?_, ?_, ?_, ?_, ?_, ?_, ?_, ?_, ?_, ?_, trivial⟩
          · intro vs w' F hb hd hF hl hT hq
            have e := (hF 0).trans (look_out _ 0 _ _ (by kernel_rfl))
            exact one_move _ rfl (by first | exact Or.inl rfl | exact Or.inr rfl) ⟨_, rfl, RelSI.of (Below.refl _ _), e⟩
          · intro vs w' F hb hd hF hl hT hq
            have e := (hF 0).trans (look_out _ 0 _ _ (by kernel_rfl))
            exact one_move _ rfl (by first | exact Or.inl rfl | exact Or.inr rfl) ⟨_, rfl, RelSI.of (Below.refl _ _), e⟩
          · intro vs w' F hb hd hF hl hT hq
            have e := (hF 0).trans (look_out _ 0 _ _ (by kernel_rfl))
            exact one_move _ rfl (by first | exact Or.inl rfl | exact Or.inr rfl) ⟨_, rfl, RelSI.of (Below.refl _ _), e⟩
          · intro vs w' F hb hd hF hl hT hq
            have e := ((hF 39).trans (look_at _ 39 2 _ _ (by kernel_rfl) (by kernel_rfl) hl)).trans (dep_of (Fact := F_st9 (w.heap.size + 1) D s n nu cu nf cf au af U E0 vg3) hd 2 (by kernel_rfl))
            exact one_nilCheck _ rfl rfl _ e ⟨_, rfl, RelSI.of (Below.refl _ _), rfl⟩
          · intro vs w' F hb hd hF hl hT hq
            have e := ((hF 40).trans (look_at _ 40 3 _ _ (by kernel_rfl) (by kernel_rfl) hl)).trans (dep_of (Fact := F_st9 (w.heap.size + 1) D s n nu cu nf cf au af U E0 vg3) hd 3 (by kernel_rfl))
            exact one_field _ _ _ rfl rfl _ _ e (1) (fun w => by kernel_rfl) ⟨_, rfl, RelSI.of (Below.refl _ _), rfl⟩
          · intro vs w' F hb hd hF hl hT hq
            replace hb := hq (by first | exact .inl rfl | exact .inr (by decide))
            have e := ((hF 41).trans (look_at _ 41 4 _ _ (by kernel_rfl) (by kernel_rfl) hl)).trans (dep_of (Fact := F_st9 (w.heap.size + 1) D s n nu cu nf cf au af U E0 vg3) hd 4 (by kernel_rfl))
            exact one_load _ _ rfl rfl _ _ e (cell_abides S1.out hb) (by kernel_rfl) ⟨_, rfl, RelSI.of (Below.refl _ _), rfl⟩
          · intro vs w' F hb hd hF hl hT hq
            replace hb := hq (by first | exact .inl rfl | exact .inr (by decide))
            have e := (hF 4).trans (look_out _ 4 _ _ (by kernel_rfl))
            exact one_load _ _ rfl rfl _ _ e (cell_abides X0.out hb) (by kernel_rfl) ⟨_, rfl, RelSI.of (Below.refl _ _), rfl⟩
          · intro vs w' F hb hd hF hl hT hq
            replace hb := hq (by first | exact .inl rfl | exact .inr (by decide))
            have e1 := (((hF 42).trans (look_at _ 42 5 _ _ (by kernel_rfl) (by kernel_rfl) hl)).trans (dep_of (Fact := F_st9 (w.heap.size + 1) D s n nu cu nf cf au af U E0 vg3) hd 5 (by kernel_rfl)))
            have e2 := (((hF 43).trans (look_at _ 43 6 _ _ (by kernel_rfl) (by kernel_rfl) hl)).trans (dep_of (Fact := F_st9 (w.heap.size + 1) D s n nu cu nf cf au af U E0 vg3) hd 6 (by kernel_rfl)))
            refine one_call _ _ rfl rfl (enters_of Try.func24 (by kernel_rfl) rfl) #[.slice au nu cu, .int .i64 (n : Int)] (eval2 e1 e2) ?_
            refine (CW.out w' hb).mono ?_
            rintro e3 w3 ⟨v3, rfl, h3, hb3⟩
            exact ⟨_, rfl, _, rfl, RelSI.of hb3, h3, _, heap_below (heap_below H3.out.block hb) hb3⟩
          · intro vs w' F hb hd hF hl hT hq
            have e := (hF 0).trans (look_out _ 0 _ _ (by kernel_rfl))
            exact one_move _ rfl (by first | exact Or.inl rfl | exact Or.inr rfl) ⟨_, rfl, RelSI.of (Below.refl _ _), e⟩
          · intro vs w' F hb hd hF hl hT hq
            have e := ((hF 45).trans (look_at _ 45 8 _ _ (by kernel_rfl) (by kernel_rfl) hl)).trans (dep_of (Fact := F_st9 (w.heap.size + 1) D s n nu cu nf cf au af U E0 vg3) hd 8 (by kernel_rfl))
            exact one_nilCheck _ rfl rfl _ e ⟨_, rfl, RelSI.of (Below.refl _ _), rfl⟩
          · intro vs w' F hb hd hF hl hT hq
            have e := ((hF 46).trans (look_at _ 46 9 _ _ (by kernel_rfl) (by kernel_rfl) hl)).trans (dep_of (Fact := F_st9 (w.heap.size + 1) D s n nu cu nf cf au af U E0 vg3) hd 9 (by kernel_rfl))
            exact one_field _ _ _ rfl rfl _ _ e (2) (fun w => by kernel_rfl) ⟨_, rfl, RelSI.of (Below.refl _ _), rfl⟩
          · intro vs w' F hb hd hF hl hT hq
            replace hb := hq (by first | exact .inl rfl | exact .inr (by decide))
            have e := ((hF 47).trans (look_at _ 47 10 _ _ (by kernel_rfl) (by kernel_rfl) hl)).trans (dep_of (Fact := F_st9 (w.heap.size + 1) D s n nu cu nf cf au af U E0 vg3) hd 10 (by kernel_rfl))
            exact one_load _ _ rfl rfl _ _ e (cell_abides S2.out hb) (by kernel_rfl) ⟨_, rfl, RelSI.of (Below.refl _ _), rfl⟩
          · intro vs w' F hb hd hF hl hT hq
            replace hb := hq (by first | exact .inl rfl | exact .inr (by decide))
            have e := (hF 4).trans (look_out _ 4 _ _ (by kernel_rfl))
            exact one_load _ _ rfl rfl _ _ e (cell_abides X0.out hb) (by kernel_rfl) ⟨_, rfl, RelSI.of (Below.refl _ _), rfl⟩
          · intro vs w' F hb hd hF hl hT hq
            replace hb := hq (by first | exact .inl rfl | exact .inr (by decide))
            have e1 := (((hF 48).trans (look_at _ 48 11 _ _ (by kernel_rfl) (by kernel_rfl) hl)).trans (dep_of (Fact := F_st9 (w.heap.size + 1) D s n nu cu nf cf au af U E0 vg3) hd 11 (by kernel_rfl)))
            have e2 := (((hF 49).trans (look_at _ 49 12 _ _ (by kernel_rfl) (by kernel_rfl) hl)).trans (dep_of (Fact := F_st9 (w.heap.size + 1) D s n nu cu nf cf au af U E0 vg3) hd 12 (by kernel_rfl)))
            refine one_call _ _ rfl rfl (enters_of Try.func27 (by kernel_rfl) rfl) #[.slice af nf cf, .int .i64 (n : Int)] (eval2 e1 e2) ?_
            refine (CO.out w' hb).mono ?_
            rintro e3 w3 ⟨v3, rfl, h3, hb3⟩
            exact ⟨_, rfl, _, rfl, RelSI.of hb3, h3, _, heap_below (heap_below H3.out.block hb) hb3⟩
          · intro vs w' F hb hd hF hl hT hq
            have e := ((hF 37).trans (look_at _ 37 0 _ _ (by kernel_rfl) (by kernel_rfl) hl)).trans (dep_of (Fact := F_st9 (w.heap.size + 1) D s n nu cu nf cf au af U E0 vg3) hd 0 (by kernel_rfl))
            exact one_nilCheck _ rfl rfl _ e ⟨_, rfl, RelSI.of (Below.refl _ _), rfl⟩
          · intro vs w' F hb hd hF hl hT hq
            have e := ((hF 51).trans (look_at _ 51 14 _ _ (by kernel_rfl) (by kernel_rfl) hl)).trans (dep_of (Fact := F_st9 (w.heap.size + 1) D s n nu cu nf cf au af U E0 vg3) hd 14 (by kernel_rfl))
            exact one_field _ _ _ rfl rfl _ _ e (1) (fun w => by kernel_rfl) ⟨_, rfl, RelSI.of (Below.refl _ _), rfl⟩
          · intro vs w' F hb hd hF hl hT hq
            replace hb := hq (by first | exact .inl rfl | exact .inr (by decide))
            obtain ⟨⟨a7, n7, c7, e7, ho7⟩, x7, hx7⟩ := (dep_of (Fact := F_st9 (w.heap.size + 1) D s n nu cu nf cf au af U E0 vg3) hd 7 (by kernel_rfl))
            rw [e7] at ho7
            have g7 := ((hF 44).trans (look_at _ 44 7 _ _ (by kernel_rfl) (by kernel_rfl) hl)).trans e7
            have g15 := (((hF 52).trans (look_at _ 52 15 _ _ (by kernel_rfl) (by kernel_rfl) hl)).trans (dep_of (Fact := F_st9 (w.heap.size + 1) D s n nu cu nf cf au af U E0 vg3) hd 15 (by kernel_rfl)))
            have h8 := H3.out.below hb
            have h9 := h8.setUsed ho7
            refine rg_store_sl rfl _ _ _ rfl s 1 a7 n7 c7 _ g15 g7 h8.c1 (h8.fz 1) (by kernel_rfl) ⟨_, rfl, ⟨fun h => absurd rfl h, ?_⟩, _, ⟨a7, n7, c7, rfl, h9.used⟩, h9.block⟩
            exact ⟨rfl, rfl, rfl, by simp, fun k _ hk => Below.heap_setCell _ ⟨s, 1, none⟩ _ k hk, fun x hx => ⟨_, h9.block⟩⟩
          · intro vs w' F hb hd hF hl hT hq
            have e := ((hF 38).trans (look_at _ 38 1 _ _ (by kernel_rfl) (by kernel_rfl) hl)).trans (dep_of (Fact := F_st9 (w.heap.size + 1) D s n nu cu nf cf au af U E0 vg3) hd 1 (by kernel_rfl))
            exact one_nilCheck _ rfl rfl _ e ⟨_, rfl, RelSI.of (Below.refl _ _), rfl⟩
          · intro vs w' F hb hd hF hl hT hq
            have e := ((hF 53).trans (look_at _ 53 17 _ _ (by kernel_rfl) (by kernel_rfl) hl)).trans (dep_of (Fact := F_st9 (w.heap.size + 1) D s n nu cu nf cf au af U E0 vg3) hd 17 (by kernel_rfl))
            exact one_field _ _ _ rfl rfl _ _ e (2) (fun w => by kernel_rfl) ⟨_, rfl, RelSI.of (Below.refl _ _), rfl⟩
        · intro vs8 W8 hl hb hI
          obtain ⟨⟨a9, n9, c9, hv13, ho13⟩, -⟩ := hI 13 (by omega)
          rw [hv13] at ho13
          obtain ⟨u, ⟨a8, n8, c8, rfl, ho8⟩, hbs⟩ := hI 16 (by omega)
          have hv18 : vs8.getD 18 undef = .pointer (some ⟨s, 2, none⟩) := hI 18 (by omega)
          obtain ⟨z0, z1, z2, z3, z4, z5, z6, z7, z8, z9, z10, z11, z12, z13, z14, z15, z16, z17, z18, z19, hvs⟩ := list20 hl
          subst hvs
          replace hv13 : z13 = .slice a9 n9 c9 := hv13
          replace hv18 : z18 = .pointer (some ⟨s, 2, none⟩) := hv18
          subst hv13 hv18
          have hgr := hb.grp (u := vg3)
          have h8 : Sl W8 D s vg3 (.slice a8 n8 c8) (.slice af nf cf) (takeG G n) B (withN U (n : Int)) E0 :=
            ⟨hbs, own_keep H3.out.gens (fun g hg => hb.block g (own_lt H3.out.gens g hg).2 (fun e => own_ne H3.out.gens H3.out.block (by decide) g hg (by rw [e]))), ho8,
              own_keep H3.out.free (fun g hg => hb.block g (own_lt H3.out.free g hg).2 (fun e => own_ne H3.out.free H3.out.block (by decide) g hg (by rw [e]))), H3.out.ds, Nat.le_trans H3.out.dw hb.size⟩
          have hsw := lt_of_heap H0.out.block
          have hoth : ∀ k, w.heap.size ≤ k → k < W3.heap.size → (W8.setCell ⟨s, 2, none⟩ (.slice a9 n9 c9)).heap[k]? = W3.heap[k]? := fun k k1 k2 => by
            rw [Below.heap_setCell W8 ⟨s, 2, none⟩ _ k (by show k ≠ s; omega)]
            exact hb.block k k2 (by omega)
          have H9 := Lib.hid (h8.setFree ho13)
          have HG9 := Lib.hid ((HG3.out.step (GrP.of_below (P := SlP s (.slice ag m cg)) (Below.refl _ _)) (fun _ _ q => q)).step (Q := SlP s (.slice ag m cg)) ((⟨hb.os, hb.tape, hb.output, hb.size, fun k hk hp => hb.block k hk (fun e => hp (.inl e))⟩ : GrP (SlP s (.slice ag m cg)) W3 W8).set (k := s) (.inl rfl) 2 (.slice a9 n9 c9)) (fun _ _ q => q))
          have HDF9 := Lib.hid ((hoth D1 hDw (lt_of_heap HDF3.out)).trans HDF3.out)
          have HBE9 := Lib.hid ((hoth _ (Nat.le_refl _) (lt_of_heap HBE3.out)).trans HBE3.out)
          have HBV9 := Lib.hid (show Boxed _ (w.heap.size + 1) 3 (.int .i64 (n : Int)) from (hoth _ (by omega) (lt_of_heap HBV3.out)).trans HBV3.out)
          have c2 := h8.c2
          have f2 := h8.fz 2
          clear hI hl hgr h8 hoth hb ho13 ho8 hbs S1 S2 X0 CW CO
          simp only [fillAll, Act.put, List.setIfInBounds_toArray, List.set_cons_succ, List.set_cons_zero, List.drop_succ_cons, List.drop_zero]
          go_wp2_with fail
          obtain ⟨W9, hW9⟩ : ∃ W9, W9 = W8.setCell ⟨s, 2, none⟩ (.slice a9 n9 c9) := ⟨_, rfl⟩
          rw [← hW9] at H9 HG9 HDF9 HBE9 HBV9 ⊢
          clear hW9 c2 f2
          have hnle := HLE.out.le
          have htl : n < (takeG G n).length := by rw [takeG_len]; split <;> omega
          obtain ⟨a3, c3, hv3⟩ := own_slice H9.out.gens
          have hg9 := H9.out.gens
          rw [hv3] at hg9
          obtain ⟨gg, hgg, -, -, -, -, cgn, -⟩ := vints_cell hg9 n htl
          have d0 := H9.out.c0
          rw [hv3, hgg] at d0
          rw [takeG_get] at cgn
          obtain ⟨q, hq⟩ : ∃ q, q = G.getD n 0 := ⟨_, rfl⟩
          obtain ⟨tl, htl2⟩ : ∃ tl, tl = (takeG G n).length := ⟨_, rfl⟩
          rw [← hq] at cgn
          rw [← htl2] at d0 htl
          have HQ := Lib.hid hq
          have x0 := HBV9.out.cell
          have y0 := cell_of_row _ _ 0 _ _ _ HBE9.out
          have y1 := cell_of_row _ _ 1 _ _ _ HBE9.out
          simp only [List.getElem?_toArray, List.getElem?_cons_zero, List.getElem?_cons_succ] at y0 y1
          have y2 := Mem.frozen_of_row HBE9.out 0
          have y3 := Mem.frozen_of_row HBE9.out 1
          have i1 : (0 : Int) ≤ (n : Int) := by omega
          have i2 : (n : Int) < (tl : Int) := by omega
          clear hg9 hq htl2 hv3 hgg
          go_region
          go_wp2_with fail
          have hdf10 : (((W9.setCell ⟨w.heap.size, 0, none⟩ (.int .i64 (n : Int))).setCell ⟨w.heap.size, 1, none⟩ (.int .i64 q)).drew).heap[D1]? = some (.deferred (some [])) := by
            show ((W9.setCell ⟨w.heap.size, 0, none⟩ (.int .i64 (n : Int))).setCell ⟨w.heap.size, 1, none⟩ (.int .i64 q)).heap[D1]? = _
            by_cases e : D1 = w.heap.size
            · have h1 := HDF9.out; rw [e, HBE9.out] at h1; cases h1
            · rw [Below.heap_setCell _ ⟨w.heap.size, 1, none⟩ _ D1 e, Below.heap_setCell _ ⟨w.heap.size, 0, none⟩ _ D1 e]
              exact HDF9.out
          have hdne : D1 ≠ w.heap.size := fun e => by have h1 := HDF9.out; rw [e, HBE9.out] at h1; cases h1
          have hbe2 := heap_set2 HBE9.out (.int .i64 (n : Int)) (.int .i64 q)
          refine ⟨by simp, .inl ⟨_, _, rfl, run_takeDeferred hdf10, ?_⟩⟩
          have hbe3 : ((((W9.setCell ⟨w.heap.size, 0, none⟩ (.int .i64 (n : Int))).setCell ⟨w.heap.size, 1, none⟩ (.int .i64 q)).drew).putObj D1 (.deferred none)).heap[w.heap.size]? = some (.cells #[.int .i64 (n : Int), .int .i64 q] 30 (0, 0)) := (World.putObj_heap_other (fun e => hdne e.symm)).trans hbe2
          refine ⟨_, results_ct rfl _ _ w.heap.size 30 _ (0, 0) _ rfl hbe3 Try.underlying30 rfl (by kernel_rfl), ?_⟩
          unfold TakePost
          simp only [if_neg H256.out]
          have hk : ∀ k, k ≠ w.heap.size → k ≠ D1 → ((((W9.setCell ⟨w.heap.size, 0, none⟩ (.int .i64 (n : Int))).setCell ⟨w.heap.size, 1, none⟩ (.int .i64 q)).drew).putObj D1 (.deferred none)).heap[k]? = W9.heap[k]? := fun k h1 h2 => by
            rw [World.putObj_heap_other h2]
            show ((W9.setCell ⟨w.heap.size, 0, none⟩ (.int .i64 (n : Int))).setCell ⟨w.heap.size, 1, none⟩ (.int .i64 q)).heap[k]? = _
            rw [Below.heap_setCell _ ⟨w.heap.size, 1, none⟩ _ k h1, Below.heap_setCell _ ⟨w.heap.size, 0, none⟩ _ k h1]
          have hfin := (H9.out.but HBE9.out HDF9.out rfl hk (by simp)).re (takeB B n)
          have hgf : GrP (SlP s (.slice ag m cg)) w (((W9.setCell ⟨w.heap.size, 0, none⟩ (.int .i64 (n : Int))).setCell ⟨w.heap.size, 1, none⟩ (.int .i64 q)).drew.putObj D1 (.deferred none)) := grp_then HG9.out ⟨rfl, rfl, rfl, by simp, fun k hk2 => hk k (by omega) (by omega)⟩
          rw [← HM.out, ← HQ.out]
          exact ⟨rfl, _, _, _, _, _, hfin, take_si HSI.out HLE.out H256.out, hgf, HO3.out⟩
      have HREST2 := Lib.hid REST2
      clear REST2 hK1
      have x0 := HBV1.out.cell
      have c0 := HSL1.out.c0
      rw [← HM.out] at c0
      by_cases hnm : n = m
      · have t1 : ((n : Int) == (m : Int)) = true := by rw [beq_iff_eq]; omega
        have HNM := Lib.hid hnm
        clear hnm
        have hown := HSL1.out.gens
        rw [← HM.out] at hown
        have hB := HSL1.out.dw
        have c0f := HSL1.out.fz 0
        have hgr0 : GrP (SlP s (.slice ag m cg)) w W2 := .of_below HBW1.out
        have HGR0 := Lib.hid hgr0
        clear hgr0
        go_wp2_with (at_builtin; go_must (refine wpList_append_new rfl _ _ 22 rfl D 3 (.int .i64 0) 1 8 Try.underlying22 (by kernel_rfl) rfl (by decide) _ _ _ rfl hown _ _ rfl rfl rfl (by omega) (by decide) hB ?_))
        intro g' cap' w' hown' hg hor hlt'
        have hg2 : W2.grownBy w' (Value.slice ag m cg).ownBlock := hg
        have hsb := heap_gb HSL1.out.block hg2 (fun e => own_ne HSL1.out.gens HSL1.out.block (by decide) s (by rw [← HM.out]; exact e.symm) rfl)
        have c0' := cell_of_row _ _ 0 _ _ _ hsb
        simp only [List.getElem?_toArray, List.getElem?_cons_zero] at c0'
        have f0' := Mem.frozen_of_row hsb 0
        have HG2 := Lib.hid hg2
        have HOW := Lib.hid hown'
        have HOR := Lib.hid hor
        clear hown hown' hg hor hlt' hg2 hsb c0 c0f x0
        go_wp2_with fail
        have hlo : ∀ k, (Value.slice ag m cg).ownBlock = some k → k < w.heap.size := fun k hk => (own_lt H0.out.gens k (by rw [← HM.out]; exact hk)).2
        have hso := lt_of_heap H0.out.block
        have hkp : ∀ k, w.heap.size ≤ k → k < W2.heap.size → (w'.setCell ⟨s, 0, none⟩ (.slice (some ⟨g', 0, none⟩) (m + 1) cap')).heap[k]? = W2.heap[k]? := fun k k1 k2 => by
          rw [Below.heap_setCell w' ⟨s, 0, none⟩ _ k (by show k ≠ s; omega)]
          exact HG2.out.block k k2 (fun e => by have := hlo k e.symm; omega)
        have e2 : takeG G n = G ++ [0] := by unfold takeG; rw [if_pos (by rw [← HM.out]; exact HNM.out)]
        have hsl := HSL1.out.grow (G2 := G ++ [0]) (v := .slice (some ⟨g', 0, none⟩) (m + 1) cap') (by rw [← HM.out]; exact HG2.out) (by
          have h3 := HOW.out
          rw [vints_snoc] at h3
          rw [List.length_append, ← HM.out]; exact h3)
        rw [← HNU.out, ← HNF.out] at hsl
        refine HREST2.out true _ _ _ _ _ _ _ _ _ _ _ (by rw [e2]; exact hsl) ((HGR0.out.step (GrP.of_gb (P := SlP s (.slice ag m cg)) HG2.out (fun k hk => .inr hk)) (fun _ _ q => q)).set (.inl rfl) _ _) ?_ ?_ ?_ ?_
        · intro k hk
          have hk : g' = k := by simpa [Value.ownBlock] using hk
          rcases HOR.out with e | e
          · exact .inl (by rw [← hk]; exact e)
          · exact .inr (by have := HBW1.out.size; omega)
        · exact (hkp D1 hDw (lt_of_heap HDF1.out)).trans HDF1.out
        · exact (hkp _ (Nat.le_refl _) (lt_of_heap HBE1.out)).trans HBE1.out
        · exact (hkp _ (by omega) (lt_of_heap HBV1.out)).trans HBV1.out
      · have t1 : ((n : Int) == (m : Int)) = false := by rw [beq_eq_false_iff_ne]; omega
        have HNM := Lib.hid hnm
        clear hnm
        go_wp2_with fail
        have hsl := HSL1.out
        rw [← HM.out, ← HNU.out, ← HNF.out] at hsl
        have e2 : takeG G n = G := by unfold takeG; rw [if_neg (by rw [← HM.out]; exact HNM.out)]
        exact HREST2.out false _ _ _ _ _ _ _ _ _ _ W2 (by rw [e2]; exact hsl) (.of_below HBW1.out) (fun k hk => .inl hk) HDF1.out HBE1.out HBV1.out
  have HREST := Lib.hid REST
  clear REST hK
  refine (wpIn_wide (n := 3)).1 (wpIn_rangeFunc_ownF rfl (by omega) (gf := 50) (lb := #[.pointer (some ⟨w.heap.size + 1 + 1, 0, none⟩)]) rfl trivial (enters_of Try.func50 (by kernel_rfl) rfl)
    (all_stopsB (3 - 1) (by omega) (w.heap.size + 1 + 1) (w.heap.size + 1 + 1) w1.heap.size rr k cr J g2 (by have := HCC.out.1; omega) HCC.out.2.1 w1 g6 g3 g5 g4) KeepB.trans (KeepB.put (Nat.le_refl _)) (Below.refl _ _) (fun _ => rfl)
    (fun pre W => (pre = [] ∧ W.heap[w.heap.size + 1]? = some (.cells #[.int .i64 (m : Int)] 3 (0, 0))) ∧ Below (w.heap.size + 1) w1 W)
    (fun c pre W => (c = Code.exit 0 ∧ ∃ x : El J, pre = [x] ∧ W.heap[w.heap.size + 1]? = some (.cells #[.int .i64 (x.1 : Int)] 3 (0, 0))) ∧ Below (w.heap.size + 1) w1 W)
    (OwnFrom.and (fun _ _ _ _ hs hg hr => ⟨hs.1, heap_from hs.2 rfl hg hr⟩) (ownFrom_below (by omega) (by omega)))
    (fun _ => OwnFrom.and (fun _ _ _ _ hs hg hr => by
      obtain ⟨h1, x, h2, h3⟩ := hs
      exact ⟨h1, x, h2, heap_from h3 rfl hg hr⟩) (ownFrom_below (by omega) (by omega)))
    ⟨⟨rfl, HBN2.out⟩, Below.refl _ _⟩
    (fun x => { tmps := #[.pointer (some ⟨s, 0, none⟩), undef, .pointer (some ⟨w.heap.size, 0, none⟩), .int .i64 0, .pointer (some ⟨w.heap.size + 1, 0, none⟩), .int .i64 (x.1 : Int), .pointer (some ⟨s, 0, none⟩), .pointer (some ⟨s, 0, none⟩), .pointer (some ⟨s, 0, none⟩), .slice ag m cg, .int .i64 (m : Int), .pointer (some ⟨s, 0, none⟩), .pointer (some ⟨s, 0, none⟩), .pointer (some ⟨s, 2, none⟩), .slice af nf cf, .func (.func 50) #[] #[.pointer (some ⟨w.heap.size + 1 + 1, 0, none⟩)], .int .i64 (x.1 : Int), undef, undef, undef, undef, undef, undef, undef, undef, undef, undef, undef, undef, undef, undef, undef, undef, undef, undef, undef, undef, undef, undef, undef, undef, undef, undef, undef, undef, undef, undef, undef, undef, undef, undef, undef, undef, undef, undef, undef, undef, undef, undef, undef, undef, undef, undef, undef], defers := [] }) ?assign ?body ?done ?stop)
  case assign =>
    intro l x W K hK
    gi_wp2
    exact hK
  case body =>
    rintro l pre ⟨x, hx⟩ W ⟨⟨rfl, hbx⟩, hB⟩ hlt
    have hv : Boxed W (w.heap.size + 1) 3 (.int .i64 (m : Int)) := hbx
    have e0 := hv.cell
    have e1 := hv.frozen
    dsimp only
    gi_wp2
    exact ⟨KeepsOthers.setCell _ _ _, ⟨rfl, x, ⟨hx, rfl⟩, Boxed.set _ hv⟩, hB.trans ((Below.refl _ _).setCell (p := ⟨w.heap.size + 1, 0, none⟩) (Nat.le_refl _) _)⟩
  case done =>
    rintro D1 ys W hD hys ⟨⟨rfl, hbx⟩, hB⟩ hKD
    have hn := HFL.out.1 hys.symm
    refine HREST.out D1 _ _ W hD hKD hB ?_
    rw [hn, ← HM.out]; exact hbx
  case stop =>
    rintro D1 c pre W hD hpre ⟨⟨rfl, x, rfl, hbx⟩, hB⟩ hKD
    obtain ⟨t, ht⟩ := hpre
    have hn := (HFL.out.2 x.1 t ht.symm).1
    gi_wp2
    refine HREST.out D1 _ _ W hD hKD hB ?_
    rw [hn]; exact hbx
end Go.Proofs.Ytpilpkbblkhnaaa
end
