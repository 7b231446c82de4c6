/- Lemmas for the law WorldSpawns: RegTail, RegRel. No conditions. -/
import Derived.Test.YtfckbkhnelgjbaaGreatDoorM04
/- Drawn regions by facts: the tail's operations wait for the head by a chain of others (not each by itself). -/
section
namespace Go.Mem
open Go.Proofs
set_option linter.unusedVariables false
/-- operation t waits for operation i, by a chain of at most f waits -/
def ancB (ops : List Oper) : Nat → Nat → Nat → Bool
  | 0, _, _ => false
  | f + 1, t, i => match ops[t]? with
    | none => false
    | some o => o.after.any fun e => Region.binds .any e && (e.on == i || ancB ops f e.on i)
def tailT (ops : List Oper) (n : Nat) : Bool := (ops.zipIdx).all fun x => decide (x.2 < n) || (List.range n).all fun i => ancB ops 8 x.2 i
theorem anc_listed {ops : List Oper} {listed : Array Bool} (hcl : ∀ j o, ops[j]? = some o → listed.getD j true = true → ∀ e ∈ o.after, Region.binds .any e = true → listed.getD e.on true = true) :
    ∀ (f t i : Nat) (o : Oper), ops[t]? = some o → (∀ e ∈ o.after, Region.binds .any e = true → listed.getD e.on true = true) → ancB ops f t i = true → listed.getD i true = true
  | 0, _, _, _, _, _, h => by simp [ancB] at h
  | f + 1, t, i, o, ho, hd, h => by
    simp only [ancB, ho] at h
    obtain ⟨e, he, hbe⟩ := Array.any_eq_true'.1 h
    simp only [Bool.and_eq_true, Bool.or_eq_true, beq_iff_eq] at hbe
    obtain ⟨hb, h1 | h1⟩ := hbe
    · rw [← h1]; exact hd e he hb
    · cases ho2 : ops[e.on]? with
      | none => cases f <;> simp [ancB, ho2] at h1
      | some o2 => exact anc_listed hcl f e.on i o2 ho2 (hcl e.on o2 ho2 (hd e he hb)) h1
section
variable (P : Program) (ops : List Oper) (Q : Exit → Act → World → Prop) (a0 : Act) (W0 : World) (Fact : Nat → Value → World → Prop) (n : Nat)
/-- what is owed for operation i; the tail's slots hold what they held -/
def OblOneT (i : Nat) (o : Oper) : Prop := ∀ (vs : List Value) (w : World) (F : Act), RowKit.Below W0.heap.size W0 w → (∀ e ∈ o.after, Region.binds .any e = true → Fact e.on (vs.getD e.on undef) w) → (∀ t, F.eval (.tmp t) = look a0 t ops vs) → vs.length = ops.length → (∀ t, n ≤ t → vs.getD t undef = (origs a0 ops).getD t undef) → wpList P ops.toArray (QOne Q Fact w i o F) [o] F w
def OblT : List Oper → Nat → Prop
  | [], _ => True
  | o :: r, i => OblOneT P ops Q a0 W0 Fact n i o ∧ OblT r (i + 1)
end
theorem OblT.get {P : Program} {ops : List Oper} {Q : Exit → Act → World → Prop} {a0 : Act} {W0 : World} {Fact : Nat → Value → World → Prop} {n : Nat} : ∀ {l : List Oper} {k : Nat}, OblT P ops Q a0 W0 Fact n l k → ∀ {i : Nat} {o : Oper}, l[i]? = some o → OblOneT P ops Q a0 W0 Fact n (k + i) o
  | [], _, _, i, o, h => by simp at h
  | x :: r, k, H, 0, o, h => by simp at h; subst h; exact H.1
  | x :: r, k, H, i + 1, o, h => by
    have := H.2.get (i := i) (o := o) (by simpa using h)
    rwa [show k + 1 + i = k + (i + 1) by omega] at this
theorem wp_region_facts_t {P : Program} {id : Nat} {ops : List Oper} {Q : Exit → Act → World → Prop} {a0 : Act} {w0 : World} (hm : P.follows .mixedOrders = true) (n : Nat)
    (hac : (acyclicB ops && distinctB ops && tailT ops n && Region.seqB .any ops.toArray (ops.drop n).length n (headTail n (ops.length - n)) && decide (n ≤ ops.length)) = true)
    (Fact : Nat → Value → World → Prop) (hF : Facts Fact)
    (hstep : OblT P ops Q a0 w0 Fact n (ops.take n) 0)
    (hend : ∀ (vs : List Value) (w : World), vs.length = ops.length → RowKit.Below w0.heap.size w0 w → (∀ j, j < n → Fact j (vs.getD j undef) w) → wpList P ops.toArray Q (ops.drop n) (fillAll a0 ops vs) w) :
    (Code.region id ops.toArray true).wp P Q a0 w0 := by
  simp only [Bool.and_eq_true, decide_eq_true_eq] at hac
  obtain ⟨⟨⟨⟨hac, hdis⟩, htl⟩, hseq⟩, hn⟩ := hac
  refine wp_region_any hm ?_
  have key : ∀ (fuel : Nat) (listed : Array Bool) (vs : List Value) (w : World), listed.size = ops.length → vs.length = ops.length → unl listed.toList = fuel → (∀ t, n ≤ t → t < ops.length → listed.getD t true = false) →
      RowKit.Below w0.heap.size w0 w → (∀ j, j < ops.length → listed.getD j true = true → Fact j (vs.getD j undef) w) → (∀ j o, ops[j]? = some o → listed.getD j true = true → ∀ e ∈ o.after, Region.binds .any e = true → listed.getD e.on true = true) → (∀ t, n ≤ t → vs.getD t undef = (origs a0 ops).getD t undef) → wpAny P .any ops.toArray Q fuel listed (fillAll a0 ops vs) w := by
    intro fuel
    induction fuel with
    | zero =>
      intro listed vs w hs hvl hu ht hb hI hcl hT
      have hall : ∀ j, listed.getD j true = true := by
        intro j
        by_cases hj : j < listed.size
        · exact unl_zero hu (listed.getD j true) (by simp [hj])
        · simp [hj]
      have hno : n = ops.length := by
        rcases Nat.lt_or_ge n ops.length with h | h
        · have h1 := ht n (Nat.le_refl _) h; rw [hall n] at h1; cases h1
        · omega
      have hd : ops.drop n = [] := by rw [hno]; simp
      have := hend vs w hvl hb (fun j hj => hI j (by omega) (hall j))
      rw [hd] at this
      refine ⟨?_, this⟩
      unfold Region.ready
      rw [List.filter_eq_nil_iff]
      intro i hi
      simp [hall i]
    | succ fuel ih =>
      intro listed vs w hs hvl hu ht hb hI hcl hT
      by_cases hpre : ∀ j, j < n → listed.getD j true = true
      · -- the head is done: the tail, in its one order
        have hL : listed = headTail n (ops.length - n) := by
          unfold headTail
          apply Array.ext
          · simp; omega
          · intro i h1 h2
            have e : listed[i] = listed.getD i true := by simp [h1]
            rw [e]
            by_cases hi : i < n
            · rw [hpre i hi]; simp [hi]
            · rw [ht i (by omega) (by omega)]; simp [List.getElem_append, hi]
        have hf : fuel + 1 = (ops.drop n).length := by
          rw [← hu, hL]; simp [headTail, unl]
        rw [hf]
        refine wpAny_of_seq (ops.drop n) n listed _ w (fun j => by simp [List.getElem?_drop]) (by rw [hL]; exact hseq) ?_
        exact hend vs w hvl hb (fun j hj => hI j (by omega) (hpre j hj))
      · constructor
        · intro hr
          exfalso
          obtain ⟨i, h1, h2⟩ := first_false listed.toList (by omega)
          have hi : i < listed.size := by
            have := (List.getElem?_eq_some_iff.1 h1).1; simpa using this
          have hio : i < ops.length := by omega
          have hmem : i ∈ Region.ready .any ops.toArray listed := by
            unfold Region.ready
            rw [List.mem_filter]
            refine ⟨by simp; omega, ?_⟩
            have hl : listed.getD i true = false := by simp [Array.getD_eq_getD_getElem?, ← Array.getElem?_toList, h1]
            rw [hl]
            have ho : ops.toArray[i]? = some ops[i] := by simp [hio]
            rw [ho]
            simp only [Option.map_some, Option.getD_some, Bool.not_false, Bool.true_and, Array.all_eq_true_iff_forall_mem]
            intro e he
            unfold acyclicB at hac
            have := List.all_eq_true.1 hac (ops[i], i) (by rw [List.mem_zipIdx_iff_getElem?]; simp [hio])
            have := (Array.all_eq_true_iff_forall_mem.1 this) e he
            simp only [Bool.or_eq_true, Bool.not_eq_true', decide_eq_true_eq] at this ⊢
            rcases this with h | h
            · exact Or.inl h
            · right
              have := h2 e.on h
              simp [Array.getD_eq_getD_getElem?, ← Array.getElem?_toList, this]
          rw [hr] at hmem
          cases hmem
        · intro i hi
          unfold Region.ready at hi
          rw [List.mem_filter] at hi
          obtain ⟨hir, hi⟩ := hi
          have hio : i < ops.length := by simpa using hir
          have hoA : ops.toArray[i]? = some ops[i] := by simp [hio]
          rw [hoA] at hi
          simp only [Option.map_some, Option.getD_some, Bool.and_eq_true, Bool.not_eq_true', Array.all_eq_true_iff_forall_mem] at hi
          obtain ⟨hl, hdep⟩ := hi
          have hdep' : ∀ e ∈ (ops[i]).after, Region.binds .any e = true → e.on < listed.size ∧ listed.getD e.on true = true := by
            intro e he hbd
            have := hdep e he
            rw [hbd] at this
            simp only [Bool.not_true, Bool.false_or] at this
            by_cases hb : e.on < listed.size
            · exact ⟨hb, by simpa [hb] using this⟩
            · simp [hb] at this
          have hin : i < n := by
            rcases Nat.lt_or_ge i n with h | h
            · exact h
            · exfalso
              apply hpre
              intro j hj
              unfold tailT at htl
              have := List.all_eq_true.1 htl (ops[i], i) (by rw [List.mem_zipIdx_iff_getElem?]; simp [hio])
              simp only [Bool.or_eq_true, decide_eq_true_eq] at this
              rcases this with h' | h'
              · omega
              · have := List.all_eq_true.1 h' j (by simp; omega)
                exact anc_listed hcl 8 i j ops[i] (by simp [hio]) (fun e he hbd => (hdep' e he hbd).2) this
          have ho : ops[i]? = some ops[i] := by simp [hio]
          have hot : (ops.take n)[i]? = some ops[i] := by rw [List.getElem?_take, if_pos hin]; exact ho
          have hl' : listed.toList[i]? = some false := by
            have hlt : i < listed.size := by omega
            have : listed.getD i true = listed[i] := by simp [hlt]
            rw [this] at hl
            rw [Array.getElem?_toList, Array.getElem?_eq_getElem hlt, hl]
          have hstep' := hstep.get hot
          rw [Nat.zero_add] at hstep'
          have H := hstep' vs w (fillAll a0 ops vs) hb (fun e he hbd => hI e.on (by have := (hdep' e he hbd).1; omega) (hdep' e he hbd).2) (fun t => eval_fill a0 t ops vs) hvl hT
          have hnext : ∀ (a' : Act) (w' : World), QOne Q Fact w i ops[i] (fillAll a0 ops vs) .normal a' w' → wpAny P .any ops.toArray Q fuel (listed.setIfInBounds i true) a' w' := by
            rintro a' w' ⟨v, rfl, hb', hv⟩
            rw [fillAll_set a0 ops vs i ops[i] v hdis ho (by omega)]
            refine ih _ (vs.set i v) w' (by simpa using hs) (by simpa using hvl) ?_ ?_ (hb.trans (hb'.mono hb.size)) ?_ ?_ ?_
            · have := unl_set listed.toList i hl'
              rw [Array.toList_setIfInBounds]; omega
            · intro t h1 h2
              rw [Array.getD_eq_getD_getElem?, Array.getElem?_setIfInBounds, if_neg (by omega), ← Array.getD_eq_getD_getElem?]
              exact ht t h1 h2
            · intro j hj hlj
              by_cases e : j = i
              · subst e
                rw [List.getD_eq_getElem?_getD, List.getElem?_set_self (by omega)]
                exact hv
              · rw [List.getD_eq_getElem?_getD, List.getElem?_set_ne (by omega), ← List.getD_eq_getElem?_getD]
                refine hF.mono _ _ _ _ (hI j hj ?_) hb'
                rwa [Array.getD_eq_getD_getElem?, Array.getElem?_setIfInBounds, if_neg (by omega), ← Array.getD_eq_getD_getElem?] at hlj
            · have up : ∀ q, listed.getD q true = true → (listed.setIfInBounds i true).getD q true = true := by
                intro q hq
                by_cases e : q = i
                · subst e
                  by_cases hlt : q < listed.size <;> simp [Array.getD_eq_getD_getElem?, hlt]
                · rwa [Array.getD_eq_getD_getElem?, Array.getElem?_setIfInBounds, if_neg (by omega), ← Array.getD_eq_getD_getElem?]
              intro j o hoj hlj e he hbd
              apply up
              by_cases hji : j = i
              · subst hji
                rw [ho] at hoj
                injection hoj with hoj
                subst hoj
                exact (hdep' e he hbd).2
              · rw [Array.getD_eq_getD_getElem?, Array.getElem?_setIfInBounds, if_neg (by omega), ← Array.getD_eq_getD_getElem?] at hlj
                exact hcl j o hoj hlj e he hbd
            · intro t h1
              rw [List.getD_eq_getElem?_getD, List.getElem?_set_ne (by omega), ← List.getD_eq_getElem?_getD]
              exact hT t h1
          unfold wpOp
          rw [hoA]
          simp only
          unfold wpList at H
          split
          · rename_i hw
            rw [if_pos hw] at H
            have conv : ∀ {K : Act → World → Prop}, (ops[i]).wp P (fillAll a0 ops vs) w K (QOne Q Fact w i ops[i] (fillAll a0 ops vs)) → (ops[i]).wp P (fillAll a0 ops vs) w K Q := by
              intro K hh
              unfold Oper.wp at *
              generalize (execOp (fillAll a0 ops vs).eval ops[i]).run P w = r at *
              cases r with
              | ok n w' =>
                cases n <;> simp only [Oper.upon] at hh ⊢ <;>
                  first
                    | exact hh
                    | (refine Calls.mono hh (fun e w'' he => ?_)
                       cases e with
                       | returned v => exact he
                       | panicked c => exact he
                       | outgrown =>
                         obtain ⟨a1, w1, hq⟩ := he
                         exact ⟨a1, w1, hq⟩)
              | halt x w' => cases x <;> simp only [Oper.upon] at hh ⊢ <;> exact hh
            rcases H with H | ⟨hasks, a1, w1, hq⟩
            · left
              refine conv (Oper.wp_mono (fun a w h => ?_) H)
              exact hnext _ _ h
            · right
              exact ⟨hasks, a1, w1, hq⟩
          · rename_i hw
            rw [if_neg hw] at H
            exact hnext _ _ H
  have hrep : unl (Array.replicate ops.toArray.size false).toList = ops.toArray.size := by
    simp [unl]
  have := key ops.toArray.size (Array.replicate ops.toArray.size false) (origs a0 ops) w0.drew (by simp) (by simp [origs]) hrep (fun t h1 h2 => by simp [h2]) (RowKit.Below.refl _ _).drew (fun j hj h => by simp [hj] at h) (fun j o hoj h => by have := (List.getElem?_eq_some_iff.1 hoj).1; simp [this] at h) (fun t h => rfl)
  rwa [fillAll_origs] at this
end Go.Mem
end
/- Drawn regions by facts, over relations of worlds, one for each operation: an operation that writes a row of the call's own (an append) may stand in the head. By program from RegTail (its proof, Below turned into Rel). -/
section
namespace Go.Mem
open Go.Proofs
set_option linter.unusedVariables false
structure FactsR (RelI : Nat → World → World → Prop) (Fact : Nat → Value → World → Prop) : Prop where
  mono : ∀ i j v w w', i ≠ j → Fact j v w → RelI i w w' → Fact j v w'
section
variable (P : Program) (ops : List Oper) (Q : Exit → Act → World → Prop) (a0 : Act) (W0 : World) (Rel : World → World → Prop) (RelI : Nat → World → World → Prop) (Fact : Nat → Value → World → Prop) (qw : Nat) (Inv : World → Prop) (n : Nat)
/-- What stands behind operation i. -/
def QOneR (w : World) (i : Nat) (o : Oper) (F : Act) : Exit → Act → World → Prop
  | .normal, a, w' => ∃ v : Value, a = F.put o.dst v ∧ RelI i w w' ∧ Fact i v w'
  | e, a, w => Q e a w
/-- what is owed for operation i; the tail's slots hold what they held -/
def OblOneR (i : Nat) (o : Oper) : Prop := ∀ (vs : List Value) (w : World) (F : Act), Rel W0 w → (∀ e ∈ o.after, Region.binds .any e = true → Fact e.on (vs.getD e.on undef) w) → (∀ t, F.eval (.tmp t) = look a0 t ops vs) → vs.length = ops.length → (∀ t, n ≤ t → vs.getD t undef = (origs a0 ops).getD t undef) → (i = qw → Inv w) → wpList P ops.toArray (QOneR Q RelI Fact w i o F) [o] F w
def OblR : List Oper → Nat → Prop
  | [], _ => True
  | o :: r, i => OblOneR P ops Q a0 W0 Rel RelI Fact qw Inv n i o ∧ OblR r (i + 1)
end
theorem OblR.get {P : Program} {ops : List Oper} {Q : Exit → Act → World → Prop} {a0 : Act} {W0 : World} {Rel : World → World → Prop} {RelI : Nat → World → World → Prop} {Fact : Nat → Value → World → Prop} {qw : Nat} {Inv : World → Prop} {n : Nat} : ∀ {l : List Oper} {k : Nat}, OblR P ops Q a0 W0 Rel RelI Fact qw Inv n l k → ∀ {i : Nat} {o : Oper}, l[i]? = some o → OblOneR P ops Q a0 W0 Rel RelI Fact qw Inv n (k + i) o
  | [], _, _, i, o, h => by simp at h
  | x :: r, k, H, 0, o, h => by simp at h; subst h; exact H.1
  | x :: r, k, H, i + 1, o, h => by
    have := H.2.get (i := i) (o := o) (by simpa using h)
    rwa [show k + 1 + i = k + (i + 1) by omega] at this
theorem wp_region_facts_r {P : Program} {id : Nat} {ops : List Oper} {Q : Exit → Act → World → Prop} {a0 : Act} {w0 : World} (hm : P.follows .mixedOrders = true) (n : Nat)
    (hac : (acyclicB ops && distinctB ops && tailT ops n && Region.seqB .any ops.toArray (ops.drop n).length n (headTail n (ops.length - n)) && decide (n ≤ ops.length)) = true)
    (Rel : World → World → Prop) (hr0 : Rel w0 w0.drew) (htr : ∀ a b c, Rel a b → Rel b c → Rel a c) (RelI : Nat → World → World → Prop) (hsub : ∀ i a b, RelI i a b → Rel a b) (Fact : Nat → Value → World → Prop) (hF : FactsR RelI Fact) (qw : Nat) (Inv : World → Prop) (hi0 : Inv w0.drew) (hinv : ∀ i a b, i ≠ qw → RelI i a b → Inv a → Inv b)
    (hstep : OblR P ops Q a0 w0 Rel RelI Fact qw Inv n (ops.take n) 0)
    (hend : ∀ (vs : List Value) (w : World), vs.length = ops.length → Rel w0 w → (∀ j, j < n → Fact j (vs.getD j undef) w) → wpList P ops.toArray Q (ops.drop n) (fillAll a0 ops vs) w) :
    (Code.region id ops.toArray true).wp P Q a0 w0 := by
  simp only [Bool.and_eq_true, decide_eq_true_eq] at hac
  obtain ⟨⟨⟨⟨hac, hdis⟩, htl⟩, hseq⟩, hn⟩ := hac
  refine wp_region_any hm ?_
  have key : ∀ (fuel : Nat) (listed : Array Bool) (vs : List Value) (w : World), listed.size = ops.length → vs.length = ops.length → unl listed.toList = fuel → (∀ t, n ≤ t → t < ops.length → listed.getD t true = false) →
      Rel w0 w → (∀ j, j < ops.length → listed.getD j true = true → Fact j (vs.getD j undef) w) → (∀ j o, ops[j]? = some o → listed.getD j true = true → ∀ e ∈ o.after, Region.binds .any e = true → listed.getD e.on true = true) → (∀ t, n ≤ t → vs.getD t undef = (origs a0 ops).getD t undef) → (listed.getD qw true = false → Inv w) → wpAny P .any ops.toArray Q fuel listed (fillAll a0 ops vs) w := by
    intro fuel
    induction fuel with
    | zero =>
      intro listed vs w hs hvl hu ht hb hI hcl hT hIV
      have hall : ∀ j, listed.getD j true = true := by
        intro j
        by_cases hj : j < listed.size
        · exact unl_zero hu (listed.getD j true) (by simp [hj])
        · simp [hj]
      have hno : n = ops.length := by
        rcases Nat.lt_or_ge n ops.length with h | h
        · have h1 := ht n (Nat.le_refl _) h; rw [hall n] at h1; cases h1
        · omega
      have hd : ops.drop n = [] := by rw [hno]; simp
      have := hend vs w hvl hb (fun j hj => hI j (by omega) (hall j))
      rw [hd] at this
      refine ⟨?_, this⟩
      unfold Region.ready
      rw [List.filter_eq_nil_iff]
      intro i hi
      simp [hall i]
    | succ fuel ih =>
      intro listed vs w hs hvl hu ht hb hI hcl hT hIV
      by_cases hpre : ∀ j, j < n → listed.getD j true = true
      · -- the head is done: the tail, in its one order
        have hL : listed = headTail n (ops.length - n) := by
          unfold headTail
          apply Array.ext
          · simp; omega
          · intro i h1 h2
            have e : listed[i] = listed.getD i true := by simp [h1]
            rw [e]
            by_cases hi : i < n
            · rw [hpre i hi]; simp [hi]
            · rw [ht i (by omega) (by omega)]; simp [List.getElem_append, hi]
        have hf : fuel + 1 = (ops.drop n).length := by
          rw [← hu, hL]; simp [headTail, unl]
        rw [hf]
        refine wpAny_of_seq (ops.drop n) n listed _ w (fun j => by simp [List.getElem?_drop]) (by rw [hL]; exact hseq) ?_
        exact hend vs w hvl hb (fun j hj => hI j (by omega) (hpre j hj))
      · constructor
        · intro hr
          exfalso
          obtain ⟨i, h1, h2⟩ := first_false listed.toList (by omega)
          have hi : i < listed.size := by
            have := (List.getElem?_eq_some_iff.1 h1).1; simpa using this
          have hio : i < ops.length := by omega
          have hmem : i ∈ Region.ready .any ops.toArray listed := by
            unfold Region.ready
            rw [List.mem_filter]
            refine ⟨by simp; omega, ?_⟩
            have hl : listed.getD i true = false := by simp [Array.getD_eq_getD_getElem?, ← Array.getElem?_toList, h1]
            rw [hl]
            have ho : ops.toArray[i]? = some ops[i] := by simp [hio]
            rw [ho]
            simp only [Option.map_some, Option.getD_some, Bool.not_false, Bool.true_and, Array.all_eq_true_iff_forall_mem]
            intro e he
            unfold acyclicB at hac
            have := List.all_eq_true.1 hac (ops[i], i) (by rw [List.mem_zipIdx_iff_getElem?]; simp [hio])
            have := (Array.all_eq_true_iff_forall_mem.1 this) e he
            simp only [Bool.or_eq_true, Bool.not_eq_true', decide_eq_true_eq] at this ⊢
            rcases this with h | h
            · exact Or.inl h
            · right
              have := h2 e.on h
              simp [Array.getD_eq_getD_getElem?, ← Array.getElem?_toList, this]
          rw [hr] at hmem
          cases hmem
        · intro i hi
          unfold Region.ready at hi
          rw [List.mem_filter] at hi
          obtain ⟨hir, hi⟩ := hi
          have hio : i < ops.length := by simpa using hir
          have hoA : ops.toArray[i]? = some ops[i] := by simp [hio]
          rw [hoA] at hi
          simp only [Option.map_some, Option.getD_some, Bool.and_eq_true, Bool.not_eq_true', Array.all_eq_true_iff_forall_mem] at hi
          obtain ⟨hl, hdep⟩ := hi
          have hdep' : ∀ e ∈ (ops[i]).after, Region.binds .any e = true → e.on < listed.size ∧ listed.getD e.on true = true := by
            intro e he hbd
            have := hdep e he
            rw [hbd] at this
            simp only [Bool.not_true, Bool.false_or] at this
            by_cases hb : e.on < listed.size
            · exact ⟨hb, by simpa [hb] using this⟩
            · simp [hb] at this
          have hin : i < n := by
            rcases Nat.lt_or_ge i n with h | h
            · exact h
            · exfalso
              apply hpre
              intro j hj
              unfold tailT at htl
              have := List.all_eq_true.1 htl (ops[i], i) (by rw [List.mem_zipIdx_iff_getElem?]; simp [hio])
              simp only [Bool.or_eq_true, decide_eq_true_eq] at this
              rcases this with h' | h'
              · omega
              · have := List.all_eq_true.1 h' j (by simp; omega)
                exact anc_listed hcl 8 i j ops[i] (by simp [hio]) (fun e he hbd => (hdep' e he hbd).2) this
          have ho : ops[i]? = some ops[i] := by simp [hio]
          have hot : (ops.take n)[i]? = some ops[i] := by rw [List.getElem?_take, if_pos hin]; exact ho
          have hl' : listed.toList[i]? = some false := by
            have hlt : i < listed.size := by omega
            have : listed.getD i true = listed[i] := by simp [hlt]
            rw [this] at hl
            rw [Array.getElem?_toList, Array.getElem?_eq_getElem hlt, hl]
          have hstep' := hstep.get hot
          rw [Nat.zero_add] at hstep'
          have H := hstep' vs w (fillAll a0 ops vs) hb (fun e he hbd => hI e.on (by have := (hdep' e he hbd).1; omega) (hdep' e he hbd).2) (fun t => eval_fill a0 t ops vs) hvl hT (fun e => hIV (by rw [← e]; exact hl))
          have hnext : ∀ (a' : Act) (w' : World), QOneR Q RelI Fact w i ops[i] (fillAll a0 ops vs) .normal a' w' → wpAny P .any ops.toArray Q fuel (listed.setIfInBounds i true) a' w' := by
            rintro a' w' ⟨v, rfl, hb', hv⟩
            rw [fillAll_set a0 ops vs i ops[i] v hdis ho (by omega)]
            refine ih _ (vs.set i v) w' (by simpa using hs) (by simpa using hvl) ?_ ?_ (htr _ _ _ hb (hsub _ _ _ hb')) ?_ ?_ ?_ (fun hq => by
              by_cases e : i = qw
              · subst e
                by_cases hlt : i < listed.size <;> simp [Array.getD_eq_getD_getElem?, hlt] at hq
              · rw [Array.getD_eq_getD_getElem?, Array.getElem?_setIfInBounds, if_neg e, ← Array.getD_eq_getD_getElem?] at hq
                exact hinv i _ _ e hb' (hIV hq))
            · have := unl_set listed.toList i hl'
              rw [Array.toList_setIfInBounds]; omega
            · intro t h1 h2
              rw [Array.getD_eq_getD_getElem?, Array.getElem?_setIfInBounds, if_neg (by omega), ← Array.getD_eq_getD_getElem?]
              exact ht t h1 h2
            · intro j hj hlj
              by_cases e : j = i
              · subst e
                rw [List.getD_eq_getElem?_getD, List.getElem?_set_self (by omega)]
                exact hv
              · rw [List.getD_eq_getElem?_getD, List.getElem?_set_ne (by omega), ← List.getD_eq_getElem?_getD]
                refine hF.mono i _ _ _ _ (fun e2 => e e2.symm) (hI j hj ?_) hb'
                rwa [Array.getD_eq_getD_getElem?, Array.getElem?_setIfInBounds, if_neg (by omega), ← Array.getD_eq_getD_getElem?] at hlj
            · have up : ∀ q, listed.getD q true = true → (listed.setIfInBounds i true).getD q true = true := by
                intro q hq
                by_cases e : q = i
                · subst e
                  by_cases hlt : q < listed.size <;> simp [Array.getD_eq_getD_getElem?, hlt]
                · rwa [Array.getD_eq_getD_getElem?, Array.getElem?_setIfInBounds, if_neg (by omega), ← Array.getD_eq_getD_getElem?]
              intro j o hoj hlj e he hbd
              apply up
              by_cases hji : j = i
              · subst hji
                rw [ho] at hoj
                injection hoj with hoj
                subst hoj
                exact (hdep' e he hbd).2
              · rw [Array.getD_eq_getD_getElem?, Array.getElem?_setIfInBounds, if_neg (by omega), ← Array.getD_eq_getD_getElem?] at hlj
                exact hcl j o hoj hlj e he hbd
            · intro t h1
              rw [List.getD_eq_getElem?_getD, List.getElem?_set_ne (by omega), ← List.getD_eq_getElem?_getD]
              exact hT t h1
          unfold wpOp
          rw [hoA]
          simp only
          unfold wpList at H
          split
          · rename_i hw
            rw [if_pos hw] at H
            have conv : ∀ {K : Act → World → Prop}, (ops[i]).wp P (fillAll a0 ops vs) w K (QOneR Q RelI Fact w i ops[i] (fillAll a0 ops vs)) → (ops[i]).wp P (fillAll a0 ops vs) w K Q := by
              intro K hh
              unfold Oper.wp at *
              generalize (execOp (fillAll a0 ops vs).eval ops[i]).run P w = r at *
              cases r with
              | ok n w' =>
                cases n <;> simp only [Oper.upon] at hh ⊢ <;>
                  first
                    | exact hh
                    | (refine Calls.mono hh (fun e w'' he => ?_)
                       cases e with
                       | returned v => exact he
                       | panicked c => exact he
                       | outgrown =>
                         obtain ⟨a1, w1, hq⟩ := he
                         exact ⟨a1, w1, hq⟩)
              | halt x w' => cases x <;> simp only [Oper.upon] at hh ⊢ <;> exact hh
            rcases H with H | ⟨hasks, a1, w1, hq⟩
            · left
              refine conv (Oper.wp_mono (fun a w h => ?_) H)
              exact hnext _ _ h
            · right
              exact ⟨hasks, a1, w1, hq⟩
          · rename_i hw
            rw [if_neg hw] at H
            exact hnext _ _ H
  have hrep : unl (Array.replicate ops.toArray.size false).toList = ops.toArray.size := by
    simp [unl]
  have := key ops.toArray.size (Array.replicate ops.toArray.size false) (origs a0 ops) w0.drew (by simp) (by simp [origs]) hrep (fun t h1 h2 => by simp [h2]) hr0 (fun j hj h => by simp [hj] at h) (fun j o hoj h => by have := (List.getElem?_eq_some_iff.1 hoj).1; simp [this] at h) (fun t h => rfl) (fun _ => hi0)
  rwa [fillAll_origs] at this
end Go.Mem
end
