/- Drawn regions by facts that name no world, and one state: what the operations done so far have made of the world. By program from RegBef. -/
import Derived.Test.YtlahmcbaiebapaaRegBef
namespace Go.Mem
open Go.Proofs
set_option linter.unusedVariables false
structure FactsF (Fact : Nat → Value → World → Prop) : Prop where
  mono : ∀ j v w w', Fact j v w → Fact j v w'
/-- what the operations have left, with one more done -/
def upd (S : Nat → Option Value) (i : Nat) (v : Value) (j : Nat) : Option Value := cond (Nat.beq j i) (some v) (S j)
theorem upd_same (S : Nat → Option Value) (i : Nat) (v : Value) : upd S i v i = some v := by unfold upd; rw [Nat.beq_refl]; rfl
theorem upd_ne (S : Nat → Option Value) (i j : Nat) (v : Value) (h : j ≠ i) : upd S i v j = S j := by
  unfold upd
  have : Nat.beq j i = false := by
    cases hb : Nat.beq j i
    · rfl
    · exact absurd (Nat.eq_of_beq_eq_true hb) h
  rw [this]; rfl
section
variable (P : Program) (ops : List Oper) (Q : Exit → Act → World → Prop) (a0 : Act) (Fact : Nat → Value → World → Prop) (St : (Nat → Option Value) → World → Prop) (sp : List Nat) (A : List Nat) (n : Nat)
def QOneS (S : Nat → Option Value) (i : Nat) (o : Oper) (F : Act) : Exit → Act → World → Prop
  | .normal, a, w' => ∃ v : Value, a = F.put o.dst v ∧ St (upd S i v) w' ∧ Fact i v w'
  | e, a, w => Q e a w
/-- what is owed for operation i -/
def OblOneS (i : Nat) (o : Oper) : Prop := ∀ (vs : List Value) (w : World) (F : Act) (S : Nat → Option Value), St S w → (∀ e ∈ o.after, Region.binds .any e = true → Fact e.on (vs.getD e.on undef) w) → (∀ t, F.eval (.tmp t) = look a0 t ops vs) → vs.length = ops.length → (∀ t, n ≤ t → vs.getD t undef = (origs a0 ops).getD t undef) →
  (∀ j, (A.getD i 0).testBit j = true → j < ops.length → S j = some (vs.getD j undef)) → (∀ j, j < ops.length → (Nat.beq j i || (A.getD j 0).testBit i) = true → S j = none) → (sp.contains i = false → ∀ v, St (upd S i v) w) → wpList P ops.toArray (QOneS Q Fact St S i o F) [o] F w
def OblS : List Oper → Nat → Prop
  | [], _ => True
  | o :: r, i => OblOneS P ops Q a0 Fact St sp A n i o ∧ OblS r (i + 1)
end
theorem OblS.get {P : Program} {ops : List Oper} {Q : Exit → Act → World → Prop} {a0 : Act} {Fact : Nat → Value → World → Prop} {St : (Nat → Option Value) → World → Prop} {sp A : List Nat} {n : Nat} : ∀ {l : List Oper} {k : Nat}, OblS P ops Q a0 Fact St sp A n l k → ∀ {i : Nat} {o : Oper}, l[i]? = some o → OblOneS P ops Q a0 Fact St sp A n (k + i) o
  | [], _, _, i, o, h => by simp at h
  | x :: r, k, H, 0, o, h => by simp at h; subst h; exact H.1
  | x :: r, k, H, i + 1, o, h => by
    have := H.2.get (i := i) (o := o) (by simpa using h)
    rwa [show k + 1 + i = k + (i + 1) by omega] at this
theorem any_st {P : Program} {ops : List Oper} {Q : Exit → Act → World → Prop} {a0 : Act} {w0 : World} (n : Nat)
    (hac : (acyclicB ops && distinctB ops && tailT ops n && Region.seqB .any ops.toArray (ops.drop n).length n (headTail n (ops.length - n)) && decide (n ≤ ops.length)) = true)
    (St : (Nat → Option Value) → World → Prop) (sp : List Nat) (hcg : ∀ S S' w, (∀ j ∈ sp, S j = S' j) → St S w → St S' w) (h0 : St (fun _ => none) w0) (Fact : Nat → Value → World → Prop) (hF : FactsF Fact) (A : List Nat) (hA : ancOkB ops A = true)
    (hstep : OblS P ops Q a0 Fact St sp A n (ops.take n) 0)
    (hend : ∀ (vs : List Value) (w : World) (S : Nat → Option Value), vs.length = ops.length → St S w → (∀ j, j < n → S j = some (vs.getD j undef)) → (∀ j, j < n → Fact j (vs.getD j undef) w) → wpList P ops.toArray Q (ops.drop n) (fillAll a0 ops vs) w) :
    wpAny P .any ops.toArray Q ops.toArray.size (Array.replicate ops.toArray.size false) a0 w0 := by
  simp only [Bool.and_eq_true, decide_eq_true_eq] at hac
  obtain ⟨⟨⟨⟨hac, hdis⟩, htl⟩, hseq⟩, hn⟩ := hac
  have key : ∀ (fuel : Nat) (listed : Array Bool) (vs : List Value) (w : World), listed.size = ops.length → vs.length = ops.length → unl listed.toList = fuel → (∀ t, n ≤ t → t < ops.length → listed.getD t true = false) →
      (∀ j, j < ops.length → listed.getD j true = true → Fact j (vs.getD j undef) w) → (∀ j o, ops[j]? = some o → listed.getD j true = true → ∀ e ∈ o.after, Region.binds .any e = true → listed.getD e.on true = true) → (∀ t, n ≤ t → vs.getD t undef = (origs a0 ops).getD t undef) → ∀ S : Nat → Option Value, St S w → (∀ j, j < ops.length → S j = if listed.getD j true = true then some (vs.getD j undef) else none) → wpAny P .any ops.toArray Q fuel listed (fillAll a0 ops vs) w := by
    intro fuel
    induction fuel with
    | zero =>
      intro listed vs w hs hvl hu ht hI hcl hT S hS hSv
      have hall : ∀ j, listed.getD j true = true := by
        intro j
        by_cases hj : j < listed.size
        · exact unl_zero hu (listed.getD j true) (by simp [hj])
        · simp [hj]
      have hno : n = ops.length := by
        rcases Nat.lt_or_ge n ops.length with h | h
        · have h1 := ht n (Nat.le_refl _) h; rw [hall n] at h1; cases h1
        · omega
      have hd : ops.drop n = [] := by rw [hno]; simp
      have := hend vs w S hvl hS (fun j hj => by rw [hSv j (by omega), hall j]; rfl) (fun j hj => hI j (by omega) (hall j))
      rw [hd] at this
      refine ⟨?_, this⟩
      unfold Region.ready
      rw [List.filter_eq_nil_iff]
      intro i hi
      simp [hall i]
    | succ fuel ih =>
      intro listed vs w hs hvl hu ht hI hcl hT S hS hSv
      by_cases hpre : ∀ j, j < n → listed.getD j true = true
      · -- the head is done: the tail, in its one order
        have hL : listed = headTail n (ops.length - n) := by
          unfold headTail
          apply Array.ext
          · simp; omega
          · intro i h1 h2
            have e : listed[i] = listed.getD i true := by simp [h1]
            rw [e]
            by_cases hi : i < n
            · rw [hpre i hi]; simp [hi]
            · rw [ht i (by omega) (by omega)]; simp [List.getElem_append, hi]
        have hf : fuel + 1 = (ops.drop n).length := by
          rw [← hu, hL]; simp [headTail, unl]
        rw [hf]
        refine wpAny_of_seq (ops.drop n) n listed _ w (fun j => by simp [List.getElem?_drop]) (by rw [hL]; exact hseq) ?_
        exact hend vs w S hvl hS (fun j hj => by rw [hSv j (by omega), hpre j hj]; rfl) (fun j hj => hI j (by omega) (hpre j hj))
      · constructor
        · intro hr
          exfalso
          obtain ⟨i, h1, h2⟩ := first_false listed.toList (by omega)
          have hi : i < listed.size := by
            have := (List.getElem?_eq_some_iff.1 h1).1; simpa using this
          have hio : i < ops.length := by omega
          have hmem : i ∈ Region.ready .any ops.toArray listed := by
            unfold Region.ready
            rw [List.mem_filter]
            refine ⟨by simp; omega, ?_⟩
            have hl : listed.getD i true = false := by simp [Array.getD_eq_getD_getElem?, ← Array.getElem?_toList, h1]
            rw [hl]
            have ho : ops.toArray[i]? = some ops[i] := by simp [hio]
            rw [ho]
            simp only [Option.map_some, Option.getD_some, Bool.not_false, Bool.true_and, Array.all_eq_true_iff_forall_mem]
            intro e he
            unfold acyclicB at hac
            have := List.all_eq_true.1 hac (ops[i], i) (by rw [List.mem_zipIdx_iff_getElem?]; simp [hio])
            have := (Array.all_eq_true_iff_forall_mem.1 this) e he
            simp only [Bool.or_eq_true, Bool.not_eq_true', decide_eq_true_eq] at this ⊢
            rcases this with h | h
            · exact Or.inl h
            · right
              have := h2 e.on h
              simp [Array.getD_eq_getD_getElem?, ← Array.getElem?_toList, this]
          rw [hr] at hmem
          cases hmem
        · intro i hi
          unfold Region.ready at hi
          rw [List.mem_filter] at hi
          obtain ⟨hir, hi⟩ := hi
          have hio : i < ops.length := by simpa using hir
          have hoA : ops.toArray[i]? = some ops[i] := by simp [hio]
          rw [hoA] at hi
          simp only [Option.map_some, Option.getD_some, Bool.and_eq_true, Bool.not_eq_true', Array.all_eq_true_iff_forall_mem] at hi
          obtain ⟨hl, hdep⟩ := hi
          have hdep' : ∀ e ∈ (ops[i]).after, Region.binds .any e = true → e.on < listed.size ∧ listed.getD e.on true = true := by
            intro e he hbd
            have := hdep e he
            rw [hbd] at this
            simp only [Bool.not_true, Bool.false_or] at this
            by_cases hb : e.on < listed.size
            · exact ⟨hb, by simpa [hb] using this⟩
            · simp [hb] at this
          have hin : i < n := by
            rcases Nat.lt_or_ge i n with h | h
            · exact h
            · exfalso
              apply hpre
              intro j hj
              unfold tailT at htl
              have := List.all_eq_true.1 htl (ops[i], i) (by rw [List.mem_zipIdx_iff_getElem?]; simp [hio])
              simp only [Bool.or_eq_true, decide_eq_true_eq] at this
              rcases this with h' | h'
              · omega
              · have := List.all_eq_true.1 h' j (by simp; omega)
                exact anc_listed hcl 8 i j ops[i] (by simp [hio]) (fun e he hbd => (hdep' e he hbd).2) this
          have ho : ops[i]? = some ops[i] := by simp [hio]
          have hot : (ops.take n)[i]? = some ops[i] := by rw [List.getElem?_take, if_pos hin]; exact ho
          have hl' : listed.toList[i]? = some false := by
            have hlt : i < listed.size := by omega
            have : listed.getD i true = listed[i] := by simp [hlt]
            rw [this] at hl
            rw [Array.getElem?_toList, Array.getElem?_eq_getElem hlt, hl]
          have hstep' := hstep.get hot
          rw [Nat.zero_add] at hstep'
          have hla : ∀ j, (A.getD i 0).testBit j = true → j < ops.length → listed.getD j true = true := by
            intro j hj hjl
            have h1 := List.all_eq_true.1 hA (ops[i], i) (by rw [List.mem_zipIdx_iff_getElem?]; simp [hio])
            have h2 := List.all_eq_true.1 h1 j (by simpa using hjl)
            simp only [hj, Bool.not_true, Bool.false_or] at h2
            obtain ⟨e, he, h3⟩ := Array.any_eq_true'.1 h2
            simp only [Bool.and_eq_true, Bool.or_eq_true, decide_eq_true_eq, beq_iff_eq] at h3
            obtain ⟨⟨hb, hlt⟩, h4⟩ := h3
            have hle := (hdep' e he hb).2
            rcases h4 with h4 | h4
            · rw [← h4]; exact hle
            · exact anc_listed2 hA hcl (e.on + 1) e.on j (by omega) (by omega) hjl hle h4
          have hln : ∀ j, j < ops.length → (Nat.beq j i || (A.getD j 0).testBit i) = true → S j = none := by
            intro j hjl hj
            rw [hSv j hjl]
            cases hlj : listed.getD j true with
            | false => rfl
            | true =>
              exfalso
              simp only [Bool.or_eq_true] at hj
              rcases hj with hj | hj
              · rw [Nat.eq_of_beq_eq_true hj] at hlj
                rw [hlj] at hl; cases hl
              · have := anc_listed2 hA hcl (j + 1) j i (by omega) hjl hio hlj hj
                rw [this] at hl; cases hl
          have hpu : sp.contains i = false → ∀ v, St (upd S i v) w := fun hsp v => hcg S _ w (fun j hj => (upd_ne S i j v (fun e => by
            subst e
            have := List.contains_iff_mem.2 hj
            rw [hsp] at this; cases this)).symm) hS
          have H := hstep' vs w (fillAll a0 ops vs) S hS (fun e he hbd => hI e.on (by have := (hdep' e he hbd).1; omega) (hdep' e he hbd).2) (fun t => eval_fill a0 t ops vs) hvl hT (fun j hj hjl => by rw [hSv j hjl, hla j hj hjl]; rfl) hln hpu
          have hnext : ∀ (a' : Act) (w' : World), QOneS Q Fact St S i ops[i] (fillAll a0 ops vs) .normal a' w' → wpAny P .any ops.toArray Q fuel (listed.setIfInBounds i true) a' w' := by
            rintro a' w' ⟨v, rfl, hst, hv⟩
            rw [fillAll_set a0 ops vs i ops[i] v hdis ho (by omega)]
            refine ih _ (vs.set i v) w' (by simpa using hs) (by simpa using hvl) ?_ ?_ ?_ ?_ ?_ (upd S i v) hst ?_
            · have := unl_set listed.toList i hl'
              rw [Array.toList_setIfInBounds]; omega
            · intro t h1 h2
              rw [Array.getD_eq_getD_getElem?, Array.getElem?_setIfInBounds, if_neg (by omega), ← Array.getD_eq_getD_getElem?]
              exact ht t h1 h2
            · intro j hj hlj
              by_cases e : j = i
              · subst e
                rw [List.getD_eq_getElem?_getD, List.getElem?_set_self (by omega)]
                exact hv
              · rw [List.getD_eq_getElem?_getD, List.getElem?_set_ne (by omega), ← List.getD_eq_getElem?_getD]
                refine hF.mono _ _ _ _ (hI j hj ?_)
                rwa [Array.getD_eq_getD_getElem?, Array.getElem?_setIfInBounds, if_neg (by omega), ← Array.getD_eq_getD_getElem?] at hlj
            · have up : ∀ q, listed.getD q true = true → (listed.setIfInBounds i true).getD q true = true := by
                intro q hq
                by_cases e : q = i
                · subst e
                  by_cases hlt : q < listed.size <;> simp [Array.getD_eq_getD_getElem?, hlt]
                · rwa [Array.getD_eq_getD_getElem?, Array.getElem?_setIfInBounds, if_neg (by omega), ← Array.getD_eq_getD_getElem?]
              intro j o hoj hlj e he hbd
              apply up
              by_cases hji : j = i
              · subst hji
                rw [ho] at hoj
                injection hoj with hoj
                subst hoj
                exact (hdep' e he hbd).2
              · rw [Array.getD_eq_getD_getElem?, Array.getElem?_setIfInBounds, if_neg (by omega), ← Array.getD_eq_getD_getElem?] at hlj
                exact hcl j o hoj hlj e he hbd
            · intro t h1
              rw [List.getD_eq_getElem?_getD, List.getElem?_set_ne (by omega), ← List.getD_eq_getElem?_getD]
              exact hT t h1
            · intro j hj
              by_cases e : j = i
              · subst e
                have hlt : j < listed.size := by omega
                rw [upd_same, List.getD_eq_getElem?_getD, List.getElem?_set_self (by omega), Array.getD_eq_getD_getElem?, Array.getElem?_setIfInBounds, if_pos rfl, if_pos hlt]
                rfl
              · have e1 : (vs.set i v).getD j undef = vs.getD j undef := by rw [List.getD_eq_getElem?_getD, List.getElem?_set_ne (by omega), ← List.getD_eq_getElem?_getD]
                have e2 : (listed.setIfInBounds i true).getD j true = listed.getD j true := by rw [Array.getD_eq_getD_getElem?, Array.getElem?_setIfInBounds, if_neg (by omega), ← Array.getD_eq_getD_getElem?]
                rw [upd_ne _ _ _ _ e, hSv j hj, e1, e2]
          unfold wpOp
          rw [hoA]
          simp only
          unfold wpList at H
          split
          · rename_i hw
            rw [if_pos hw] at H
            have conv : ∀ {K : Act → World → Prop}, (ops[i]).wp P (fillAll a0 ops vs) w K (QOneS Q Fact St S i ops[i] (fillAll a0 ops vs)) → (ops[i]).wp P (fillAll a0 ops vs) w K Q := by
              intro K hh
              unfold Oper.wp at *
              generalize (execOp (fillAll a0 ops vs).eval ops[i]).run P w = r at *
              cases r with
              | ok n w' =>
                cases n <;> simp only [Oper.upon] at hh ⊢ <;>
                  first
                    | exact hh
                    | (refine Calls.mono hh (fun e w'' he => ?_)
                       cases e with
                       | returned v => exact he
                       | panicked c => exact he
                       | outgrown =>
                         obtain ⟨a1, w1, hq⟩ := he
                         exact ⟨a1, w1, hq⟩)
              | halt x w' => cases x <;> simp only [Oper.upon] at hh ⊢ <;> exact hh
            rcases H with H | ⟨hasks, a1, w1, hq⟩
            · left
              refine conv (Oper.wp_mono (fun a w h => ?_) H)
              exact hnext _ _ h
            · right
              exact ⟨hasks, a1, w1, hq⟩
          · rename_i hw
            rw [if_neg hw] at H
            exact hnext _ _ H
  have hrep : unl (Array.replicate ops.toArray.size false).toList = ops.toArray.size := by
    simp [unl]
  have := key ops.toArray.size (Array.replicate ops.toArray.size false) (origs a0 ops) w0 (by simp) (by simp [origs]) hrep (fun t h1 h2 => by simp [h2]) (fun j hj h => by simp [hj] at h) (fun j o hoj h => by have := (List.getElem?_eq_some_iff.1 hoj).1; simp [this] at h) (fun t h => rfl) (fun _ => none) h0 (fun j hj => by simp [hj])
  rwa [fillAll_origs] at this
theorem wp_region_st {P : Program} {id : Nat} {ops : List Oper} {Q : Exit → Act → World → Prop} {a0 : Act} {w0 : World} (hm : P.follows .mixedOrders = true) (n : Nat)
    (hac : (acyclicB ops && distinctB ops && tailT ops n && Region.seqB .any ops.toArray (ops.drop n).length n (headTail n (ops.length - n)) && decide (n ≤ ops.length)) = true)
    (St : (Nat → Option Value) → World → Prop) (sp : List Nat) (hcg : ∀ S S' w, (∀ j ∈ sp, S j = S' j) → St S w → St S' w) (h0 : St (fun _ => none) w0.drew) (Fact : Nat → Value → World → Prop) (hF : FactsF Fact) (A : List Nat) (hA : ancOkB ops A = true)
    (hstep : OblS P ops Q a0 Fact St sp A n (ops.take n) 0)
    (hend : ∀ (vs : List Value) (w : World) (S : Nat → Option Value), vs.length = ops.length → St S w → (∀ j, j < n → S j = some (vs.getD j undef)) → (∀ j, j < n → Fact j (vs.getD j undef) w) → wpList P ops.toArray Q (ops.drop n) (fillAll a0 ops vs) w) :
    (Code.region id ops.toArray true).wp P Q a0 w0 := wp_region_any hm (any_st n hac St sp hcg h0 Fact hF A hA hstep hend)
end Go.Mem
