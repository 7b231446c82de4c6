/- Drawn regions by facts, over relations of worlds, where a fact need not outlive an operation that it stands behind. By program from RegRel. -/
import Derived.Test.YtlahmcbaiebapaaRegRel
namespace Go.Mem
open Go.Proofs
set_option linter.unusedVariables false
/-- A lists, for each operation, operations that it stands behind (a bit each). -/
def ancOkB (ops : List Oper) (A : List Nat) : Bool := (ops.zipIdx).all fun x => (List.range ops.length).all fun i => !(A.getD x.2 0).testBit i || x.1.after.any fun e => Region.binds .any e && decide (e.on < x.2) && (e.on == i || (A.getD e.on 0).testBit i)
theorem anc_listed2 {ops : List Oper} {A : List Nat} (hA : ancOkB ops A = true) {listed : Array Bool} (hcl : ∀ j o, ops[j]? = some o → listed.getD j true = true → ∀ e ∈ o.after, Region.binds .any e = true → listed.getD e.on true = true) :
    ∀ (n j i : Nat), j < n → j < ops.length → i < ops.length → listed.getD j true = true → (A.getD j 0).testBit i = true → listed.getD i true = true := by
  intro n
  induction n with
  | zero => intro j i h; omega
  | succ n ih =>
    intro j i hjn hj hi hl ht
    have h1 := List.all_eq_true.1 hA (ops[j], j) (by rw [List.mem_zipIdx_iff_getElem?]; simp [hj])
    have h2 := List.all_eq_true.1 h1 i (by simpa using hi)
    simp only [ht, Bool.not_true, Bool.false_or] at h2
    obtain ⟨e, he, h3⟩ := Array.any_eq_true'.1 h2
    simp only [Bool.and_eq_true, Bool.or_eq_true, decide_eq_true_eq, beq_iff_eq] at h3
    obtain ⟨⟨hb, hlt⟩, h4⟩ := h3
    have hle := hcl j ops[j] (by simp [hj]) hl e he hb
    rcases h4 with h4 | h4
    · rw [← h4]; exact hle
    · exact ih e.on i (by omega) (by omega) hi hle h4
structure FactsA (A : List Nat) (RelI : Nat → World → World → Prop) (Fact : Nat → Value → World → Prop) : Prop where
  mono : ∀ i j v w w', i ≠ j → (A.getD j 0).testBit i = false → Fact j v w → RelI i w w' → Fact j v w'
theorem wp_region_facts_a {P : Program} {id : Nat} {ops : List Oper} {Q : Exit → Act → World → Prop} {a0 : Act} {w0 : World} (hm : P.follows .mixedOrders = true) (n : Nat)
    (hac : (acyclicB ops && distinctB ops && tailT ops n && Region.seqB .any ops.toArray (ops.drop n).length n (headTail n (ops.length - n)) && decide (n ≤ ops.length)) = true)
    (Rel : World → World → Prop) (hr0 : Rel w0 w0.drew) (htr : ∀ a b c, Rel a b → Rel b c → Rel a c) (RelI : Nat → World → World → Prop) (hsub : ∀ i a b, RelI i a b → Rel a b) (Fact : Nat → Value → World → Prop) (A : List Nat) (hA : ancOkB ops A = true) (hF : FactsA A RelI Fact) (qw : Nat) (Inv : World → Prop) (hi0 : Inv w0.drew) (hinv : ∀ i a b, i ≠ qw → RelI i a b → Inv a → Inv b)
    (hstep : OblR P ops Q a0 w0 Rel RelI Fact qw Inv n (ops.take n) 0)
    (hend : ∀ (vs : List Value) (w : World), vs.length = ops.length → Rel w0 w → (∀ j, j < n → Fact j (vs.getD j undef) w) → wpList P ops.toArray Q (ops.drop n) (fillAll a0 ops vs) w) :
    (Code.region id ops.toArray true).wp P Q a0 w0 := by
  simp only [Bool.and_eq_true, decide_eq_true_eq] at hac
  obtain ⟨⟨⟨⟨hac, hdis⟩, htl⟩, hseq⟩, hn⟩ := hac
  refine wp_region_any hm ?_
  have key : ∀ (fuel : Nat) (listed : Array Bool) (vs : List Value) (w : World), listed.size = ops.length → vs.length = ops.length → unl listed.toList = fuel → (∀ t, n ≤ t → t < ops.length → listed.getD t true = false) →
      Rel w0 w → (∀ j, j < ops.length → listed.getD j true = true → Fact j (vs.getD j undef) w) → (∀ j o, ops[j]? = some o → listed.getD j true = true → ∀ e ∈ o.after, Region.binds .any e = true → listed.getD e.on true = true) → (∀ t, n ≤ t → vs.getD t undef = (origs a0 ops).getD t undef) → (listed.getD qw true = false → Inv w) → wpAny P .any ops.toArray Q fuel listed (fillAll a0 ops vs) w := by
    intro fuel
    induction fuel with
    | zero =>
      intro listed vs w hs hvl hu ht hb hI hcl hT hIV
      have hall : ∀ j, listed.getD j true = true := by
        intro j
        by_cases hj : j < listed.size
        · exact unl_zero hu (listed.getD j true) (by simp [hj])
        · simp [hj]
      have hno : n = ops.length := by
        rcases Nat.lt_or_ge n ops.length with h | h
        · have h1 := ht n (Nat.le_refl _) h; rw [hall n] at h1; cases h1
        · omega
      have hd : ops.drop n = [] := by rw [hno]; simp
      have := hend vs w hvl hb (fun j hj => hI j (by omega) (hall j))
      rw [hd] at this
      refine ⟨?_, this⟩
      unfold Region.ready
      rw [List.filter_eq_nil_iff]
      intro i hi
      simp [hall i]
    | succ fuel ih =>
      intro listed vs w hs hvl hu ht hb hI hcl hT hIV
      by_cases hpre : ∀ j, j < n → listed.getD j true = true
      · -- the head is done: the tail, in its one order
        have hL : listed = headTail n (ops.length - n) := by
          unfold headTail
          apply Array.ext
          · simp; omega
          · intro i h1 h2
            have e : listed[i] = listed.getD i true := by simp [h1]
            rw [e]
            by_cases hi : i < n
            · rw [hpre i hi]; simp [hi]
            · rw [ht i (by omega) (by omega)]; simp [List.getElem_append, hi]
        have hf : fuel + 1 = (ops.drop n).length := by
          rw [← hu, hL]; simp [headTail, unl]
        rw [hf]
        refine wpAny_of_seq (ops.drop n) n listed _ w (fun j => by simp [List.getElem?_drop]) (by rw [hL]; exact hseq) ?_
        exact hend vs w hvl hb (fun j hj => hI j (by omega) (hpre j hj))
      · constructor
        · intro hr
          exfalso
          obtain ⟨i, h1, h2⟩ := first_false listed.toList (by omega)
          have hi : i < listed.size := by
            have := (List.getElem?_eq_some_iff.1 h1).1; simpa using this
          have hio : i < ops.length := by omega
          have hmem : i ∈ Region.ready .any ops.toArray listed := by
            unfold Region.ready
            rw [List.mem_filter]
            refine ⟨by simp; omega, ?_⟩
            have hl : listed.getD i true = false := by simp [Array.getD_eq_getD_getElem?, ← Array.getElem?_toList, h1]
            rw [hl]
            have ho : ops.toArray[i]? = some ops[i] := by simp [hio]
            rw [ho]
            simp only [Option.map_some, Option.getD_some, Bool.not_false, Bool.true_and, Array.all_eq_true_iff_forall_mem]
            intro e he
            unfold acyclicB at hac
            have := List.all_eq_true.1 hac (ops[i], i) (by rw [List.mem_zipIdx_iff_getElem?]; simp [hio])
            have := (Array.all_eq_true_iff_forall_mem.1 this) e he
            simp only [Bool.or_eq_true, Bool.not_eq_true', decide_eq_true_eq] at this ⊢
            rcases this with h | h
            · exact Or.inl h
            · right
              have := h2 e.on h
              simp [Array.getD_eq_getD_getElem?, ← Array.getElem?_toList, this]
          rw [hr] at hmem
          cases hmem
        · intro i hi
          unfold Region.ready at hi
          rw [List.mem_filter] at hi
          obtain ⟨hir, hi⟩ := hi
          have hio : i < ops.length := by simpa using hir
          have hoA : ops.toArray[i]? = some ops[i] := by simp [hio]
          rw [hoA] at hi
          simp only [Option.map_some, Option.getD_some, Bool.and_eq_true, Bool.not_eq_true', Array.all_eq_true_iff_forall_mem] at hi
          obtain ⟨hl, hdep⟩ := hi
          have hdep' : ∀ e ∈ (ops[i]).after, Region.binds .any e = true → e.on < listed.size ∧ listed.getD e.on true = true := by
            intro e he hbd
            have := hdep e he
            rw [hbd] at this
            simp only [Bool.not_true, Bool.false_or] at this
            by_cases hb : e.on < listed.size
            · exact ⟨hb, by simpa [hb] using this⟩
            · simp [hb] at this
          have hin : i < n := by
            rcases Nat.lt_or_ge i n with h | h
            · exact h
            · exfalso
              apply hpre
              intro j hj
              unfold tailT at htl
              have := List.all_eq_true.1 htl (ops[i], i) (by rw [List.mem_zipIdx_iff_getElem?]; simp [hio])
              simp only [Bool.or_eq_true, decide_eq_true_eq] at this
              rcases this with h' | h'
              · omega
              · have := List.all_eq_true.1 h' j (by simp; omega)
                exact anc_listed hcl 8 i j ops[i] (by simp [hio]) (fun e he hbd => (hdep' e he hbd).2) this
          have ho : ops[i]? = some ops[i] := by simp [hio]
          have hot : (ops.take n)[i]? = some ops[i] := by rw [List.getElem?_take, if_pos hin]; exact ho
          have hl' : listed.toList[i]? = some false := by
            have hlt : i < listed.size := by omega
            have : listed.getD i true = listed[i] := by simp [hlt]
            rw [this] at hl
            rw [Array.getElem?_toList, Array.getElem?_eq_getElem hlt, hl]
          have hstep' := hstep.get hot
          rw [Nat.zero_add] at hstep'
          have H := hstep' vs w (fillAll a0 ops vs) hb (fun e he hbd => hI e.on (by have := (hdep' e he hbd).1; omega) (hdep' e he hbd).2) (fun t => eval_fill a0 t ops vs) hvl hT (fun e => hIV (by rw [← e]; exact hl))
          have hnext : ∀ (a' : Act) (w' : World), QOneR Q RelI Fact w i ops[i] (fillAll a0 ops vs) .normal a' w' → wpAny P .any ops.toArray Q fuel (listed.setIfInBounds i true) a' w' := by
            rintro a' w' ⟨v, rfl, hb', hv⟩
            rw [fillAll_set a0 ops vs i ops[i] v hdis ho (by omega)]
            refine ih _ (vs.set i v) w' (by simpa using hs) (by simpa using hvl) ?_ ?_ (htr _ _ _ hb (hsub _ _ _ hb')) ?_ ?_ ?_ (fun hq => by
              by_cases e : i = qw
              · subst e
                by_cases hlt : i < listed.size <;> simp [Array.getD_eq_getD_getElem?, hlt] at hq
              · rw [Array.getD_eq_getD_getElem?, Array.getElem?_setIfInBounds, if_neg e, ← Array.getD_eq_getD_getElem?] at hq
                exact hinv i _ _ e hb' (hIV hq))
            · have := unl_set listed.toList i hl'
              rw [Array.toList_setIfInBounds]; omega
            · intro t h1 h2
              rw [Array.getD_eq_getD_getElem?, Array.getElem?_setIfInBounds, if_neg (by omega), ← Array.getD_eq_getD_getElem?]
              exact ht t h1 h2
            · intro j hj hlj
              by_cases e : j = i
              · subst e
                rw [List.getD_eq_getElem?_getD, List.getElem?_set_self (by omega)]
                exact hv
              · rw [List.getD_eq_getElem?_getD, List.getElem?_set_ne (by omega), ← List.getD_eq_getElem?_getD]
                have hlj2 : listed.getD j true = true := by
                  rwa [Array.getD_eq_getD_getElem?, Array.getElem?_setIfInBounds, if_neg (by omega), ← Array.getD_eq_getD_getElem?] at hlj
                refine hF.mono i j _ w _ (fun e2 => e e2.symm) ?_ (hI j hj ?_) hb'
                · cases hq : (A.getD j 0).testBit i with
                  | false => rfl
                  | true => exact absurd (anc_listed2 hA hcl (j + 1) j i (Nat.lt_succ_self j) hj hio hlj2 hq) (by rw [hl]; decide)
                rwa [Array.getD_eq_getD_getElem?, Array.getElem?_setIfInBounds, if_neg (by omega), ← Array.getD_eq_getD_getElem?] at hlj
            · have up : ∀ q, listed.getD q true = true → (listed.setIfInBounds i true).getD q true = true := by
                intro q hq
                by_cases e : q = i
                · subst e
                  by_cases hlt : q < listed.size <;> simp [Array.getD_eq_getD_getElem?, hlt]
                · rwa [Array.getD_eq_getD_getElem?, Array.getElem?_setIfInBounds, if_neg (by omega), ← Array.getD_eq_getD_getElem?]
              intro j o hoj hlj e he hbd
              apply up
              by_cases hji : j = i
              · subst hji
                rw [ho] at hoj
                injection hoj with hoj
                subst hoj
                exact (hdep' e he hbd).2
              · rw [Array.getD_eq_getD_getElem?, Array.getElem?_setIfInBounds, if_neg (by omega), ← Array.getD_eq_getD_getElem?] at hlj
                exact hcl j o hoj hlj e he hbd
            · intro t h1
              rw [List.getD_eq_getElem?_getD, List.getElem?_set_ne (by omega), ← List.getD_eq_getElem?_getD]
              exact hT t h1
          unfold wpOp
          rw [hoA]
          simp only
          unfold wpList at H
          split
          · rename_i hw
            rw [if_pos hw] at H
            have conv : ∀ {K : Act → World → Prop}, (ops[i]).wp P (fillAll a0 ops vs) w K (QOneR Q RelI Fact w i ops[i] (fillAll a0 ops vs)) → (ops[i]).wp P (fillAll a0 ops vs) w K Q := by
              intro K hh
              unfold Oper.wp at *
              generalize (execOp (fillAll a0 ops vs).eval ops[i]).run P w = r at *
              cases r with
              | ok n w' =>
                cases n <;> simp only [Oper.upon] at hh ⊢ <;>
                  first
                    | exact hh
                    | (refine Calls.mono hh (fun e w'' he => ?_)
                       cases e with
                       | returned v => exact he
                       | panicked c => exact he
                       | outgrown =>
                         obtain ⟨a1, w1, hq⟩ := he
                         exact ⟨a1, w1, hq⟩)
              | halt x w' => cases x <;> simp only [Oper.upon] at hh ⊢ <;> exact hh
            rcases H with H | ⟨hasks, a1, w1, hq⟩
            · left
              refine conv (Oper.wp_mono (fun a w h => ?_) H)
              exact hnext _ _ h
            · right
              exact ⟨hasks, a1, w1, hq⟩
          · rename_i hw
            rw [if_neg hw] at H
            exact hnext _ _ H
  have hrep : unl (Array.replicate ops.toArray.size false).toList = ops.toArray.size := by
    simp [unl]
  have := key ops.toArray.size (Array.replicate ops.toArray.size false) (origs a0 ops) w0.drew (by simp) (by simp [origs]) hrep (fun t h1 h2 => by simp [h2]) hr0 (fun j hj h => by simp [hj] at h) (fun j o hoj h => by have := (List.getElem?_eq_some_iff.1 hoj).1; simp [this] at h) (fun t h => rfl) (fun _ => hi0)
  rwa [fillAll_origs] at this
end Go.Mem
