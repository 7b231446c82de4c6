/- Lemmas for the law TopSlotWorld: SlotL, SlotE, RegWide, SetIt, SetIt2, Collect, SlotI. No conditions. -/
import Derived.Test.YtpilpkbblkhnaaaM07
import Derived.Deep.DeepMust
import Derived.BigQuiet
import Derived.Test.YtpilpkbblkhnaaaM06
import Derived.OrdersIn
import Derived.RangeFuncCalls
import Derived.RangeFuncKeeps
import Derived.TacticsInMore
import Derived.RangeFuncNested
import Derived.RangeFuncBound
import Derived.RangeFuncLeaves
import Derived.RangeFuncBox
import Derived.Shelf.Abstract
import Derived.Shelf.RegionOpen
import Derived.OwnWalkIn
import Derived.LoopNIn
import Derived.LoopIn
import Derived.Test.YtpilpkbblkhnaaaM04
import Derived.Maps.AppendAt
import Derived.Test.YtpilpkbblkhnaaaM03
/- Slots: lists of entities; the room's List. -/
section
namespace Go.Slt
open Go.Mem
/-- The cells of entities. -/
def entC (E : List (Int × Int)) : List Value := E.flatMap fun x => [.int .i64 x.1, .int .i64 x.2]
theorem entC_get : ∀ (E : List (Int × Int)) (i : Nat), i < E.length → (entC E)[i * 2]? = some (.int .i64 (E.getD i (0, 0)).1) ∧ (entC E)[i * 2 + 1]? = some (.int .i64 (E.getD i (0, 0)).2)
  | x :: E, 0, _ => ⟨rfl, rfl⟩
  | x :: E, i + 1, h => by
    have h1 := entC_get E i (by simpa using h)
    have e : entC (x :: E) = [.int .i64 x.1, .int .i64 x.2] ++ entC E := rfl
    rw [e, List.getElem?_append_right (by simp; omega), List.getElem?_append_right (by simp; omega)]
    have e1 : (i + 1) * 2 - ([Value.int .i64 x.1, .int .i64 x.2] : List Value).length = i * 2 := by simp; omega
    have e2 : (i + 1) * 2 + 1 - ([Value.int .i64 x.1, .int .i64 x.2] : List Value).length = i * 2 + 1 := by simp; omega
    rw [e1, e2]
    exact h1
def EntsAt (w : World) (a : Option Addr) (E : List (Int × Int)) : Prop := 0 < E.length → ∃ x, a = some x ∧ x.block < w.heap.size ∧ ∀ i, i < E.length → w.cell? (x.add (i * 2)) = some (.int .i64 (E.getD i (0, 0)).1) ∧ w.cell? (x.add (i * 2 + 1)) = some (.int .i64 (E.getD i (0, 0)).2)
theorem EntsAt.below {w w' : World} {a : Option Addr} {E : List (Int × Int)} (h : EntsAt w a E) (hb : Go.RowKit.Below w.heap.size w w') : EntsAt w' a E := by
  intro hn
  obtain ⟨x, rfl, hx, hc⟩ := h hn
  exact ⟨x, rfl, Nat.lt_of_lt_of_le hx hb.size, fun i hi => ⟨(hb.cell (by rw [block_of_add]; exact hx)).trans (hc i hi).1, (hb.cell (by rw [block_of_add]; exact hx)).trans (hc i hi).2⟩⟩
theorem EntsAt.of_own {w : World} {base e n cap : Nat} {a : Option Addr} {E : List (Int × Int)} (h : w.ownsRow base e 2 (.slice a n cap) n (entC E)) (hn : n = E.length) : EntsAt w a E := by
  intro hz
  rcases a with _ | ad
  · obtain ⟨g, cap', hv, _⟩ := h.form (by omega)
    cases hv
  · obtain ⟨g, cap', hv, _, hlt⟩ := h.form (by omega)
    injection hv with hv
    injection hv with hv
    subst hv
    exact ⟨_, rfl, hlt, fun i hi => ⟨h.cells (g := g) rfl _ _ (entC_get E i hi).1, h.cells (g := g) rfl _ _ (entC_get E i hi).2⟩⟩
/-- The entities of the first k slots. -/
def entK (G : List Int) (B : List Bool) (k : Nat) : List (Int × Int) := ((List.range k).filter fun i => B.getD i false).map fun (i : Nat) => ((i : Int), G.getD i 0)
end Go.Slt
namespace Go.Proofs.Ytpilpkbblkhnaaa
open Go.ChangeShapes Go.WideShapes Go.ChangeAt Go.RowKit Go.Mem Go.Sp Go.Slt
set_option linter.unusedVariables false
variable {w w' : World} {D s r : Nat} {vg vu vf vb vh : Value} {G : List Int} {B : List Bool} {U F : List Nat}
def ListPost (E : List (Int × Int)) (w : World) (e : Ending) (w' : World) : Prop := ∃ a n c, E.length = n ∧ e = .returned (.slice a n c) ∧ EntsAt w' a E ∧ Below w.heap.size w w'

end Go.Proofs.Ytpilpkbblkhnaaa
end
/- Entities compared; slices.Equal of a list of entities with itself. -/
section
namespace Go.Proofs.Ytpilpkbblkhnaaa
open Go.ChangeShapes Go.WideShapes Go.ChangeAt Go.RowKit Go.Mem Go.Sp Go.Slt
set_option linter.unusedVariables false
theorem ent_same (a b c d : Int) (w : World) : (Op.equalIn 10000 30 (.agg #[.int .i64 a, .int .i64 b]) (.agg #[.int .i64 c, .int .i64 d])).run Try.prog w = .ok (decide (a = c) && decide (b = d)) w := by
  have u3 := Try.underlying3
  have a3 := Try.isAgg3
  have z3 := Try.sizeOf3
  rw [show (10000 : Nat) = 9999 + 1 from rfl, Op.equalIn]
  simp only [Sem.run_bind, run_underlying Try.underlying30, Result.andThen_ok]
  go_simp
  by_cases h1 : a = c
  · by_cases h2 : b = d
    · subst h1 h2; simp
    · simp [h1, h2]
  · simp [h1]
theorem ent_neq (a b c d : Int) (w : World) : (binOp .neq 30 (.agg #[.int .i64 a, .int .i64 b]) (.agg #[.int .i64 c, .int .i64 d])).run Try.prog w = .ok (.bool (!(decide (a = c) && decide (b = d)))) w := by
  have h := ent_same a b c d
  simp [binOp, Op.equal, Op.maxDepth, h]
theorem ent_guard (o : BinOp) (x y : Operand) (u v : Array Value) (w : World) : (eqGuard o 30 x y (.agg u) (.agg v)).run Try.prog w = .ok () w := by
  have h : Try.prog.eqGuardType Try.prog.depth 30 = false := by kernel_rfl
  cases o <;> simp [eqGuard, h]

end Go.Proofs.Ytpilpkbblkhnaaa
end
/- Drawn regions inside a round of a range over a function: what a plain walk shows holds in the wide fence too. By program from RegTail. -/
section
namespace Go.Mem
open Go.Proofs
set_option linter.unusedVariables false
theorem upon_wide {l n : Nat} {P : Program} {o : Oper} {a : Act} {K K' : Act → World → Prop} {Q : Exit → Act → World → Prop} (hK : ∀ a w, K a w → K' a w) :
    ∀ r : Result Next, o.upon P a K Q r → o.uponIn (Fence.wide.inRound l) n P a K' Q r := by
  intro r h
  rcases r with ⟨x, w⟩ | ⟨x, w⟩
  · cases x with
    | value v => exact hK _ _ h
    | skip => exact hK _ _ h
    | defer d => exact hK _ _ h
    | enter f args =>
      refine ⟨(fun h2 => by simp [Fence.wide, Fence.inRound] at h2), ?_⟩
      refine CallsIn.inRound l ((callsIn_wide (n := n - 1)).2 (Calls.mono h ?_))
      intro e w' h2
      cases e with
      | returned v => exact hK _ _ h2
      | panicked c => exact h2
      | outgrown => exact h2
    | row row args =>
      refine ⟨(fun h2 => by simp [Fence.wide, Fence.inRound] at h2), fun c cs _ => ?_⟩
      obtain ⟨v, w', r2, s⟩ := h c cs
      exact ⟨v, w', hK _ _ r2, stepsIn_wide.2 s⟩
    | _ => exact h.elim
  · cases x with
    | panic v => exact h
    | _ => exact h.elim
theorem wpOpIn_wide {l n : Nat} {P : Program} {ops : Array Oper} {Q : Exit → Act → World → Prop} {i : Nat} {K K' : Act → World → Prop} {a : Act} {w : World} (hno : ¬ LetsOut Q) (hd : ∀ o : Oper, ops[i]? = some o → ∀ c, o.op ≠ .defer c)
    (hK : ∀ a w, K a w → K' a w) (h : wpOp P ops Q i K a w) : wpOpIn (Fence.wide.inRound l) n P ops Q i K' a w := by
  unfold wpOp at h
  unfold wpOpIn
  cases ho : ops[i]? with
  | none => rw [ho] at h; exact hK _ _ h
  | some o =>
    rw [ho] at h
    simp only [] at h ⊢
    by_cases hw : Region.wanted o (yielded ops a.tmps) = true
    · rw [if_pos hw] at h ⊢
      rcases h with h | h
      · refine ⟨fun _ _ => trivial, ?_⟩
        show o.uponIn _ n P a K' Q ((o.semAt (some l) a.eval).run P w)
        rw [Oper.semAt_some l _ _ (hd o ho)]
        exact upon_wide hK _ h
      · exact (hno h.2).elim
    · rw [if_neg hw] at h ⊢
      exact ⟨fun _ _ => trivial, hK _ _ h⟩
theorem wpAnyIn_wide {l n : Nat} {P : Program} {md : Region.Mode} {ops : Array Oper} {Q : Exit → Act → World → Prop} (hno : ¬ LetsOut Q) (hd : ∀ (i : Nat) (o : Oper), ops[i]? = some o → ∀ c, o.op ≠ .defer c) :
    ∀ (fuel : Nat) (listed : Array Bool) (a : Act) (w : World), wpAny P md ops Q fuel listed a w → wpAnyIn (Fence.wide.inRound l) n P md ops Q fuel listed a w := by
  intro fuel
  induction fuel with
  | zero => exact fun _ _ _ h => h
  | succ fuel ih => exact fun listed a w h => ⟨h.1, fun i hi => wpOpIn_wide hno (hd i) (ih _) (h.2 i hi)⟩
theorem wpIn_region_wide {l n id : Nat} {P : Program} {ops : Array Oper} {Q : Exit → Act → World → Prop} {a : Act} {w : World} (hm : P.follows .mixedOrders = true) (hno : ¬ LetsOut Q) (hd : (ops.all fun o => match o.op with | .defer _ => false | _ => true) = true)
    (h : wpAny P .any ops Q ops.size (Array.replicate ops.size false) a { w with drawn := w.drawn + 1 }) : (Code.region id ops true).wpIn (Fence.wide.inRound l) n P Q a w := by
  refine wpIn_region_any hm (wpAnyIn_wide hno ?_ _ _ _ _ h)
  intro i o ho c hc
  have h1 := Array.all_eq_true_iff_forall_mem.1 hd o (Array.mem_of_getElem? ho)
  rw [hc] at h1
  cases h1
theorem any_facts_t {P : Program} {ops : List Oper} {Q : Exit → Act → World → Prop} {a0 : Act} {w0 : World} (n : Nat)
    (hac : (acyclicB ops && distinctB ops && tailT ops n && Region.seqB .any ops.toArray (ops.drop n).length n (headTail n (ops.length - n)) && decide (n ≤ ops.length)) = true)
    (Fact : Nat → Value → World → Prop) (hF : Facts Fact)
    (hstep : OblT P ops Q a0 w0 Fact n (ops.take n) 0)
    (hend : ∀ (vs : List Value) (w : World), vs.length = ops.length → RowKit.Below w0.heap.size w0 w → (∀ j, j < n → Fact j (vs.getD j undef) w) → wpList P ops.toArray Q (ops.drop n) (fillAll a0 ops vs) w) :
    wpAny P .any ops.toArray Q ops.toArray.size (Array.replicate ops.toArray.size false) a0 { w0 with drawn := w0.drawn + 1 } := by
  simp only [Bool.and_eq_true, decide_eq_true_eq] at hac
  obtain ⟨⟨⟨⟨hac, hdis⟩, htl⟩, hseq⟩, hn⟩ := hac
  have key : ∀ (fuel : Nat) (listed : Array Bool) (vs : List Value) (w : World), listed.size = ops.length → vs.length = ops.length → unl listed.toList = fuel → (∀ t, n ≤ t → t < ops.length → listed.getD t true = false) →
      RowKit.Below w0.heap.size w0 w → (∀ j, j < ops.length → listed.getD j true = true → Fact j (vs.getD j undef) w) → (∀ j o, ops[j]? = some o → listed.getD j true = true → ∀ e ∈ o.after, Region.binds .any e = true → listed.getD e.on true = true) → (∀ t, n ≤ t → vs.getD t undef = (origs a0 ops).getD t undef) → wpAny P .any ops.toArray Q fuel listed (fillAll a0 ops vs) w := by
    intro fuel
    induction fuel with
    | zero =>
      intro listed vs w hs hvl hu ht hb hI hcl hT
      have hall : ∀ j, listed.getD j true = true := by
        intro j
        by_cases hj : j < listed.size
        · exact unl_zero hu (listed.getD j true) (by simp [hj])
        · simp [hj]
      have hno : n = ops.length := by
        rcases Nat.lt_or_ge n ops.length with h | h
        · have h1 := ht n (Nat.le_refl _) h; rw [hall n] at h1; cases h1
        · omega
      have hd : ops.drop n = [] := by rw [hno]; simp
      have := hend vs w hvl hb (fun j hj => hI j (by omega) (hall j))
      rw [hd] at this
      refine ⟨?_, this⟩
      unfold Region.ready
      rw [List.filter_eq_nil_iff]
      intro i hi
      simp [hall i]
    | succ fuel ih =>
      intro listed vs w hs hvl hu ht hb hI hcl hT
      by_cases hpre : ∀ j, j < n → listed.getD j true = true
      · -- the head is done: the tail, in its one order
        have hL : listed = headTail n (ops.length - n) := by
          unfold headTail
          apply Array.ext
          · simp; omega
          · intro i h1 h2
            have e : listed[i] = listed.getD i true := by simp [h1]
            rw [e]
            by_cases hi : i < n
            · rw [hpre i hi]; simp [hi]
            · rw [ht i (by omega) (by omega)]; simp [List.getElem_append, hi]
        have hf : fuel + 1 = (ops.drop n).length := by
          rw [← hu, hL]; simp [headTail, unl]
        rw [hf]
        refine wpAny_of_seq (ops.drop n) n listed _ w (fun j => by simp [List.getElem?_drop]) (by rw [hL]; exact hseq) ?_
        exact hend vs w hvl hb (fun j hj => hI j (by omega) (hpre j hj))
      · constructor
        · intro hr
          exfalso
          obtain ⟨i, h1, h2⟩ := first_false listed.toList (by omega)
          have hi : i < listed.size := by
            have := (List.getElem?_eq_some_iff.1 h1).1; simpa using this
          have hio : i < ops.length := by omega
          have hmem : i ∈ Region.ready .any ops.toArray listed := by
            unfold Region.ready
            rw [List.mem_filter]
            refine ⟨by simp; omega, ?_⟩
            have hl : listed.getD i true = false := by simp [Array.getD_eq_getD_getElem?, ← Array.getElem?_toList, h1]
            rw [hl]
            have ho : ops.toArray[i]? = some ops[i] := by simp [hio]
            rw [ho]
            simp only [Option.map_some, Option.getD_some, Bool.not_false, Bool.true_and, Array.all_eq_true_iff_forall_mem]
            intro e he
            unfold acyclicB at hac
            have := List.all_eq_true.1 hac (ops[i], i) (by rw [List.mem_zipIdx_iff_getElem?]; simp [hio])
            have := (Array.all_eq_true_iff_forall_mem.1 this) e he
            simp only [Bool.or_eq_true, Bool.not_eq_true', decide_eq_true_eq] at this ⊢
            rcases this with h | h
            · exact Or.inl h
            · right
              have := h2 e.on h
              simp [Array.getD_eq_getD_getElem?, ← Array.getElem?_toList, this]
          rw [hr] at hmem
          cases hmem
        · intro i hi
          unfold Region.ready at hi
          rw [List.mem_filter] at hi
          obtain ⟨hir, hi⟩ := hi
          have hio : i < ops.length := by simpa using hir
          have hoA : ops.toArray[i]? = some ops[i] := by simp [hio]
          rw [hoA] at hi
          simp only [Option.map_some, Option.getD_some, Bool.and_eq_true, Bool.not_eq_true', Array.all_eq_true_iff_forall_mem] at hi
          obtain ⟨hl, hdep⟩ := hi
          have hdep' : ∀ e ∈ (ops[i]).after, Region.binds .any e = true → e.on < listed.size ∧ listed.getD e.on true = true := by
            intro e he hbd
            have := hdep e he
            rw [hbd] at this
            simp only [Bool.not_true, Bool.false_or] at this
            by_cases hb : e.on < listed.size
            · exact ⟨hb, by simpa [hb] using this⟩
            · simp [hb] at this
          have hin : i < n := by
            rcases Nat.lt_or_ge i n with h | h
            · exact h
            · exfalso
              apply hpre
              intro j hj
              unfold tailT at htl
              have := List.all_eq_true.1 htl (ops[i], i) (by rw [List.mem_zipIdx_iff_getElem?]; simp [hio])
              simp only [Bool.or_eq_true, decide_eq_true_eq] at this
              rcases this with h' | h'
              · omega
              · have := List.all_eq_true.1 h' j (by simp; omega)
                exact anc_listed hcl 8 i j ops[i] (by simp [hio]) (fun e he hbd => (hdep' e he hbd).2) this
          have ho : ops[i]? = some ops[i] := by simp [hio]
          have hot : (ops.take n)[i]? = some ops[i] := by rw [List.getElem?_take, if_pos hin]; exact ho
          have hl' : listed.toList[i]? = some false := by
            have hlt : i < listed.size := by omega
            have : listed.getD i true = listed[i] := by simp [hlt]
            rw [this] at hl
            rw [Array.getElem?_toList, Array.getElem?_eq_getElem hlt, hl]
          have hstep' := hstep.get hot
          rw [Nat.zero_add] at hstep'
          have H := hstep' vs w (fillAll a0 ops vs) hb (fun e he hbd => hI e.on (by have := (hdep' e he hbd).1; omega) (hdep' e he hbd).2) (fun t => eval_fill a0 t ops vs) hvl hT
          have hnext : ∀ (a' : Act) (w' : World), QOne Q Fact w i ops[i] (fillAll a0 ops vs) .normal a' w' → wpAny P .any ops.toArray Q fuel (listed.setIfInBounds i true) a' w' := by
            rintro a' w' ⟨v, rfl, hb', hv⟩
            rw [fillAll_set a0 ops vs i ops[i] v hdis ho (by omega)]
            refine ih _ (vs.set i v) w' (by simpa using hs) (by simpa using hvl) ?_ ?_ (hb.trans (hb'.mono hb.size)) ?_ ?_ ?_
            · have := unl_set listed.toList i hl'
              rw [Array.toList_setIfInBounds]; omega
            · intro t h1 h2
              rw [Array.getD_eq_getD_getElem?, Array.getElem?_setIfInBounds, if_neg (by omega), ← Array.getD_eq_getD_getElem?]
              exact ht t h1 h2
            · intro j hj hlj
              by_cases e : j = i
              · subst e
                rw [List.getD_eq_getElem?_getD, List.getElem?_set_self (by omega)]
                exact hv
              · rw [List.getD_eq_getElem?_getD, List.getElem?_set_ne (by omega), ← List.getD_eq_getElem?_getD]
                refine hF.mono _ _ _ _ (hI j hj ?_) hb'
                rwa [Array.getD_eq_getD_getElem?, Array.getElem?_setIfInBounds, if_neg (by omega), ← Array.getD_eq_getD_getElem?] at hlj
            · have up : ∀ q, listed.getD q true = true → (listed.setIfInBounds i true).getD q true = true := by
                intro q hq
                by_cases e : q = i
                · subst e
                  by_cases hlt : q < listed.size <;> simp [Array.getD_eq_getD_getElem?, hlt]
                · rwa [Array.getD_eq_getD_getElem?, Array.getElem?_setIfInBounds, if_neg (by omega), ← Array.getD_eq_getD_getElem?]
              intro j o hoj hlj e he hbd
              apply up
              by_cases hji : j = i
              · subst hji
                rw [ho] at hoj
                injection hoj with hoj
                subst hoj
                exact (hdep' e he hbd).2
              · rw [Array.getD_eq_getD_getElem?, Array.getElem?_setIfInBounds, if_neg (by omega), ← Array.getD_eq_getD_getElem?] at hlj
                exact hcl j o hoj hlj e he hbd
            · intro t h1
              rw [List.getD_eq_getElem?_getD, List.getElem?_set_ne (by omega), ← List.getD_eq_getElem?_getD]
              exact hT t h1
          unfold wpOp
          rw [hoA]
          simp only
          unfold wpList at H
          split
          · rename_i hw
            rw [if_pos hw] at H
            have conv : ∀ {K : Act → World → Prop}, (ops[i]).wp P (fillAll a0 ops vs) w K (QOne Q Fact w i ops[i] (fillAll a0 ops vs)) → (ops[i]).wp P (fillAll a0 ops vs) w K Q := by
              intro K hh
              unfold Oper.wp at *
              generalize (execOp (fillAll a0 ops vs).eval ops[i]).run P w = r at *
              cases r with
              | ok n w' =>
                cases n <;> simp only [Oper.upon] at hh ⊢ <;>
                  first
                    | exact hh
                    | (refine Calls.mono hh (fun e w'' he => ?_)
                       cases e with
                       | returned v => exact he
                       | panicked c => exact he
                       | outgrown =>
                         obtain ⟨a1, w1, hq⟩ := he
                         exact ⟨a1, w1, hq⟩)
              | halt x w' => cases x <;> simp only [Oper.upon] at hh ⊢ <;> exact hh
            rcases H with H | ⟨hasks, a1, w1, hq⟩
            · left
              refine conv (Oper.wp_mono (fun a w h => ?_) H)
              exact hnext _ _ h
            · right
              exact ⟨hasks, a1, w1, hq⟩
          · rename_i hw
            rw [if_neg hw] at H
            exact hnext _ _ H
  have hrep : unl (Array.replicate ops.toArray.size false).toList = ops.toArray.size := by
    simp [unl]
  have := key ops.toArray.size (Array.replicate ops.toArray.size false) (origs a0 ops) w0.drew (by simp) (by simp [origs]) hrep (fun t h1 h2 => by simp [h2]) (RowKit.Below.refl _ _).drew (fun j hj h => by simp [hj] at h) (fun j o hoj h => by have := (List.getElem?_eq_some_iff.1 hoj).1; simp [this] at h) (fun t h => rfl)
  rwa [fillAll_origs] at this
end Go.Mem
end
/- Package sets: All, its iterator, Len. -/
section
namespace Go.Proofs.Ytpilpkbblkhnaaa
open Go.ChangeShapes Go.WideShapes Go.ChangeAt Go.RowKit Go.Mem Go.Sp
set_option linter.unusedVariables false
attribute [local go_sem] Oper.semAt_some

/-- The blocks from lo up to hi are kept. -/
def KeepB (lo hi : Nat) (w w2 : World) : Prop := w.heap.size ≤ w2.heap.size ∧ ∀ k, lo ≤ k → k < hi → w2.heap[k]? = w.heap[k]?
theorem KeepB.refl (lo hi : Nat) (w : World) : KeepB lo hi w w := ⟨Nat.le_refl _, fun _ _ _ => rfl⟩
theorem KeepB.trans {lo hi : Nat} {a b c : World} (h : KeepB lo hi a b) (h2 : KeepB lo hi b c) : KeepB lo hi a c := ⟨Nat.le_trans h.1 h2.1, fun k k1 k2 => (h2.2 k k1 k2).trans (h.2 k k1 k2)⟩
theorem KeepB.of_below {lo hi n : Nat} {a b : World} (h : Below n a b) (hn : hi ≤ n) : KeepB lo hi a b := ⟨h.size, fun k _ k2 => h.block k (by omega)⟩
theorem KeepB.set {lo hi : Nat} (w : World) {p : Addr} (hp : p.block < lo ∨ hi ≤ p.block) (v : Value) : KeepB lo hi w (w.setCell p v) := ⟨by simp, fun k k1 k2 => Below.heap_setCell w p v k (by omega)⟩
theorem KeepB.put {lo hi : Nat} {w : World} (hn : hi ≤ w.heap.size) (W : World) (l : Nat) (o o' : Obj) (hl : w.heap.size ≤ l) (h : W.heap[l]? = some o) (_ : o.isCells = false) (_ : o.isWalk = false) : KeepB lo hi W (W.putObj l o') := by
  have hb := belowK_b (n₀ := w.heap.size) (w := w) (Nat.le_refl _) W l o o' hl h ‹_› ‹_›
  exact .of_below hb hn
theorem SetAt.keep {lo hi : Nat} {w w2 : World} {a : Option Addr} {A : List Nat} (h : SetAt w a A) (ha : ∀ x, a = some x → lo ≤ x.block ∧ x.block < hi) (hb : KeepB lo hi w w2) : SetAt w2 a A := by
  intro hn
  obtain ⟨x, rfl, hx, hc⟩ := h hn
  obtain ⟨h1, h2⟩ := ha x rfl
  exact ⟨x, rfl, Nat.lt_of_lt_of_le hx hb.1, fun i hi => (cell_same (w := w) (w2 := w2) (p := x.add i) (by rw [block_of_add]; exact hb.2 _ h1 h2)).trans (hc i hi)⟩
theorem bit_at {A : List Nat} {k i : Nat} (hk : k < 64) (hi : i < 64) : bit A (64 * k + i) = (A.getD k 0).testBit i := by
  unfold bit wd
  rw [show (64 * k + i) / 64 = k by omega, show (64 * k + i) % 64 = i by omega, if_pos hk]
theorem upto_rest {A : List Nat} {k i : Nat} (hk : k < 64) (hi : i ≤ 64) (h : (A.getD k 0) / 2 ^ i = 0) : upto A (64 * (k + 1)) = upto A (64 * k + i) := by
  refine upto_to (by omega) fun j h1 h2 => ?_
  obtain ⟨d, rfl⟩ : ∃ d, j = 64 * k + d := ⟨j - 64 * k, by omega⟩
  rw [bit_at hk (by omega)]
  have hx : A.getD k 0 < 2 ^ i := by
    rcases Nat.div_eq_zero_iff.1 h with h | h
    · have := Nat.two_pow_pos i; omega
    · exact h
  exact Nat.testBit_lt_two_pow (Nat.lt_of_lt_of_le hx (Nat.pow_le_pow_right (by omega) (by omega)))
theorem upto_pre {A : List Nat} {m : Nat} (h : m ≤ 4096) : upto A m <+: els A := by
  have : ∀ d, upto A m <+: upto A (m + d) := by
    intro d
    induction d with
    | zero => exact List.prefix_refl _
    | succ d ih =>
      rw [← Nat.add_assoc, upto_succ]
      exact ih.trans (List.prefix_append _ _)
  have h2 := this (4096 - m)
  rwa [show m + (4096 - m) = 4096 by omega] at h2

theorem join_nil_els {A : List Nat} (h : Words A) : els (joinN (fun x _ => x) A []) = els A := by
  unfold els upto
  exact List.filter_congr fun i _ => bit_join bw_fst h canon_nil.2.1 i
set_option maxHeartbeats 2000000 in
/-- s.All(): a closure over a box that holds the set, its words beyond the 64th and its last zeros struck. -/
theorem sets_All (A : List Nat) (a : Option Addr) (n c : Nat) (hn : A.length = n) (h1 : n ≤ 17592186044416) (hw : Words A) (W : World) (hz : SetAt W a A) :
    Calls Try.prog 26 #[.slice a n c] W fun e w' => e = .returned (.func (.func 50) #[] #[.pointer (some ⟨W.heap.size, 0, none⟩)]) ∧ (∃ r m cr, (joinN (fun x _ => x) A []).length = m ∧ w'.cell? ⟨W.heap.size, 0, none⟩ = some (.slice r m cr) ∧ SetAt w' r (joinN (fun x _ => x) A []) ∧ (∀ x, r = some x → W.heap.size ≤ x.block ∧ x.block < w'.heap.size)) ∧ W.heap.size < w'.heap.size ∧ Below W.heap.size W w' := by
  have hb0 : Below W.heap.size W (W.alloc (.cells #[.slice a n c] 72)) := (Below.refl _ _).alloc (Nat.le_refl _) _
  have HJ := Lib.hid (sets_join _ _ _ en_fst op_fst bw_fst A [] a none n 0 c 0 hn rfl h1 (by omega) hw canon_nil.2.1 _ (hz.below hb0) (SetAt.nil _ none))
  have HB0 := Lib.hid hb0
  have HR0 := Lib.hid (heap_alloc_new W (.cells #[.slice a n c] 72))
  clear hn hz hb0 hw
  go_enter Try.func26, Try.ntmps26
  go_wp2_with fail
  refine HJ.out.mono ?_
  rintro e w1 ⟨r, cr, rfl, h2, h3, h4, _⟩
  have H4 := Lib.hid h4
  have hr1 := heap_below HR0.out h3
  have hc1 := cell_of_row _ _ 0 _ _ _ hr1
  have hf1 := Mem.frozen_of_row hr1 0
  have HR1 := Lib.hid hr1
  have H2 := Lib.hid h2
  have HB := Lib.hid (bt HB0.out h3)
  obtain ⟨m, hm⟩ : ∃ m, m = (joinN (fun x _ => x) A []).length := ⟨_, rfl⟩
  rw [← hm]
  have HM := Lib.hid hm
  clear h2 h3 h4 hr1 hm HJ HB0 HR0
  go_wp2_with fail
  go_ret
  have hlt := lt_of_heap HR1.out
  have hs : ∀ k, k ≠ W.heap.size → (w1.setCell ⟨W.heap.size, 0, none⟩ (.slice r m cr)).heap[k]? = w1.heap[k]? := fun k hk => Below.heap_setCell w1 ⟨W.heap.size, 0, none⟩ _ k hk
  refine ⟨rfl, ?_, by rw [World.size_setCell]; exact hlt, HB.out.setCell (p := ⟨W.heap.size, 0, none⟩) (Nat.le_refl _) _⟩
  refine ⟨r, m, cr, HM.out.symm, ?_, ?_, fun x hx => by rw [World.size_setCell]; have := (H4.out x hx).1; rw [World.size_alloc] at this; exact ⟨by omega, (H4.out x hx).2⟩⟩
  · have h := Mem.heap_set HR1.out 0 (.slice r m cr)
    exact cell_of_row _ _ 0 _ _ _ h
  · intro hn0
    obtain ⟨x, rfl, hx, hc⟩ := H2.out hn0
    refine ⟨x, rfl, by rw [World.size_setCell]; exact hx, fun i hi => ?_⟩
    have hne : x.block ≠ W.heap.size := by have := (H4.out x rfl).1; rw [World.size_alloc] at this; omega
    exact (cell_same (w := w1) (p := x.add i) (by rw [block_of_add]; exact hs _ hne)).trans (hc i hi)
end Go.Proofs.Ytpilpkbblkhnaaa
end
/- Package sets: All's iterator, its elements known to be the set's. By program from SetIt. -/
section
namespace Go.Proofs.Ytpilpkbblkhnaaa
open Go.ChangeShapes Go.WideShapes Go.ChangeAt Go.RowKit Go.Mem Go.Sp
set_option linter.unusedVariables false
attribute [local go_sem] Oper.semAt_some

set_option maxRecDepth 100000 in
set_option maxHeartbeats 4000000 in
theorem all2_inB (n : Nat) (hn : 1 ≤ n) (l Bs lo hi : Nat) (r : Option Addr) (m c : Nat) (A : List Nat) (hm : A.length = m) (h64 : m ≤ 64) (hw : Words A) (J Jx : List Nat → World → Prop)
    (hY : ∀ (pre : List Nat) (x : Nat) (W : World), J pre W → pre.length < 4096 → bit A x = true → YieldAt Fence.wide (n - 1) Try.prog l #[.int .i64 (x : Int)] W fun e W' => (e = .returned (.bool true) ∧ J (pre ++ [x]) W' ∧ KeepB lo hi W W') ∨ (e = .returned (.bool false) ∧ Jx (pre ++ [x]) W'))
    (W : World) (hBs : W.cell? ⟨Bs, 0, none⟩ = some (.slice r m c)) (hr : ∀ x, r = some x → lo ≤ x.block ∧ x.block < hi) (hz : SetAt W r A) (h0 : J [] W) :
    CallsIn Fence.wide n Try.prog 50 #[.func (.yield l) #[] #[], .pointer (some ⟨Bs, 0, none⟩)] W fun e W' => (∃ v, e = .returned v) ∧ ((∃ ys, ys = els A ∧ J ys W') ∨ (∃ pre, pre <+: els A ∧ Jx pre W')) := by
  have HM := Lib.hid hm
  have HW := Lib.hid hw
  have HR := Lib.hid hr
  have HZ := Lib.hid hz
  clear hm hw hr hz
  refine callsIn_of_wp Try.func50 rfl trivial ?_ rfl
  simp only [Try.ntmps50, List.size_toArray, List.length_cons, List.length_nil, Nat.reduceAdd, Nat.reduceSub, Array.replicate_succ, Array.replicate_zero, List.push_toArray, List.append_toArray, List.nil_append, List.cons_append]
  gi_wp2
  gi_loopw [3, 4, 5, 8] (fun v3 v4 v5 vi wr => ∃ k : Nat, k ≤ m ∧ vi = .int .i64 k ∧ J (upto A (64 * k)) wr ∧ KeepB lo hi W wr)
    (fun _ _ _ vi _ => m - (intOf vi).toNat)
  case atStart => exact ⟨0, Nat.zero_le _, rfl, h0, KeepB.refl _ _ _⟩
  case round =>
    obtain ⟨k, hk, rfl, hJ, hB⟩ := hrel
    by_cases hlt : k < m
    · obtain ⟨x, rfl, hx, hc⟩ := (HZ.out.keep HR.out hB).read (k := k) (by rw [HM.out]; exact hlt)
      obtain ⟨X, hX⟩ : ∃ X, X = A.getD k 0 := ⟨_, rfl⟩
      rw [← hX] at hc
      have hX64 : X < 18446744073709551616 := by rw [hX]; exact HW.out.getD k
      have HX := Lib.hid hX
      have k0 : (0 : Int) ≤ (k : Int) := by omega
      have k1 : (k : Int) < (m : Int) := by omega
      have hk64 : k < 64 := by omega
      clear hX
      gi_wp2
      obtain ⟨wo, rfl⟩ : ∃ wo : World, wo = wr := ⟨_, rfl⟩
      gi_loopw [4, 5] (fun v4 v5 wr => ∃ i Y : Nat, i ≤ 64 ∧ v5 = .int .i64 i ∧ v4 = .int .u64 Y ∧ Y = X / 2 ^ i ∧ J (upto A (64 * k + i)) wr ∧ KeepB lo hi W wr)
        (fun _ v5 _ => 64 - (intOf v5).toNat)
      case atStart => exact ⟨0, X, by omega, rfl, rfl, by simp, hJ, hB⟩
      case round =>
        obtain ⟨i, Y, hi, rfl, rfl, hYX, hJ2, hB2⟩ := hrel
        have HYX := Lib.hid hYX
        have hY64 : Y < 18446744073709551616 := by rw [hYX]; exact Nat.lt_of_le_of_lt (Nat.div_le_self _ _) hX64
        by_cases hy0 : Y = 0
        · subst hy0
          have HU := Lib.hid (upto_rest (A := A) hk64 hi (by rw [← HX.out]; exact hYX.symm))
          clear hYX
          have hB3 := Lib.hid hB2
          gi_wp2
          go_roundw
          case rel => exact ⟨k + 1, hlt, by go_num, by rw [HU.out]; exact hJ2, hB3.out⟩
          case measure => simp [intOf]; omega
        · have hi64 : i < 64 := by
            rcases Nat.lt_or_ge i 64 with h | h
            · exact h
            · exfalso
              have h2 := two64 h
              rw [hYX] at hy0
              exact hy0 (Nat.div_eq_of_lt (by omega))
          have ht0 : ((Y : Int) != 0) = true := by simp; omega
          have hbit := bit_at (A := A) hk64 hi64
          rw [← HX.out] at hbit
          have hand := W64.bits_and_u64 Y 1 hY64 (by omega)
          rw [Nat.and_one_is_mod, hYX, bit_num, ← hYX, ← hbit] at hand
          have HY2 := Lib.hid (show Y / 2 = X / 2 ^ (i + 1) by rw [hYX, Nat.div_div_eq_div_mul, Nat.pow_succ])
          obtain ⟨N, hN⟩ : ∃ N, N = 64 * k + i := ⟨_, rfl⟩
          obtain ⟨K6, hK6⟩ : ∃ K6, K6 = 64 * k := ⟨_, rfl⟩
          have e1 : 64 * (k : Int) = (K6 : Int) := by omega
          have e2 : (K6 : Int) + (i : Int) = (N : Int) := by omega
          have hN4 : N < 4096 := by omega
          rw [← hN] at hJ2 hbit hand
          have HN := Lib.hid hN
          have HNL := Lib.hid (upto_length A N (by omega))
          have e3 : (Y : Int) / 2 = ((Y / 2 : Nat) : Int) := by simp
          obtain ⟨Z, hZ⟩ : ∃ Z, Z = Y / 2 := ⟨_, rfl⟩
          rw [← hZ] at e3
          have HY3 := Lib.hid (show Z = X / 2 ^ (i + 1) by rw [hZ]; exact HY2.out)
          clear hYX hy0 hN hK6 hZ HY2
          cases hbb : bit A N with
          | false =>
            rw [hbb] at hand
            have hand2 : bits .and .u64 (Y : Int) 1 = 0 := hand
            have HU := Lib.hid (show upto A (64 * k + (i + 1)) = upto A N by rw [← Nat.add_assoc, ← HN.out, upto_succ, hbb]; simp)
            clear hand hbb hbit
            gi_wp2
            refine ⟨fun _ h => (by cases h), ?_⟩
            gi_wp2
            go_roundw
            case rel => exact ⟨i + 1, Z, hi64, by go_num, rfl, HY3.out, by rw [HU.out]; exact hJ2, hB2⟩
            case measure => simp [intOf]; omega
          | true =>
            rw [hbb] at hand
            have hand2 : bits .and .u64 (Y : Int) 1 = 1 := hand
            have HU := Lib.hid (show upto A (64 * k + (i + 1)) = upto A N ++ [N] by rw [← Nat.add_assoc, ← HN.out, upto_succ, hbb]; simp)
            obtain ⟨fn, tmps, assign, body, hy, hR⟩ := hY _ N wr hJ2 (Nat.lt_of_le_of_lt HNL.out hN4) hbb
            clear hand hbb hbit
            gi_wp2
            refine hR.mono ?_
            rintro e W3 (⟨rfl, hJ3, hk3⟩ | ⟨rfl, hJx3⟩)
            · rw [← HU.out] at hJ3
              gi_wp2
              go_roundw
              case rel => exact ⟨i + 1, Z, hi64, by go_num, rfl, HY3.out, hJ3, hB2.trans hk3⟩
              case measure => simp [intOf]; omega
            · gi_wp2
              refine bodyPost_ret (results_none rfl _ _ _) rfl ?_
              exact ⟨⟨_, rfl⟩, .inr ⟨_, by rw [← HU.out]; exact upto_pre (by omega), hJx3⟩⟩
    · obtain rfl : k = m := by omega
      have HU := Lib.hid (upto_end A (64 * k) (by omega) (by rw [HM.out]; omega))
      rw [HU.out] at hJ
      gi_wp2
      go_end0
      exact ⟨⟨_, rfl⟩, .inl ⟨_, rfl, hJ⟩⟩

/-- An element of a set. -/
abbrev El (A : List Nat) := {x : Nat // bit A x = true}
theorem all_stopsB (n : Nat) (hn : 1 ≤ n) (Bs lo hi : Nat) (r : Option Addr) (m c : Nat) (A : List Nat) (hm : A.length = m) (h64 : m ≤ 64) (hw : Words A) (w : World) (hBs : Bs < w.heap.size) 
    (hc : w.cell? ⟨Bs, 0, none⟩ = some (.slice r m c)) (hr : ∀ x, r = some x → lo ≤ x.block ∧ x.block < hi) (hz : SetAt w r A) :
    SeqStopsK Fence.wide n Try.prog 50 #[.pointer (some ⟨Bs, 0, none⟩)] (fun x : El A => #[Value.int .i64 (x.1 : Int)]) (KeepB lo hi) (fun ys => ys.map (·.1) = els A) (fun pre => pre.map (·.1) <+: els A) 4096 w := fun l J Jx W hW _ _ hY h0 =>
  (all2_inB n hn l Bs lo hi r m c A hm h64 hw (fun L W => ∃ l' : List (El A), l'.map (·.1) = L ∧ J l' W) (fun L W => ∃ l' : List (El A), l'.map (·.1) = L ∧ Jx l' W) (by
    rintro pre x W ⟨l', rfl, hJ⟩ hlt hb
    obtain ⟨fn, tmps, assign, body, hy, hR⟩ := hY l' ⟨x, hb⟩ W hJ (by rw [List.length_map] at hlt; exact hlt)
    refine ⟨fn, tmps, assign, body, hy, hR.mono ?_⟩
    rintro e W' (⟨rfl, h1, h2⟩ | ⟨rfl, h1⟩)
    · exact .inl ⟨rfl, ⟨_, by rw [List.map_append]; rfl, h1⟩, h2⟩
    · exact .inr ⟨rfl, _, by rw [List.map_append]; rfl, h1⟩) W ((hW.cell (p := ⟨Bs, 0, none⟩) hBs).trans hc) hr (hz.below hW) ⟨[], rfl, h0⟩).mono (by
    rintro e W' ⟨h1, ⟨ys, hys, l', h2, h3⟩ | ⟨pre, h2, l', hl, h3⟩⟩
    · exact ⟨h1, .inl ⟨l', h2.trans hys, h3⟩⟩
    · exact ⟨h1, .inr ⟨l', by show l'.map (·.1) <+: els A; rw [hl]; exact h2, h3⟩⟩)
end Go.Proofs.Ytpilpkbblkhnaaa
end
/- A loop over an iterator whose round appends to a slice in a box. No program is named here. -/
section
namespace Go
open Go.RowKit
namespace Mem
end Mem
end Go
end
/- Slots: List by the iterator. By program (gen_slots2.py). -/
section
namespace Go.Proofs.Ytpilpkbblkhnaaa
open Go.ChangeShapes Go.WideShapes Go.ChangeAt Go.RowKit Go.Mem Go.Sp Go.Slt
set_option linter.unusedVariables false
attribute [local go_sem] Oper.semAt_some
variable {w w' : World} {D s r : Nat} {vg vu vf vb vh : Value} {G : List Int} {B : List Bool} {U F : List Nat}
/-- The entities in the slots of a list. -/
def entL (G : List Int) (L : List Nat) : List (Int × Int) := L.map fun (i : Nat) => ((i : Int), G.getD i 0)
theorem entL_snoc (G : List Int) (L : List Nat) (n : Nat) : entL G (L ++ [n]) = entL G L ++ [((n : Int), G.getD n 0)] := by simp [entL]
theorem entL_live (G : List Int) (B : List Bool) : entL G (live B) = entK G B B.length := rfl
theorem list13 {α : Type} {vs : List α} (h : vs.length = 13) : ∃ x0 x1 x2 x3 x4 x5 x6 x7 x8 x9 x10 x11 x12, vs = [x0, x1, x2, x3, x4, x5, x6, x7, x8, x9, x10, x11, x12] := by
  obtain ⟨x0, t0, rfl, h0⟩ := cons_of h
  obtain ⟨x1, t1, rfl, h1⟩ := cons_of h0
  obtain ⟨x2, t2, rfl, h2⟩ := cons_of h1
  obtain ⟨x3, t3, rfl, h3⟩ := cons_of h2
  obtain ⟨x4, t4, rfl, h4⟩ := cons_of h3
  obtain ⟨x5, t5, rfl, h5⟩ := cons_of h4
  obtain ⟨x6, t6, rfl, h6⟩ := cons_of h5
  obtain ⟨x7, t7, rfl, h7⟩ := cons_of h6
  obtain ⟨x8, t8, rfl, h8⟩ := cons_of h7
  obtain ⟨x9, t9, rfl, h9⟩ := cons_of h8
  obtain ⟨x10, t10, rfl, h10⟩ := cons_of h9
  obtain ⟨x11, t11, rfl, h11⟩ := cons_of h10
  obtain ⟨x12, t12, rfl, h12⟩ := cons_of h11
  exact ⟨x0, x1, x2, x3, x4, x5, x6, x7, x8, x9, x10, x11, x12, by rw [List.eq_nil_of_length_eq_zero h12]⟩
def F_sl4 (BW BX BO s gg x m cg : Nat) (q : Int) (u : Value) (jq : Nat) (v : Value) (w : World) : Prop :=
  match jq with
  | 0 => v = u
  | 1 => v = .int .i64 (x : Int)
  | 2 => v = .pointer (some ⟨s, 0, none⟩)
  | 3 => v = .pointer (some ⟨s, 0, none⟩)
  | 4 => v = .pointer (some ⟨s, 0, none⟩)
  | 5 => v = .slice (some ⟨gg, 0, none⟩) m cg
  | 6 => v = .int .i64 (x : Int)
  | 7 => v = .pointer (some ⟨gg, x * 1, none⟩)
  | 8 => v = .int .i64 q
  | 9 => v = .agg #[.int .i64 (x : Int), .int .i64 q]
  | 10 => ∃ g, v = .slice (some ⟨g, 0, none⟩) 1 1 ∧ BW ≤ g ∧ w.heap[g]? = some (.cells #[.int .i64 (x : Int), .int .i64 q] 30 (0, 0))
  | _ => True
theorem F_sl4_mono (BW BX BO s gg x m cg : Nat) (q : Int) (u : Value) : Facts (F_sl4 BW BX BO s gg x m cg q u) := ⟨by
  intro jq v w w' h hb
  unfold F_sl4 at h ⊢
  split at h
  all_goals first
    | exact h
    | (obtain ⟨g, e, h1, h2⟩ := h; exact ⟨g, e, h1, heap_below h2 hb⟩)
    | trivial⟩


set_option maxRecDepth 100000 in
set_option maxHeartbeats 8000000 in
theorem sl_List (h : Sl w D s vg vu vf G B U F) (si : SI G B U F) :
    Calls Try.prog 7 #[.pointer (some ⟨s, 0, none⟩)] w (ListPost (entK G B B.length) w) := by
  obtain ⟨au, cu, rfl⟩ := own_slice h.used
  obtain ⟨ag, cg, rfl⟩ := own_slice h.gens
  have hb0 : Below w.heap.size w (w.alloc (.cells #[.pointer (some ⟨s, 0, none⟩)] 34)) := (Below.refl _ _).alloc (Nat.le_refl _) _
  have hb1 : Below w.heap.size w ((w.alloc (.cells #[.pointer (some ⟨s, 0, none⟩)] 34)).alloc (.cells #[.slice none 0 0] 38)) := hb0.alloc (by simp) _
  have h1 := h.below hb1
  have HB1 := Lib.hid hb1
  have bx0 := heap_below (heap_alloc_new w (.cells #[.pointer (some ⟨s, 0, none⟩)] 34)) ((Below.refl _ _).alloc (Nat.le_refl _) (.cells #[.slice none 0 0] 38))
  have bx1 := Boxed.new (w.alloc (.cells #[.pointer (some ⟨s, 0, none⟩)] 34)) 38 (.slice none 0 0)
  have hs1 : (w.alloc (.cells #[.pointer (some ⟨s, 0, none⟩)] 34)).heap.size = w.heap.size + 1 := by simp
  rw [hs1] at bx1
  obtain ⟨nu, hnu⟩ : ∃ nu, nu = U.length := ⟨_, rfl⟩
  obtain ⟨m, hm⟩ : ∃ m, m = G.length := ⟨_, rfl⟩
  have c1 := h1.c1
  have x0 := cell_of_row _ _ 0 _ _ _ bx0
  simp only [List.getElem?_toArray, List.getElem?_cons_zero] at x0
  have hcu := si.cu
  have CA := sets_All U au U.length cu rfl (by have := hcu.1; omega) hcu.2.1 _ h1.su
  rw [← hnu] at c1 CA
  have HE := join_nil_els hcu.2.1
  have HC := joinN_canon bw_fst hcu.2.1 canon_nil.2.1
  obtain ⟨J, hJ⟩ : ∃ J, J = joinN (fun x _ => x) U [] := ⟨_, rfl⟩
  rw [← hJ] at HE HC CA
  rw [els_used si] at HE
  have hlv : ∀ x ∈ els J, x < m := by
    intro x hx
    rw [HE] at hx
    have := List.mem_range.1 (List.mem_filter.1 hx).1
    rw [hm, ← si.len]; exact this
  have hl256 : (els J).length ≤ 256 := by
    rw [HE]
    have h2 := List.length_filter_le (fun i => B.getD i false) (List.range B.length)
    have h3 := si.small
    have h4 := si.len
    unfold live
    simp only [List.length_range] at h2
    omega
  rw [← entL_live, ← HE]
  have HLV := Lib.hid hlv
  have HL2 := Lib.hid hl256
  have HCC := Lib.hid HC
  have HCA := Lib.hid CA
  have H1 := Lib.hid h1
  have HBX0 := Lib.hid bx0
  have HBX1 := Lib.hid bx1
  have HM := Lib.hid hm
  have H0 := Lib.hid h
  have hlt := lt_of_heap h.block
  clear hb0 hb1 h1 bx0 bx1 hs1 hnu hm hcu CA hJ hlv hl256 HC h HE si
  refine (callsIn_wide (n := 3)).1 (callsIn_of_wp_marks Try.func7 rfl trivial ?_ rfl)
  refine wpIn_wide.2 ?_
  simp only [Try.ntmps7, List.size_toArray, List.length_cons, List.length_nil, Nat.reduceAdd, Nat.reduceSub, Array.replicate_succ, Array.replicate_zero, List.push_toArray, List.append_toArray, List.nil_append, List.cons_append]
  go_wp2_with fail
  refine HCA.out.mono ?_
  rintro e w1 ⟨rfl, ⟨rr, k, cr, g2, g3, g4, g5⟩, g6, g7⟩
  rw [World.size_alloc, World.size_alloc] at g3 g5 g6
  have hbw := HB1.out.trans (g7.mono (by simp; omega))
  have HB2 := Lib.hid hbw
  have H2 := Lib.hid (H1.out.below g7)
  have HBX2 := Lib.hid (heap_below HBX0.out g7)
  have HBO2 := Lib.hid (show Boxed w1 (w.heap.size + 1) 38 (.slice none 0 0) from (g7.block _ (by simp)).trans HBX1.out)
  clear g7 hbw c1 x0
  go_wp2_with fail
  refine (wpIn_wide (n := 3)).1 (wpIn_rangeFunc_ownF rfl (by omega) (gf := 50) (lb := #[.pointer (some ⟨w.heap.size + 1 + 1, 0, none⟩)]) rfl trivial (enters_of Try.func50 (by kernel_rfl) rfl)
    (all_stopsB (3 - 1) (by omega) (w.heap.size + 1 + 1) (w.heap.size + 1 + 1) w1.heap.size rr k cr J g2 (by have := HCC.out.1; omega) HCC.out.2.1 w1 g6 g3 g5 g4) KeepB.trans (KeepB.put (Nat.le_refl _)) (Below.refl _ _) (fun _ => rfl)
    (fun pre W => (∃ v, Boxed W (w.heap.size + 1) 38 v ∧ W.ownsRow w1.heap.size 30 2 v pre.length (entC (entL G (pre.map (·.1)))) ∧ True) ∧ Below (w.heap.size + 1) w1 W)
    (fun _ _ _ => False)
    (OwnFrom.and (Own.from (holdsRow_own w1.heap.size (w.heap.size + 1) 38 30 2 (fun pre : List (El J) => pre.length) (fun pre => entC (entL G (pre.map (·.1)))) (fun _ _ => True)) _) (ownFrom_below (by omega) (by omega)))
    (fun _ _ _ _ _ hs _ _ => hs)
    ⟨⟨_, HBO2.out, World.ownsRow_nil _ _ _ _, trivial⟩, Below.refl _ _⟩
    (fun x => { tmps := #[.pointer (some ⟨s, 0, none⟩), .pointer (some ⟨w.heap.size, 0, none⟩), .slice none 0 0, .pointer (some ⟨w.heap.size + 1, 0, none⟩), .int .i64 (x.1 : Int), .pointer (some ⟨s, 0, none⟩), .pointer (some ⟨s, 0, none⟩), .pointer (some ⟨s, 1, none⟩), .slice au nu cu, .func (.func 50) #[] #[.pointer (some ⟨w.heap.size + 1 + 1, 0, none⟩)], .int .i64 (x.1 : Int), undef, undef, undef, undef, undef, undef, undef, undef, undef, undef, undef, undef, undef], defers := [] }) ?assign ?body ?done ?stop)
  case assign =>
    intro l x W K hK
    gi_wp2
    exact hK
  case body =>
    rintro l pre ⟨x, hx⟩ W ⟨⟨v, hv, hrow, _⟩, hB⟩ hlt
    have hxm : x < m := HLV.out x ((els_mem _ _).2 hx)
    have hxi : x < G.length := by rw [← HM.out]; exact hxm
    have hE := hB.size
    have hpl : pre.length < 4096 := hlt
    have hbW := HB2.out.trans (hB.mono (by omega))
    have h2 := H0.out.below hbW
    obtain ⟨gg, rfl, -, -, -, -, cgx, -⟩ := vints_cell h2.gens x hxi
    obtain ⟨q, hq⟩ : ∃ q, q = G.getD x 0 := ⟨_, rfl⟩
    have c0 := h2.c0
    rw [← HM.out] at c0
    rw [← hq] at cgx
    have x0 := cell_of_row _ _ 0 _ _ _ ((hB.block w.heap.size (by omega)).trans HBX2.out)
    simp only [List.getElem?_toArray, List.getElem?_cons_zero] at x0
    have C0 := Lib.hid c0
    have CG := Lib.hid cgx
    have X0 := Lib.hid x0
    have V0 := Lib.hid hv.cell
    have HQ := Lib.hid hq
    clear h2 hq x0 c0 cgx
    dsimp only
    gi_wp2
    refine wpIn_region_wide rfl (by rintro ⟨_, _, h⟩; exact h) (by kernel_rfl) ?_
    refine any_facts_t 11 (by kernel_rfl) (F_sl4 W.heap.size w.heap.size (w.heap.size + 1) s gg x m cg q v) (F_sl4_mono W.heap.size w.heap.size (w.heap.size + 1) s gg x m cg q v) ?_ ?_
    · refine ⟨?_, ?_, ?_, ?_, ?_, ?_, ?_, ?_, ?_, ?_, ?_, trivial⟩
      · intro vs w' F hb hd hF hl hT
        have e := (hF 3).trans (look_out _ 3 _ _ (by kernel_rfl))
        exact one_load _ _ rfl rfl _ _ e (cell_abides V0.out hb) (by kernel_rfl) ⟨_, rfl, Below.refl _ _, rfl⟩
      · intro vs w' F hb hd hF hl hT
        have e := (hF 4).trans (look_out _ 4 _ _ (by kernel_rfl))
        exact one_move _ rfl (by first | exact Or.inl rfl | exact Or.inr rfl) ⟨_, rfl, Below.refl _ _, e⟩
      · intro vs w' F hb hd hF hl hT
        have e := (hF 1).trans (look_out _ 1 _ _ (by kernel_rfl))
        exact one_load _ _ rfl rfl _ _ e (cell_abides X0.out hb) (by kernel_rfl) ⟨_, rfl, Below.refl _ _, rfl⟩
      · intro vs w' F hb hd hF hl hT
        have e := ((hF 13).trans (look_at _ 13 2 _ _ (by kernel_rfl) (by kernel_rfl) hl)).trans (dep_of (Fact := F_sl4 W.heap.size w.heap.size (w.heap.size + 1) s gg x m cg q v) hd 2 (by kernel_rfl))
        exact one_nilCheck _ rfl rfl _ e ⟨_, rfl, Below.refl _ _, rfl⟩
      · intro vs w' F hb hd hF hl hT
        have e := ((hF 14).trans (look_at _ 14 3 _ _ (by kernel_rfl) (by kernel_rfl) hl)).trans (dep_of (Fact := F_sl4 W.heap.size w.heap.size (w.heap.size + 1) s gg x m cg q v) hd 3 (by kernel_rfl))
        exact one_field _ _ _ rfl rfl _ _ e (0) (fun w => by kernel_rfl) ⟨_, rfl, Below.refl _ _, rfl⟩
      · intro vs w' F hb hd hF hl hT
        have e := ((hF 15).trans (look_at _ 15 4 _ _ (by kernel_rfl) (by kernel_rfl) hl)).trans (dep_of (Fact := F_sl4 W.heap.size w.heap.size (w.heap.size + 1) s gg x m cg q v) hd 4 (by kernel_rfl))
        exact one_load _ _ rfl rfl _ _ e (cell_abides C0.out hb) (by kernel_rfl) ⟨_, rfl, Below.refl _ _, rfl⟩
      · intro vs w' F hb hd hF hl hT
        have e := (hF 4).trans (look_out _ 4 _ _ (by kernel_rfl))
        exact one_move _ rfl (by first | exact Or.inl rfl | exact Or.inr rfl) ⟨_, rfl, Below.refl _ _, e⟩
      · intro vs w' F hb hd hF hl hT
        have ex := ((hF 16).trans (look_at _ 16 5 _ _ (by kernel_rfl) (by kernel_rfl) hl)).trans (dep_of (Fact := F_sl4 W.heap.size w.heap.size (w.heap.size + 1) s gg x m cg q v) hd 5 (by kernel_rfl))
        have ey := ((hF 17).trans (look_at _ 17 6 _ _ (by kernel_rfl) (by kernel_rfl) hl)).trans (dep_of (Fact := F_sl4 W.heap.size w.heap.size (w.heap.size + 1) s gg x m cg q v) hd 6 (by kernel_rfl))
        exact one_index 22 _ _ rfl rfl (.slice (some ⟨gg, 0, none⟩) m cg) (.int .i64 (x : Int)) (.pointer (some ⟨gg, x * 1, none⟩)) ex ey (fun w => by have h := rg_idx Try.underlying22 (show (Try.prog.info? 3).map (·.size) = some 1 by kernel_rfl) (gg) (0) (m) (cg) (x) (by omega) w; rw [Nat.zero_add] at h; exact h) ⟨_, rfl, Below.refl _ _, rfl⟩
      · intro vs w' F hb hd hF hl hT
        have e := ((hF 18).trans (look_at _ 18 7 _ _ (by kernel_rfl) (by kernel_rfl) hl)).trans (dep_of (Fact := F_sl4 W.heap.size w.heap.size (w.heap.size + 1) s gg x m cg q v) hd 7 (by kernel_rfl))
        exact one_load _ _ rfl rfl _ _ e ((by rw [Nat.mul_one]; exact cell_abides CG.out hb)) (by kernel_rfl) ⟨_, rfl, Below.refl _ _, rfl⟩
      · intro vs w' F hb hd hF hl hT
        have e1 := (((hF 12).trans (look_at _ 12 1 _ _ (by kernel_rfl) (by kernel_rfl) hl)).trans (dep_of (Fact := F_sl4 W.heap.size w.heap.size (w.heap.size + 1) s gg x m cg q v) hd 1 (by kernel_rfl)))
        have e2 := (((hF 19).trans (look_at _ 19 8 _ _ (by kernel_rfl) (by kernel_rfl) hl)).trans (dep_of (Fact := F_sl4 W.heap.size w.heap.size (w.heap.size + 1) s gg x m cg q v) hd 8 (by kernel_rfl)))
        exact one_build _ _ rfl rfl #[(0, .int .i64 (x : Int)), (1, .int .i64 q)] (parts2 e1 e2) (.agg #[.int .i64 (x : Int), .int .i64 q]) (fun w => by kernel_rfl) ⟨_, rfl, Below.refl _ _, rfl⟩
      · intro vs w' F hb hd hF hl hT
        have ex := (((hF 20).trans (look_at _ 20 9 _ _ (by kernel_rfl) (by kernel_rfl) hl)).trans (dep_of (Fact := F_sl4 W.heap.size w.heap.size (w.heap.size + 1) s gg x m cg q v) hd 9 (by kernel_rfl)))
        exact rg_slice_ent 38 30 _ rfl rfl (x : Int) q ex Try.underlying38 (by kernel_rfl) ⟨_, rfl, (Below.refl _ _).alloc (Nat.le_refl _) _, _, rfl, hb.size, heap_alloc_new _ _⟩
    · intro vs8 W8 hl hb hI
      have hv0 : vs8.getD 0 undef = v := hI 0 (by omega)
      obtain ⟨g9, hv9, hg9, hbl9⟩ := hI 10 (by omega)
      obtain ⟨z0, z1, z2, z3, z4, z5, z6, z7, z8, z9, z10, z11, z12, hvs⟩ := list13 hl
      subst hvs
      replace hv0 : z0 = v := hv0
      replace hv9 : z10 = .slice (some ⟨g9, 0, none⟩) 1 1 := hv9
      subst hv0 hv9
      have hvA : Boxed W8 (w.heap.size + 1) 38 z0 := (hb.block _ (by omega)).trans hv
      have hrowA := own_below hrow hb
      have hE8 : w1.heap.size ≤ W8.heap.size := Nat.le_trans hE hb.size
      have hgl9 := lt_of_heap hbl9
      obtain ⟨i0, hi0, hz0, hz1, hz2⟩ := info_parts (show (Try.prog.info? 30).map (fun i => (i.zero, i.size, i.bytes)) = some (some (.agg #[.int .i64 0, .int .i64 0]), 2, 16) by kernel_rfl)
      have HRA := Lib.hid hrowA
      have HVA := Lib.hid hvA
      have HBW8 := Lib.hid hb
      clear hI hl hrow hv V0 X0 C0 CG
      simp only [fillAll, Act.put, List.setIfInBounds_toArray, List.set_cons_succ, List.set_cons_zero, List.drop_succ_cons, List.drop_zero]
      go_wp2_with (at_builtin; go_must (refine wpList_append_lies _ rfl _ _ 38 rfl w1.heap.size 30 i0 (.agg #[.int .i64 0, .int .i64 0]) 2 16 Try.underlying38 hi0 hz0 hz1 hz2 rfl (by omega) z0 pre.length _ rfl HRA.out ⟨g9, 0, none⟩ 1 1 [.int .i64 (x : Int), .int .i64 q] rfl rfl (World.news_of_block (cs := #[.int .i64 (x : Int), .int .i64 q]) (t := 30) (fr := (0, 0)) hbl9) (by simp [Value.oneCell']) (by omega) (by unfold maxLen; omega) (by omega) hE8 W8.heap.size rfl ?_))
      intro g5 cap5 w6 hown6 hgrow6 hat6 hlt6
      have hno1 : ∀ j, z0.ownBlock = some j → w1.heap.size ≤ j := fun j hj => (own_lt HRA.out j hj).1
      have hv6 : Boxed w6 (w.heap.size + 1) 38 z0 := (hgrow6.block _ (by omega) (fun e => by have := hno1 _ e.symm; omega)).trans HVA.out
      have hc6 := hv6.cell
      have hf6 := hv6.frozen
      have HV6 := Lib.hid hv6
      have HO6 := Lib.hid hown6
      have HG6 := Lib.hid hgrow6
      have HN1 := Lib.hid hno1
      have HG5 := Lib.hid (own_lt hown6 g5 rfl)
      clear hv6 hown6 hgrow6 hno1 hat6
      go_wp2_with fail
      have k1 : KeepsOthers W W8 := .of_grownBy (row := none) (gb_below HBW8.out) (fun j o e => by cases e)
      have k2 : KeepsOthers W8 w6 := .of_grownBy HG6.out (fun j o ej hj => by
        rcases HRA.out.2 with ⟨e, _⟩ | ⟨g, cap, cur, e, _, hgb, _⟩
        · rw [e] at ej; cases ej
        · rw [e] at ej
          obtain rfl : g = j := by simpa [Value.ownBlock] using ej
          rw [hgb] at hj; injection hj with hj; rw [← hj]; rfl)
      have hs6 := HG6.out.size
      have hs8 := HBW8.out.size
      have hkk : ∀ j, j < w1.heap.size → j ≠ w.heap.size + 1 → (w6.setCell ⟨w.heap.size + 1, 0, none⟩ (.slice (some ⟨g5, 0, none⟩) (pre.length + 1) cap5)).heap[j]? = W.heap[j]? := fun j h1 h2 => by
        rw [Below.heap_setCell w6 ⟨w.heap.size + 1, 0, none⟩ _ j h2, HG6.out.block j (by omega) (fun e => by have := HN1.out _ e.symm; omega)]
        exact HBW8.out.block j (by omega)
      refine ⟨(k1.trans k2).trans (KeepsOthers.setCell _ _ _), ⟨by simp; omega, fun j j1 j2 => hkk j j2 (by omega)⟩, ⟨_, HV6.out.set _, ?_, trivial⟩, hB.trans ⟨HG6.out.os.trans HBW8.out.os, HG6.out.tape.trans HBW8.out.tape, HG6.out.output.trans HBW8.out.output, by simp; omega, fun j hj => hkk j (by omega) (by omega)⟩⟩
      have e1 : entC (entL G ((pre ++ [(⟨x, hx⟩ : El J)]).map (·.1))) = entC (entL G (pre.map (·.1))) ++ [Value.int .i64 (x : Int), .int .i64 q] := by
        rw [List.map_append, List.map_cons, List.map_nil, entL_snoc, ← HQ.out]
        simp [entC]
      rw [List.length_append, List.length_singleton, e1]
      exact own_set HO6.out (fun j hj e => by
        injection e with e
        have : g5 = j := by simpa [Value.ownBlock] using hj
        have := HG5.out.1
        omega) _ _
  case done =>
    rintro D1 ys W hD hys ⟨⟨v, hv, hrow, _⟩, hB⟩ hK
    obtain ⟨rz, cz, rfl⟩ := own_slice hrow
    have hvc := hv.cell
    have HROW := Lib.hid hrow
    have HBZ := Lib.hid hB
    have HYS := Lib.hid hys
    clear hys hrow hv hB
    go_wp2_with fail
    refine ⟨by simp, .inl ⟨_, _, rfl, run_takeDeferred hK, ?_⟩⟩
    refine ⟨_, results_tmp rfl _ _ _, ?_⟩
    have hys2 : ys.map (·.1) = els J := HYS.out
    have hlen : ys.length = (entL G (els J)).length := by rw [← hys2]; simp [entL]
    have hw0 : w.heap.size ≤ D1 := by have := HB2.out.size; omega
    have hfin := (HB2.out.trans (HBZ.out.mono (by omega))).trans (belowK_b (w := w) (Nat.le_refl _) W D1 _ (.deferred none) hw0 hK rfl rfl)
    have hrw : ∀ (o : Obj), (W.putObj D1 o).ownsRow w1.heap.size 30 2 (.slice rz ys.length cz) ys.length (entC (entL G (els J))) := fun o => by
      have h3 := HROW.out
      rw [hys2] at h3
      refine own_keep h3 fun g hg => ?_
      have hne : g ≠ D1 := by
        intro e
        rcases h3.2 with ⟨e2, _⟩ | ⟨g', cap, cur, e2, _, hgb, _⟩
        · rw [e2] at hg; cases hg
        · rw [e2] at hg
          obtain rfl : g' = g := by simpa [Value.ownBlock] using hg
          rw [e, hK] at hgb; cases hgb
      exact World.putObj_heap_other hne
    exact ⟨rz, ys.length, cz, hlen.symm, rfl, EntsAt.of_own (hrw _) hlen, hfin⟩
  case stop =>
    rintro D c pre W _ _ h _
    exact h.elim
end Go.Proofs.Ytpilpkbblkhnaaa
end
