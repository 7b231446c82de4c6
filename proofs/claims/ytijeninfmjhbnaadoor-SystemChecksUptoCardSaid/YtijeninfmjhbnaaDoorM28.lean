/- Lemmas for the law SystemChecks: WFitC, FitP, RegRel, KindCells. No conditions. -/
import Derived.Test.YtijeninfmjhbnaaDoorM02
import Derived.Test.YtijeninfmjhbnaaDoorM01
import Derived.Test.YtijeninfmjhbnaaDoorM06
import Derived.Deep.LoopGhost
import Derived.Test.YtijeninfmjhbnaaDoorM27
import Derived.Test.YtijeninfmjhbnaaDoorM05
import Derived.Test.YtijeninfmjhbnaaDoorM03
import Derived.Test.YtijeninfmjhbnaaDoorM09
/- slices.ContainsFunc and IndexFunc at components, with world.Fit's closure. -/
section
namespace Go.Proofs.YtijeninfmjhbnaaDoor
open Go.ChangeShapes Go.WideShapes Go.ChangeAt Go.RowKit Go.Nm Go.Mem
set_option linter.unusedVariables false
def hasK (l : List CompV) (k : Int) : Bool := l.any fun y => decide (y.kind = k)
theorem hasK_true {l : List CompV} {k : Int} (i : Nat) (h : i < l.length) (hk : l[i].kind = k) : hasK l k = true := by
  unfold hasK
  rw [List.any_eq_true]
  exact ⟨_, List.getElem_mem h, decide_eq_true hk⟩
theorem hasK_false {l : List CompV} {k : Int} (h : ∀ i (hi : i < l.length), l[i].kind ≠ k) : hasK l k = false := by
  unfold hasK
  rw [List.any_eq_false]
  intro x hx
  obtain ⟨i, hi, rfl⟩ := List.getElem_of_mem hx
  rw [decide_eq_false (h i hi)]
  exact Bool.false_ne_true
set_option maxHeartbeats 4000000 in
theorem clos_comp (y k : Int) (ay : Option Addr) (f cy : Nat) (B : Nat) (W : World) (hs : W.cell? ⟨B, 0, none⟩ = some (.int .i64 k)) :
    Calls Tryd.prog 44 #[.agg #[.int .i64 y, .slice ay f cy], .pointer (some ⟨B, 0, none⟩)] W fun e w' => e = .returned (.bool (decide (y = k))) ∧ Below W.heap.size W w' := by
  have hb0 := (Below.refl W.heap.size W).alloc (Nat.le_refl _) (.cells #[.int .i64 y, .slice ay f cy] 87)
  have hs1 := cell_abides hs hb0
  have HB0 := Lib.hid hb0
  clear hs hb0
  go_enter Tryd.func44, Tryd.ntmps44
  by_cases h : y = k
  · have HD := Lib.hid (decide_eq_true h)
    rw [HD.out]
    subst h
    go_wp2_with fail
    go_ret
    exact ⟨rfl, HB0.out⟩
  · have t1 : (y == k) = false := by simpa using h
    have HD := Lib.hid (decide_eq_false h)
    rw [HD.out]
    go_wp2_with fail
    go_ret
    exact ⟨rfl, HB0.out⟩
set_option maxHeartbeats 4000000 in
theorem idx_comps (l : List CompV) (a : Option Addr) (n cap : Nat) (s : Int) (B : Nat) (hn : l.length = n) (h1 : n ≤ 17592186044000) (W : World) (hz : SlAt 2 CompAt W a l) (hs : W.cell? ⟨B, 0, none⟩ = some (.int .i64 s)) :
    Calls Tryd.prog 66 #[.slice a n cap, .func (.func 44) #[] #[.pointer (some ⟨B, 0, none⟩)]] W fun e w' => (∃ r : Int, e = .returned (.int .i64 r) ∧ decide (0 ≤ r) = hasK l s) ∧ Below W.heap.size W w' := by
  obtain ⟨R, hR⟩ : ∃ R, R = hasK l s := ⟨_, rfl⟩
  rw [← hR]
  have HR := Lib.hid hR
  have HN := Lib.hid hn
  have HZ := Lib.hid hz
  have HS := Lib.hid hs
  clear hR hn hz hs
  go_enter Tryd.func66, Tryd.ntmps66
  go_wp2_with fail
  go_loopg [5, 8] n (fun gk v5 vi wx => ∃ i : Nat, i ≤ n ∧ gk = n - i ∧ vi = .int .i64 i ∧ (∀ j (h : j < l.length), j < i → l[j].kind ≠ s) ∧ Below W.heap.size W wx)
  case atStart => exact ⟨0, Nat.zero_le _, rfl, rfl, fun j h h2 => absurd h2 (by omega), Below.refl _ _⟩
  case round =>
    obtain ⟨i, hi, g2, rfl, hat, hb⟩ := hrel
    have G2 := Lib.hid g2
    have HAT := Lib.hid hat
    have HB := Lib.hid hb
    have hbs := hb.size
    clear g2 hat hb
    by_cases hlt : i < n
    · obtain ⟨x, rfl, hx, hix⟩ := (HZ.out.below CompAt.abides HB.out) (by rw [HN.out]; omega)
      obtain ⟨k0, ay, cy, k1, _⟩ := hix i (by rw [HN.out]; exact hlt)
      obtain ⟨y, hy⟩ : ∃ y, y = l[i]'(by rw [HN.out]; exact hlt) := ⟨_, rfl⟩
      rw [← hy] at k0 k1
      obtain ⟨kn, hkn⟩ : ∃ kn, kn = y.kind := ⟨_, rfl⟩
      rw [← hkn] at k0
      have hs2 := cell_abides HS.out HB.out
      have HC := Lib.hid (clos_comp kn s ay y.vals.length cy B wr hs2)
      have HY := Lib.hid hy
      have HKN := Lib.hid hkn
      clear hix hy hs2 hkn
      obtain ⟨r, hr⟩ : ∃ r, r = decide (kn = s) := ⟨_, rfl⟩
      rw [← hr] at HC
      have HR2 := Lib.hid hr
      clear hr
      go_wp2_with fail
      refine HC.out.mono ?_
      rintro e w1 ⟨rfl, hb1⟩
      have HB2 := Lib.hid (HB.out.trans (hb1.mono hbs))
      clear hb1 HC
      cases r
      · have HE := Lib.hid (of_decide_eq_false HR2.out.symm)
        go_wp2_with fail
        go_roundg (n - (i + 1))
        case measure => rw [G2.out]; omega
        case rel => exact ⟨i + 1, hlt, rfl, by go_num, fun j h hj => by
          by_cases hji : j < i
          · exact HAT.out j h hji
          · obtain rfl : j = i := by omega
            rw [← HY.out, ← HKN.out]; exact HE.out, HB2.out⟩
      · have HF := Lib.hid (show decide (0 ≤ (i : Int)) = R by
          rw [HR.out, hasK_true i (by rw [HN.out]; exact hlt) (by rw [← HY.out, ← HKN.out]; exact of_decide_eq_true HR2.out.symm), decide_eq_true (by omega)])
        go_wp2_with fail
        go_ret
        exact ⟨⟨_, rfl, HF.out⟩, HB2.out⟩
    · have HF := Lib.hid (show decide (0 ≤ (-1 : Int)) = R by
        rw [HR.out, hasK_false (fun j hj => HAT.out j hj (by rw [HN.out] at hj; omega))]; rfl)
      go_wp2_with fail
      go_ret
      exact ⟨⟨_, rfl, HF.out⟩, HB.out⟩
set_option maxHeartbeats 4000000 in
theorem con_comps (l : List CompV) (a : Option Addr) (n cap : Nat) (s : Int) (B : Nat) (hn : l.length = n) (h1 : n ≤ 17592186044000) (W : World) (hz : SlAt 2 CompAt W a l) (hs : W.cell? ⟨B, 0, none⟩ = some (.int .i64 s)) :
    Calls Tryd.prog 43 #[.slice a n cap, .func (.func 44) #[] #[.pointer (some ⟨B, 0, none⟩)]] W fun e w' => e = .returned (.bool (hasK l s)) ∧ Below W.heap.size W w' := by
  have HC := Lib.hid (idx_comps l a n cap s B hn h1 W hz hs)
  clear hn hz hs
  go_enter Tryd.func43, Tryd.ntmps43
  go_wp2_with fail
  refine HC.out.mono ?_
  rintro e w1 ⟨⟨r, rfl, hr⟩, hb1⟩
  have HR := Lib.hid hr
  have HB1 := Lib.hid hb1
  clear hr hb1
  go_wp2_with fail
  go_ret
  exact ⟨by rw [← HR.out]; rfl, HB1.out⟩
end Go.Proofs.YtijeninfmjhbnaaDoor
end
/- Fitted components, sorted by their kinds: the plain law of world.Fit. No program is walked here. -/
section
namespace Go.Proofs.YtijeninfmjhbnaaDoor
open Go.ChangeShapes Go.WideShapes Go.ChangeAt Go.RowKit Go.Nm Go.Mem Go.Maps
set_option linter.unusedVariables false
def fitC (ks : List KindV) (c : CompV) : CompV := ⟨c.kind, fitL (ks.getD c.kind.toNat default).fields c.vals⟩
def fitOut (ks : List KindV) (l : List CompV) : List CompV := l.map (fitC ks)
theorem fitGo_ne (ks : List KindV) : ∀ (l : List CompV) (M : Part), (fitGo ks l M).1 = 0 → l.Pairwise (fun x y => x.kind ≠ y.kind)
  | [], M, _ => List.Pairwise.nil
  | c :: r, M, h => by
    unfold fitGo at h
    split at h
    · simp at h
    · rename_i h1
      split at h
      · simp at h
      · split at h
        · rename_i h3
          exact absurd h h3
        · refine List.pairwise_cons.2 ⟨fun d hd e => ?_, fitGo_ne ks r _ h⟩
          have := ((fitGo_ok ks r _ h).1 d hd).2.2.2.1
          rw [← e, updF_same] at this
          cases this
theorem sorted_fit {ks : List KindV} {l l' : List CompV} (hk : ks.length ≤ 16) (hE : fitAllE ks l = 0) (hp : l'.Perm (fitOut ks l)) (hs : l'.Pairwise (fun x y => ¬ y.kind < x.kind)) : l' = listed (fitAllM ks l) := by
  obtain ⟨q1, q2⟩ := fitGo_ok ks l _ hE
  have hne : (fitOut ks l).Pairwise (fun x y => x.kind ≠ y.kind) := by
    unfold fitOut
    rw [List.pairwise_map]
    exact fitGo_ne ks l _ hE
  have hne' : l'.Pairwise (fun x y => x.kind ≠ y.kind) := (hp.pairwise_iff (fun {x y} h e => h e.symm)).2 hne
  have hlt : l'.Pairwise (fun x y => x.kind < y.kind) := (List.Pairwise.and hs hne').imp fun h => by omega
  rw [listed_listK]
  refine sorted_ext CompV.kind hlt (listK_sorted CompV.kind (fun i b => rfl) _ _) fun x => ?_
  rw [mem_listK, hp.mem_iff]
  unfold fitOut
  rw [List.mem_map]
  constructor
  · rintro ⟨c, hc, rfl⟩
    obtain ⟨g1, g2, g3, g4, g5⟩ := q1 c hc
    refine ⟨c.kind.toNat, by omega, _, g5, ?_⟩
    unfold fitC
    rw [show ((c.kind.toNat : Nat) : Int) = c.kind by omega]
  · rintro ⟨i, hi, L, hL, rfl⟩
    by_cases he : ∃ c ∈ l, c.kind.toNat = i
    · obtain ⟨c, hc, rfl⟩ := he
      obtain ⟨g1, g2, g3, g4, g5⟩ := q1 c hc
      refine ⟨c, hc, ?_⟩
      rw [show (fitGo ks l fun x => none).2 = fitAllM ks l from rfl, hL] at g5
      injection g5 with g5
      unfold fitC
      rw [g5, show ((c.kind.toNat : Nat) : Int) = c.kind by omega]
    · have := q2 i (fun c hc e => he ⟨c, hc, e⟩)
      rw [show (fitGo ks l fun x => none).2 = fitAllM ks l from rfl, hL] at this
      cases this
theorem sl_take {α : Type} {sz : Nat} {E : World → Addr → α → Prop} {w : World} {a : Option Addr} {l : List α} (h : SlAt sz E w a l) (i : Nat) : SlAt sz E w a (l.take i) := fun h0 => by
  rw [List.length_take] at h0
  obtain ⟨x, e, hx, hi⟩ := h (by omega)
  refine ⟨x, e, hx, fun j hj => ?_⟩
  rw [List.length_take] at hj
  rw [List.getElem_take]
  exact hi j (by omega)
theorem hasK_snoc (l : List CompV) (c : CompV) (k : Int) : hasK (l ++ [c]) k = (hasK l k || decide (c.kind = k)) := by
  unfold hasK
  rw [List.any_append]
  simp
theorem take_snocC {α : Type} (l : List α) (i : Nat) (h : i < l.length) : l.take (i + 1) = l.take i ++ [l[i]] := by
  rw [List.take_add_one, List.getElem?_eq_getElem h]; rfl
theorem upd_has {M : Part} {l : List CompV} {c : CompV} {q : Nat} {L : List Int} (h : ∀ k : Nat, (M k).isSome = hasK l k) (hc : c.kind = (q : Int)) : ∀ k : Nat, (updF M q L k).isSome = hasK (l ++ [c]) k := fun k => by
  rw [hasK_snoc, hc]
  by_cases e : k = q
  · subst e
    rw [updF_same, decide_eq_true rfl, Bool.or_true]; rfl
  · rw [updF_other _ _ e, h k, decide_eq_false (by omega), Bool.or_false]
end Go.Proofs.YtijeninfmjhbnaaDoor
end
/- Drawn regions by facts, over relations of worlds, one for each operation: an operation that writes a row of the call's own (an append) may stand in the head. By program from RegTail (its proof, Below turned into Rel). -/
section
namespace Go.Mem
open Go.Proofs
set_option linter.unusedVariables false
structure FactsR (RelI : Nat → World → World → Prop) (Fact : Nat → Value → World → Prop) : Prop where
  mono : ∀ i j v w w', i ≠ j → Fact j v w → RelI i w w' → Fact j v w'
section
variable (P : Program) (ops : List Oper) (Q : Exit → Act → World → Prop) (a0 : Act) (W0 : World) (Rel : World → World → Prop) (RelI : Nat → World → World → Prop) (Fact : Nat → Value → World → Prop) (qw : Nat) (Inv : World → Prop) (n : Nat)
/-- What stands behind operation i. -/
def QOneR (w : World) (i : Nat) (o : Oper) (F : Act) : Exit → Act → World → Prop
  | .normal, a, w' => ∃ v : Value, a = F.put o.dst v ∧ RelI i w w' ∧ Fact i v w'
  | e, a, w => Q e a w
/-- what is owed for operation i; the tail's slots hold what they held -/
def OblOneR (i : Nat) (o : Oper) : Prop := ∀ (vs : List Value) (w : World) (F : Act), Rel W0 w → (∀ e ∈ o.after, Region.binds .any e = true → Fact e.on (vs.getD e.on undef) w) → (∀ t, F.eval (.tmp t) = look a0 t ops vs) → vs.length = ops.length → (∀ t, n ≤ t → vs.getD t undef = (origs a0 ops).getD t undef) → (i = qw → Inv w) → wpList P ops.toArray (QOneR Q RelI Fact w i o F) [o] F w
def OblR : List Oper → Nat → Prop
  | [], _ => True
  | o :: r, i => OblOneR P ops Q a0 W0 Rel RelI Fact qw Inv n i o ∧ OblR r (i + 1)
end
theorem OblR.get {P : Program} {ops : List Oper} {Q : Exit → Act → World → Prop} {a0 : Act} {W0 : World} {Rel : World → World → Prop} {RelI : Nat → World → World → Prop} {Fact : Nat → Value → World → Prop} {qw : Nat} {Inv : World → Prop} {n : Nat} : ∀ {l : List Oper} {k : Nat}, OblR P ops Q a0 W0 Rel RelI Fact qw Inv n l k → ∀ {i : Nat} {o : Oper}, l[i]? = some o → OblOneR P ops Q a0 W0 Rel RelI Fact qw Inv n (k + i) o
  | [], _, _, i, o, h => by simp at h
  | x :: r, k, H, 0, o, h => by simp at h; subst h; exact H.1
  | x :: r, k, H, i + 1, o, h => by
    have := H.2.get (i := i) (o := o) (by simpa using h)
    rwa [show k + 1 + i = k + (i + 1) by omega] at this
theorem wp_region_facts_r {P : Program} {id : Nat} {ops : List Oper} {Q : Exit → Act → World → Prop} {a0 : Act} {w0 : World} (hm : P.follows .mixedOrders = true) (n : Nat)
    (hac : (acyclicB ops && distinctB ops && tailT ops n && Region.seqB .any ops.toArray (ops.drop n).length n (headTail n (ops.length - n)) && decide (n ≤ ops.length)) = true)
    (Rel : World → World → Prop) (hr0 : Rel w0 w0.drew) (htr : ∀ a b c, Rel a b → Rel b c → Rel a c) (RelI : Nat → World → World → Prop) (hsub : ∀ i a b, RelI i a b → Rel a b) (Fact : Nat → Value → World → Prop) (hF : FactsR RelI Fact) (qw : Nat) (Inv : World → Prop) (hi0 : Inv w0.drew) (hinv : ∀ i a b, i ≠ qw → RelI i a b → Inv a → Inv b)
    (hstep : OblR P ops Q a0 w0 Rel RelI Fact qw Inv n (ops.take n) 0)
    (hend : ∀ (vs : List Value) (w : World), vs.length = ops.length → Rel w0 w → (∀ j, j < n → Fact j (vs.getD j undef) w) → wpList P ops.toArray Q (ops.drop n) (fillAll a0 ops vs) w) :
    (Code.region id ops.toArray true).wp P Q a0 w0 := by
  simp only [Bool.and_eq_true, decide_eq_true_eq] at hac
  obtain ⟨⟨⟨⟨hac, hdis⟩, htl⟩, hseq⟩, hn⟩ := hac
  refine wp_region_any hm ?_
  have key : ∀ (fuel : Nat) (listed : Array Bool) (vs : List Value) (w : World), listed.size = ops.length → vs.length = ops.length → unl listed.toList = fuel → (∀ t, n ≤ t → t < ops.length → listed.getD t true = false) →
      Rel w0 w → (∀ j, j < ops.length → listed.getD j true = true → Fact j (vs.getD j undef) w) → (∀ j o, ops[j]? = some o → listed.getD j true = true → ∀ e ∈ o.after, Region.binds .any e = true → listed.getD e.on true = true) → (∀ t, n ≤ t → vs.getD t undef = (origs a0 ops).getD t undef) → (listed.getD qw true = false → Inv w) → wpAny P .any ops.toArray Q fuel listed (fillAll a0 ops vs) w := by
    intro fuel
    induction fuel with
    | zero =>
      intro listed vs w hs hvl hu ht hb hI hcl hT hIV
      have hall : ∀ j, listed.getD j true = true := by
        intro j
        by_cases hj : j < listed.size
        · exact unl_zero hu (listed.getD j true) (by simp [hj])
        · simp [hj]
      have hno : n = ops.length := by
        rcases Nat.lt_or_ge n ops.length with h | h
        · have h1 := ht n (Nat.le_refl _) h; rw [hall n] at h1; cases h1
        · omega
      have hd : ops.drop n = [] := by rw [hno]; simp
      have := hend vs w hvl hb (fun j hj => hI j (by omega) (hall j))
      rw [hd] at this
      refine ⟨?_, this⟩
      unfold Region.ready
      rw [List.filter_eq_nil_iff]
      intro i hi
      simp [hall i]
    | succ fuel ih =>
      intro listed vs w hs hvl hu ht hb hI hcl hT hIV
      by_cases hpre : ∀ j, j < n → listed.getD j true = true
      · -- the head is done: the tail, in its one order
        have hL : listed = headTail n (ops.length - n) := by
          unfold headTail
          apply Array.ext
          · simp; omega
          · intro i h1 h2
            have e : listed[i] = listed.getD i true := by simp [h1]
            rw [e]
            by_cases hi : i < n
            · rw [hpre i hi]; simp [hi]
            · rw [ht i (by omega) (by omega)]; simp [List.getElem_append, hi]
        have hf : fuel + 1 = (ops.drop n).length := by
          rw [← hu, hL]; simp [headTail, unl]
        rw [hf]
        refine wpAny_of_seq (ops.drop n) n listed _ w (fun j => by simp [List.getElem?_drop]) (by rw [hL]; exact hseq) ?_
        exact hend vs w hvl hb (fun j hj => hI j (by omega) (hpre j hj))
      · constructor
        · intro hr
          exfalso
          obtain ⟨i, h1, h2⟩ := first_false listed.toList (by omega)
          have hi : i < listed.size := by
            have := (List.getElem?_eq_some_iff.1 h1).1; simpa using this
          have hio : i < ops.length := by omega
          have hmem : i ∈ Region.ready .any ops.toArray listed := by
            unfold Region.ready
            rw [List.mem_filter]
            refine ⟨by simp; omega, ?_⟩
            have hl : listed.getD i true = false := by simp [Array.getD_eq_getD_getElem?, ← Array.getElem?_toList, h1]
            rw [hl]
            have ho : ops.toArray[i]? = some ops[i] := by simp [hio]
            rw [ho]
            simp only [Option.map_some, Option.getD_some, Bool.not_false, Bool.true_and, Array.all_eq_true_iff_forall_mem]
            intro e he
            unfold acyclicB at hac
            have := List.all_eq_true.1 hac (ops[i], i) (by rw [List.mem_zipIdx_iff_getElem?]; simp [hio])
            have := (Array.all_eq_true_iff_forall_mem.1 this) e he
            simp only [Bool.or_eq_true, Bool.not_eq_true', decide_eq_true_eq] at this ⊢
            rcases this with h | h
            · exact Or.inl h
            · right
              have := h2 e.on h
              simp [Array.getD_eq_getD_getElem?, ← Array.getElem?_toList, this]
          rw [hr] at hmem
          cases hmem
        · intro i hi
          unfold Region.ready at hi
          rw [List.mem_filter] at hi
          obtain ⟨hir, hi⟩ := hi
          have hio : i < ops.length := by simpa using hir
          have hoA : ops.toArray[i]? = some ops[i] := by simp [hio]
          rw [hoA] at hi
          simp only [Option.map_some, Option.getD_some, Bool.and_eq_true, Bool.not_eq_true', Array.all_eq_true_iff_forall_mem] at hi
          obtain ⟨hl, hdep⟩ := hi
          have hdep' : ∀ e ∈ (ops[i]).after, Region.binds .any e = true → e.on < listed.size ∧ listed.getD e.on true = true := by
            intro e he hbd
            have := hdep e he
            rw [hbd] at this
            simp only [Bool.not_true, Bool.false_or] at this
            by_cases hb : e.on < listed.size
            · exact ⟨hb, by simpa [hb] using this⟩
            · simp [hb] at this
          have hin : i < n := by
            rcases Nat.lt_or_ge i n with h | h
            · exact h
            · exfalso
              apply hpre
              intro j hj
              unfold tailT at htl
              have := List.all_eq_true.1 htl (ops[i], i) (by rw [List.mem_zipIdx_iff_getElem?]; simp [hio])
              simp only [Bool.or_eq_true, decide_eq_true_eq] at this
              rcases this with h' | h'
              · omega
              · have := List.all_eq_true.1 h' j (by simp; omega)
                exact anc_listed hcl 8 i j ops[i] (by simp [hio]) (fun e he hbd => (hdep' e he hbd).2) this
          have ho : ops[i]? = some ops[i] := by simp [hio]
          have hot : (ops.take n)[i]? = some ops[i] := by rw [List.getElem?_take, if_pos hin]; exact ho
          have hl' : listed.toList[i]? = some false := by
            have hlt : i < listed.size := by omega
            have : listed.getD i true = listed[i] := by simp [hlt]
            rw [this] at hl
            rw [Array.getElem?_toList, Array.getElem?_eq_getElem hlt, hl]
          have hstep' := hstep.get hot
          rw [Nat.zero_add] at hstep'
          have H := hstep' vs w (fillAll a0 ops vs) hb (fun e he hbd => hI e.on (by have := (hdep' e he hbd).1; omega) (hdep' e he hbd).2) (fun t => eval_fill a0 t ops vs) hvl hT (fun e => hIV (by rw [← e]; exact hl))
          have hnext : ∀ (a' : Act) (w' : World), QOneR Q RelI Fact w i ops[i] (fillAll a0 ops vs) .normal a' w' → wpAny P .any ops.toArray Q fuel (listed.setIfInBounds i true) a' w' := by
            rintro a' w' ⟨v, rfl, hb', hv⟩
            rw [fillAll_set a0 ops vs i ops[i] v hdis ho (by omega)]
            refine ih _ (vs.set i v) w' (by simpa using hs) (by simpa using hvl) ?_ ?_ (htr _ _ _ hb (hsub _ _ _ hb')) ?_ ?_ ?_ (fun hq => by
              by_cases e : i = qw
              · subst e
                by_cases hlt : i < listed.size <;> simp [Array.getD_eq_getD_getElem?, hlt] at hq
              · rw [Array.getD_eq_getD_getElem?, Array.getElem?_setIfInBounds, if_neg e, ← Array.getD_eq_getD_getElem?] at hq
                exact hinv i _ _ e hb' (hIV hq))
            · have := unl_set listed.toList i hl'
              rw [Array.toList_setIfInBounds]; omega
            · intro t h1 h2
              rw [Array.getD_eq_getD_getElem?, Array.getElem?_setIfInBounds, if_neg (by omega), ← Array.getD_eq_getD_getElem?]
              exact ht t h1 h2
            · intro j hj hlj
              by_cases e : j = i
              · subst e
                rw [List.getD_eq_getElem?_getD, List.getElem?_set_self (by omega)]
                exact hv
              · rw [List.getD_eq_getElem?_getD, List.getElem?_set_ne (by omega), ← List.getD_eq_getElem?_getD]
                refine hF.mono i _ _ _ _ (fun e2 => e e2.symm) (hI j hj ?_) hb'
                rwa [Array.getD_eq_getD_getElem?, Array.getElem?_setIfInBounds, if_neg (by omega), ← Array.getD_eq_getD_getElem?] at hlj
            · have up : ∀ q, listed.getD q true = true → (listed.setIfInBounds i true).getD q true = true := by
                intro q hq
                by_cases e : q = i
                · subst e
                  by_cases hlt : q < listed.size <;> simp [Array.getD_eq_getD_getElem?, hlt]
                · rwa [Array.getD_eq_getD_getElem?, Array.getElem?_setIfInBounds, if_neg (by omega), ← Array.getD_eq_getD_getElem?]
              intro j o hoj hlj e he hbd
              apply up
              by_cases hji : j = i
              · subst hji
                rw [ho] at hoj
                injection hoj with hoj
                subst hoj
                exact (hdep' e he hbd).2
              · rw [Array.getD_eq_getD_getElem?, Array.getElem?_setIfInBounds, if_neg (by omega), ← Array.getD_eq_getD_getElem?] at hlj
                exact hcl j o hoj hlj e he hbd
            · intro t h1
              rw [List.getD_eq_getElem?_getD, List.getElem?_set_ne (by omega), ← List.getD_eq_getElem?_getD]
              exact hT t h1
          unfold wpOp
          rw [hoA]
          simp only
          unfold wpList at H
          split
          · rename_i hw
            rw [if_pos hw] at H
            have conv : ∀ {K : Act → World → Prop}, (ops[i]).wp P (fillAll a0 ops vs) w K (QOneR Q RelI Fact w i ops[i] (fillAll a0 ops vs)) → (ops[i]).wp P (fillAll a0 ops vs) w K Q := by
              intro K hh
              unfold Oper.wp at *
              generalize (execOp (fillAll a0 ops vs).eval ops[i]).run P w = r at *
              cases r with
              | ok n w' =>
                cases n <;> simp only [Oper.upon] at hh ⊢ <;>
                  first
                    | exact hh
                    | (refine Calls.mono hh (fun e w'' he => ?_)
                       cases e with
                       | returned v => exact he
                       | panicked c => exact he
                       | outgrown =>
                         obtain ⟨a1, w1, hq⟩ := he
                         exact ⟨a1, w1, hq⟩)
              | halt x w' => cases x <;> simp only [Oper.upon] at hh ⊢ <;> exact hh
            rcases H with H | ⟨hasks, a1, w1, hq⟩
            · left
              refine conv (Oper.wp_mono (fun a w h => ?_) H)
              exact hnext _ _ h
            · right
              exact ⟨hasks, a1, w1, hq⟩
          · rename_i hw
            rw [if_neg hw] at H
            exact hnext _ _ H
  have hrep : unl (Array.replicate ops.toArray.size false).toList = ops.toArray.size := by
    simp [unl]
  have := key ops.toArray.size (Array.replicate ops.toArray.size false) (origs a0 ops) w0.drew (by simp) (by simp [origs]) hrep (fun t h1 h2 => by simp [h2]) hr0 (fun j hj h => by simp [hj] at h) (fun j o hoj h => by have := (List.getElem?_eq_some_iff.1 hoj).1; simp [this] at h) (fun t h => rfl) (fun _ => hi0)
  rwa [fillAll_origs] at this
end Go.Mem
end
/- A list of fields as the cells of a row. -/
section
namespace Go.Proofs.YtijeninfmjhbnaaDoor
open Go.RowKit Go.ChangeShapes Go.WideShapes Go.Deep Go.Mem Go.Nm
set_option linter.unusedVariables false
def fval (l : List FieldV) (j : Nat) : Value := if j % 3 = 0 then .string (l.getD (j / 3) default).name else if j % 3 = 1 then .int .i64 (l.getD (j / 3) default).bits else .int .i64 (l.getD (j / 3) default).low
def fvals (l : List FieldV) : List Value := (List.range (l.length * 3)).map (fval l)
theorem fvals_len (l : List FieldV) : (fvals l).length = l.length * 3 := by unfold fvals; simp
theorem fvals_get (l : List FieldV) (j : Nat) (u : Value) : (fvals l)[j]? = some u ↔ j < l.length * 3 ∧ u = fval l j := by
  unfold fvals
  rw [List.getElem?_map]
  by_cases h : j < l.length * 3
  · rw [List.getElem?_range h]; simp [h, eq_comm]
  · rw [List.getElem?_eq_none (by simpa using h)]; simp [h]
theorem fvals_one (l : List FieldV) : ∀ u ∈ fvals l, u.oneCell' = true := by
  intro u hu
  unfold fvals at hu
  obtain ⟨j, _, rfl⟩ := List.mem_map.1 hu
  unfold fval
  split
  · rfl
  · split <;> rfl
theorem fval_parts (l : List FieldV) (q : Nat) (h : q < l.length) : fval l (q * 3) = .string l[q].name ∧ fval l (q * 3 + 1) = .int .i64 l[q].bits ∧ fval l (q * 3 + 2) = .int .i64 l[q].low := by
  have hd : l.getD q default = l[q] := by rw [List.getD_eq_getElem?_getD, List.getElem?_eq_getElem h]; rfl
  unfold fval
  refine ⟨?_, ?_, ?_⟩
  · rw [if_pos (by omega), show q * 3 / 3 = q by omega, hd]
  · rw [if_neg (by omega), if_pos (by omega), show (q * 3 + 1) / 3 = q by omega, hd]
  · rw [if_neg (by omega), if_neg (by omega), show (q * 3 + 2) / 3 = q by omega, hd]
theorem cells_flds {w : World} {a : Option Addr} {l : List FieldV} (h : SlAt 3 FieldAt w a l) : CellsAt w a (fvals l) := fun h0 => by
  rw [fvals_len] at h0
  obtain ⟨x, e, hx, hi⟩ := h (by omega)
  refine ⟨x, e, hx, fun j u hu => ?_⟩
  obtain ⟨hj, rfl⟩ := (fvals_get l j u).1 hu
  have hq : j / 3 < l.length := by omega
  obtain ⟨k0, k1, k2, _⟩ := hi (j / 3) hq
  obtain ⟨p0, p1, p2⟩ := fval_parts l (j / 3) hq
  rcases (show j = j / 3 * 3 ∨ j = j / 3 * 3 + 1 ∨ j = j / 3 * 3 + 2 by omega) with e | e | e
  · rw [show fval l j = fval l (j / 3 * 3) by rw [← e], p0, show x.add j = x.add (j / 3 * 3) by rw [← e]]; exact k0
  · rw [show fval l j = fval l (j / 3 * 3 + 1) by rw [← e], p1, show x.add j = x.add (j / 3 * 3 + 1) by rw [← e], add_nextN _ _ 1 (by decide)]; exact k1
  · rw [show fval l j = fval l (j / 3 * 3 + 2) by rw [← e], p2, show x.add j = x.add (j / 3 * 3 + 2) by rw [← e], add_nextN _ _ 2 (by decide)]; exact k2
theorem flds_own {w : World} {base e n : Nat} {v : Value} {l : List FieldV} (hn : l.length = n) (h : w.ownsRow base e 3 v n (fvals l)) (hs : ∀ y ∈ l, y.name.size ≤ 9223372036854775807) :
    ∃ a c, v = .slice a n c ∧ n ≤ c ∧ c ≤ 9223372036854775807 ∧ SlAt 3 FieldAt w a l ∧ (∀ x, a = some x → base ≤ x.block) := by
  subst hn
  obtain ⟨_, ⟨hv, h0⟩ | ⟨g, cap, cur, hv, hb, hg, hc1, hc2, hc3, hc4⟩⟩ := h
  · exact ⟨none, 0, by rw [hv, h0], by omega, by omega, fun h => by omega, fun x hx => by cases hx⟩
  · refine ⟨some ⟨g, 0, none⟩, cap, hv, hc1, by unfold maxLen at hc2; omega, fun _ => ⟨_, rfl, lt_of_heap hg, fun q hq => ?_⟩, fun x hx => by injection hx with hx; rw [← hx]; exact hb⟩
    have cell : ∀ j, j < l.length * 3 → w.cell? ⟨g, j, none⟩ = some (fval l j) := by
      intro j hj
      rw [cell_of_row _ _ _ _ _ _ hg]
      have := (fvals_get l j (fval l j)).2 ⟨hj, rfl⟩
      rw [← hc4, List.getElem?_take, if_pos hj] at this
      simpa using this
    obtain ⟨p0, p1, p2⟩ := fval_parts l q hq
    rw [add_zero_block]
    exact ⟨by rw [cell _ (by omega), p0], by show w.cell? ⟨g, q * 3 + 1, none⟩ = _; rw [cell _ (by omega), p1], by show w.cell? ⟨g, q * 3 + 2, none⟩ = _; rw [cell _ (by omega), p2], hs _ (List.getElem_mem _)⟩
theorem flds_names {w : World} {a : Option Addr} {l : List FieldV} (h : SlAt 3 FieldAt w a l) : ∀ y ∈ l, y.name.size ≤ 9223372036854775807 := by
  intro y hy
  obtain ⟨j, hj, rfl⟩ := List.mem_iff_getElem.1 hy
  obtain ⟨x, e, hx, hi⟩ := h (by omega)
  exact (hi j hj).2.2.2
end Go.Proofs.YtijeninfmjhbnaaDoor
end
