/- Lemmas for the law MigrateBack: FitAll, SystP, PlanSet, SystCl. No conditions. -/
import Derived.Test.YtijeninfmjhbnaaDoorM25
import Derived.Test.YtijeninfmjhbnaaDoorM26
import Derived.Test.YtijeninfmjhbnaaDoorM07
import Derived.Test.YtijeninfmjhbnaaDoorM01
import Derived.BigQuiet
import Derived.Deep.QuietTactic
import Derived.Deep.LoopGhost
/- The reference's FittedAll. -/
section
namespace Go.Proofs.YtijeninfmjhbnaaDoor
open Go.ChangeShapes Go.WideShapes Go.ChangeAt Go.RowKit Go.Nm Go.Mem Go.Maps
set_option linter.unusedVariables false
def fitGo (ks : List KindV) : List CompV → Part → Int × Part
  | [], M => (0, M)
  | c :: r, M => if c.kind < 0 ∨ (ks.length : Int) ≤ c.kind then (1, M) else if (M c.kind.toNat).isSome = true then (5, M)
    else if fitE (ks.getD c.kind.toNat default) c.vals ≠ 0 then (fitE (ks.getD c.kind.toNat default) c.vals, M)
    else fitGo ks r (updF M c.kind.toNat (fitL (ks.getD c.kind.toNat default).fields c.vals))
def fitAllE (ks : List KindV) (l : List CompV) : Int := (fitGo ks l (fun _ => none)).1
def fitAllM (ks : List KindV) (l : List CompV) : Part := (fitGo ks l (fun _ => none)).2
def FitAllPost (ks : List KindV) (l : List CompV) (W : World) (e : Ending) (w' : World) : Prop :=
  ((fitAllE ks l ≠ 0 ∧ e = .returned (.tuple #[.map none, .int .i64 (fitAllE ks l)])) ∨ (fitAllE ks l = 0 ∧ ∃ b n, e = .returned (.tuple #[.map (some b), .int .i64 0]) ∧ W.heap.size ≤ b ∧ MapI w' b n (fitAllM ks l))) ∧ Below W.heap.size W w'
theorem list13 {α : Type} {vs : List α} (h : vs.length = 13) : ∃ x0 x1 x2 x3 x4 x5 x6 x7 x8 x9 x10 x11 x12, vs = [x0, x1, x2, x3, x4, x5, x6, x7, x8, x9, x10, x11, x12] := by
  obtain ⟨x0, t0, rfl, h0⟩ := cons_of h
  obtain ⟨x1, t1, rfl, h1⟩ := cons_of h0
  obtain ⟨x2, t2, rfl, h2⟩ := cons_of h1
  obtain ⟨x3, t3, rfl, h3⟩ := cons_of h2
  obtain ⟨x4, t4, rfl, h4⟩ := cons_of h3
  obtain ⟨x5, t5, rfl, h5⟩ := cons_of h4
  obtain ⟨x6, t6, rfl, h6⟩ := cons_of h5
  obtain ⟨x7, t7, rfl, h7⟩ := cons_of h6
  obtain ⟨x8, t8, rfl, h8⟩ := cons_of h7
  obtain ⟨x9, t9, rfl, h9⟩ := cons_of h8
  obtain ⟨x10, t10, rfl, h10⟩ := cons_of h9
  obtain ⟨x11, t11, rfl, h11⟩ := cons_of h10
  obtain ⟨x12, t12, rfl, h12⟩ := cons_of h11
  exact ⟨x0, x1, x2, x3, x4, x5, x6, x7, x8, x9, x10, x11, x12, by rw [List.eq_nil_of_length_eq_zero h12]⟩
def F_fa (B wr kn kc kb ko q nf cf nv cv : Nat) (av af : Option Addr) (nm : ByteArray) (E : Int) (K : KindV) (vals : List Int) (jq : Nat) (v : Value) (w : World) : Prop :=
  match jq with
  | 0 => v = .slice (some ⟨kb, ko, none⟩) kn kc
  | 1 => v = .pointer (some ⟨wr, 0, none⟩)
  | 2 => v = .int .i64 (q : Int)
  | 3 => v = .pointer (some ⟨kb, ko + q * 2, none⟩)
  | 4 => v = .agg #[.string nm, .slice af nf cf]
  | 5 => v = .pointer (some ⟨wr, 1, none⟩)
  | 6 => v = .slice av nv cv
  | 7 => FitTU B K vals v w
  | 8 => FitTU B K vals v w
  | 9 => FitSU B K vals v w
  | 10 => v = .int .i64 E
  | 11 => FitSU B K vals v w
  | 12 => v = .int .i64 E
  | _ => True
theorem F_fa_mono (B wr kn kc kb ko q nf cf nv cv : Nat) (av af : Option Addr) (nm : ByteArray) (E : Int) (K : KindV) (vals : List Int) : Facts (F_fa B wr kn kc kb ko q nf cf nv cv  av af  nm  E  K  vals ) := ⟨by
  intro jq v w w' h hb
  unfold F_fa at h ⊢
  split at h
  all_goals first
    | exact h
    | exact FitSU.below h hb
    | exact FitTU.below h hb
    | trivial⟩

set_option maxHeartbeats 1000000 in
theorem ref_FittedAll (ks : List KindV) (l : List CompV) (ka a : Option Addr) (kn kc n ca : Nat) (hkn : ks.length = kn) (hn : l.length = n) (hk1 : kn ≤ 1048576) (h1 : n ≤ 1048576) (hvl : ∀ z ∈ l, z.vals.length ≤ 1048576) (W : World) (hzk : SlAt 2 KindAt W ka ks) (hz : SlAt 2 CompAt W a l) :
    Calls Tryd.prog 28 #[.slice ka kn kc, .slice a n ca] W (FitAllPost ks l W) := by
  obtain ⟨RE, hRE⟩ : ∃ R, R = fitAllE ks l := ⟨_, rfl⟩
  obtain ⟨RM, hRM⟩ : ∃ R, R = fitAllM ks l := ⟨_, rfl⟩
  unfold FitAllPost
  rw [← hRE, ← hRM]
  have HRE := Lib.hid hRE
  have HRM := Lib.hid hRM
  have HN := Lib.hid hkn
  have HM := Lib.hid hn
  have HZK := Lib.hid hzk
  have HZ := Lib.hid hz
  have HV := Lib.hid hvl
  obtain ⟨M, hM⟩ : ∃ M, M = W.heap.size := ⟨_, rfl⟩
  have hmade : MapI (W.alloc (.map #[] 0)) M 0 (fun _ => none) := by rw [hM]; exact MapI.new W
  have HMADE := Lib.hid hmade
  have hb0 := (Below.refl W.heap.size W).alloc (Nat.le_refl _) (.map #[] 0)
  have HB0 := Lib.hid hb0
  have HMM := Lib.hid hM
  have hmk := @run_makeMap Tryd.prog
  clear hRE hRM hkn hn hzk hz hvl hmade hb0
  go_enter Tryd.func28, Tryd.ntmps28
  go_wp2_with fail
  rw [← hM]
  clear hM
  go_loopg [16, 8, 9, 10, 11, 12] n (fun gk v16 _ _ _ _ _ wx => ∃ (i : Nat) (F : Part), i ≤ n ∧ gk = n - i ∧ v16 = .int .i64 i ∧ fitGo ks (l.drop i) F = (RE, RM) ∧ MapI wx M i F ∧ Below W.heap.size W wx)
  case atStart => exact ⟨0, fun _ => none, Nat.zero_le _, rfl, rfl, by rw [HRE.out, HRM.out]; rfl, HMADE.out, HB0.out⟩
  case round =>
    obtain ⟨i, F, hi0, g2, rfl, hgo, hmap, hb⟩ := hrel
    have G2 := Lib.hid g2
    have HGO := Lib.hid hgo
    have HB := Lib.hid hb
    have HMAP := Lib.hid hmap
    clear g2 hgo hmap hb
    by_cases hi : i < n
    · obtain ⟨x, rfl, _, _⟩ := HZ.out (by rw [HM.out]; omega)
      obtain ⟨xb, xo, rfl, av, cv, hcl, hiv⟩ := comp_cells (HZ.out.below CompAt.abides HB.out) i (by rw [HM.out]; exact hi)
      have hgo := HGO.out
      rw [List.drop_eq_getElem_cons (by rw [HM.out]; exact hi)] at hgo
      obtain ⟨y, hy⟩ : ∃ y, y = l[i]'(by rw [HM.out]; exact hi) := ⟨_, rfl⟩
      have hyv := HV.out _ (List.getElem_mem (by rw [HM.out]; exact hi) : l[i]'(by rw [HM.out]; exact hi) ∈ l)
      rw [← hy] at hcl hiv hgo hyv
      rw [fitGo] at hgo
      obtain ⟨nv, hnv⟩ : ∃ nv, nv = y.vals.length := ⟨_, rfl⟩
      rw [← hnv] at hcl hyv
      obtain ⟨kq, hkq⟩ : ∃ kq, kq = y.kind := ⟨_, rfl⟩
      rw [← hkq] at hcl hgo
      have e0 := hcl.at 0 (by simp)
      have e1 := hcl.at 1 (by simp)
      simp only [List.getElem_cons_zero, List.getElem_cons_succ, Nat.add_zero] at e0 e1
      have hro := new_row wr #[.int .i64 kq, .slice av nv cv] 87
      have q0 := hro.at 0 (by simp)
      have q1 := hro.at 1 (by simp)
      simp only [List.getElem_cons_zero, List.getElem_cons_succ, Nat.zero_add] at q0 q1
      have hbA : Below wr.heap.size wr (wr.alloc (.cells #[.int .i64 kq, .slice av nv cv] 87 (0, 0))) := (Below.refl _ _).alloc (Nat.le_refl _) _
      have Q0 := Lib.hid q0
      have Q1 := Lib.hid q1
      have HNV := Lib.hid hnv
      have HIV := Lib.hid (hiv.below hbA)
      have HBA := Lib.hid hbA
      have HGO2 := Lib.hid hgo
      have HYV := Lib.hid hyv
      have HMAPA := Lib.hid (HMAP.out.below hbA)
      have HNN := HN.out
      clear hy hkq hnv hcl hiv hro hbA hgo hyv
      by_cases hA : kq < 0
      · have hres := HGO2.out
        rw [if_pos (Or.inl hA)] at hres
        injection hres with hr1 hr2
        have HR1 := Lib.hid hr1
        clear hr1 hr2
        go_wp2_with fail
        go_ret2
        exact ⟨Or.inl ⟨by rw [← HR1.out]; decide, by rw [← HR1.out]; rfl⟩, bt HB.out HBA.out⟩
      · by_cases hB : (kn : Int) ≤ kq
        · have hres := HGO2.out
          rw [if_pos (Or.inr (by rw [HNN]; exact hB))] at hres
          injection hres with hr1 hr2
          have HR1 := Lib.hid hr1
          clear hr1 hr2
          go_wp2_with fail
          go_ret2
          exact ⟨Or.inl ⟨by rw [← HR1.out]; decide, by rw [← HR1.out]; rfl⟩, bt HB.out HBA.out⟩
        · obtain ⟨q, rfl⟩ : ∃ q : Nat, kq = (q : Int) := ⟨kq.toNat, by omega⟩
          have hqn : q < kn := by omega
          have hres := HGO2.out
          rw [if_neg (fun h => by rcases h with h | h; exact hA h; rw [HNN] at h; exact hB h), Int.toNat_natCast] at hres
          obtain ⟨z, rfl, _, _⟩ := HZK.out (by rw [HNN]; omega)
          obtain ⟨kb, ko, rfl, af, cf, hck, hnm, hnc, hcm, hfl⟩ := kind_cells (HZK.out.below KindAt.abides (bt HB.out HBA.out)) q (by rw [HNN]; exact hqn)
          have hgq : ks.getD q default = ks[q]'(by rw [HNN]; exact hqn) := by rw [List.getD_eq_getElem?_getD, List.getElem?_eq_getElem (by rw [HNN]; exact hqn)]; rfl
          rw [hgq] at hres
          obtain ⟨K, hK⟩ : ∃ K, K = ks[q]'(by rw [HNN]; exact hqn) := ⟨_, rfl⟩
          rw [← hK] at hck hnm hnc hfl hres
          obtain ⟨nf, hnf⟩ : ∃ nf, nf = K.fields.length := ⟨_, rfl⟩
          rw [← hnf] at hck hnc
          have HCC := Lib.hid (fun w' hb => ref_FittedU K af nf cf y.vals av nv cv hnf.symm HNV.out.symm (by have := HYV.out; omega) hnm hnc hcm w' (SlAt.below FieldAt.abides hfl hb) (IntsAt.below HIV.out hb))
          obtain ⟨nm, hnm2⟩ : ∃ nm, nm = K.name := ⟨_, rfl⟩
          rw [← hnm2] at hck HCC
          have HCK := Lib.hid hck
          have HRES := Lib.hid hres
          obtain ⟨D, hown, hF⟩ := HMAPA.out
          have hhas := (hF q).1
          have HOWN := Lib.hid hown
          have HF := Lib.hid hF
          have hkey := keyN_of (i := q) (by omega)
          have HKEY := Lib.hid hkey
          clear hres hgq hK hnf hnm2 hck hnm hnc hcm hfl hF
          cases hs : (F q).isSome with
          | true =>
            rw [hs] at hhas
            have hr := HRES.out
            rw [if_pos hs] at hr
            injection hr with hr1 hr2
            have HR1 := Lib.hid hr1
            clear hr1 hr2
            go_wp2_with (at_lookup; refine wpList_lookup_own_ok _ rfl _ _ 70 rfl 3 23 keyInt Tryd.underlying70 RV (zeroRow _) (.held (.slice none 0 0)) [] rfl M i D rfl hown (.int .i64 (q : Int)) (keyN q) rfl hkey ?_; intro cw ps hat; rw [hhas]; clear hat)
            go_ret2
            exact ⟨Or.inl ⟨by rw [← HR1.out]; decide, by rw [← HR1.out]; rfl⟩, bt HB.out HBA.out⟩
          | false =>
            rw [hs] at hhas
            have hr := HRES.out
            rw [if_neg (by rw [hs]; simp)] at hr
            obtain ⟨E, hE⟩ : ∃ E, E = fitE K y.vals := ⟨_, rfl⟩
            rw [← hE] at hr
            have HR := Lib.hid hr
            have HE := Lib.hid hE
            clear hr hE hs
            go_wp2_with (at_lookup; refine wpList_lookup_own_ok _ rfl _ _ 70 rfl 3 23 keyInt Tryd.underlying70 RV (zeroRow _) (.held (.slice none 0 0)) [] rfl M i D rfl hown (.int .i64 (q : Int)) (keyN q) rfl hkey ?_; intro cw ps hat; rw [hhas]; clear hat)
            clear hhas
            refine wp_region_facts_t rfl 13 (by kernel_rfl) (F_fa M wr.heap.size kn kc kb ko q nf cf nv cv av af nm E K y.vals) (F_fa_mono M wr.heap.size kn kc kb ko q nf cf nv cv av af nm E K y.vals) ?_ ?_
            · refine ⟨?_, ?_, ?_, ?_, ?_, ?_, ?_, ?_, ?_, ?_, ?_, ?_, ?_, trivial⟩
              · intro vs w' F hb hd hF hl hT
                have e := (hF 0).trans (look_out _ 0 _ _ (by kernel_rfl))
                exact one_move _ rfl (by first | exact Or.inl rfl | exact Or.inr rfl) ⟨_, rfl, Below.refl _ _, e⟩
              · intro vs w' F hb hd hF hl hT
                have e := (hF 8).trans (look_out _ 8 _ _ (by kernel_rfl))
                exact one_field _ _ _ rfl rfl _ _ e (0) (fun w => by kernel_rfl) ⟨_, rfl, Below.refl _ _, rfl⟩
              · intro vs w' F hb hd hF hl hT
                have e := ((hF 40).trans (look_at _ 40 1 _ _ (by kernel_rfl) (by kernel_rfl) hl)).trans (dep_of (Fact := F_fa M wr.heap.size kn kc kb ko q nf cf nv cv av af nm E K y.vals) hd 1 (by kernel_rfl))
                exact one_load _ _ rfl rfl _ _ e (cell_abides Q0.out hb) (by kernel_rfl) ⟨_, rfl, Below.refl _ _, rfl⟩
              · intro vs w' F hb hd hF hl hT
                have ex := ((hF 39).trans (look_at _ 39 0 _ _ (by kernel_rfl) (by kernel_rfl) hl)).trans (dep_of (Fact := F_fa M wr.heap.size kn kc kb ko q nf cf nv cv av af nm E K y.vals) hd 0 (by kernel_rfl))
                have ey := ((hF 41).trans (look_at _ 41 2 _ _ (by kernel_rfl) (by kernel_rfl) hl)).trans (dep_of (Fact := F_fa M wr.heap.size kn kc kb ko q nf cf nv cv av af nm E K y.vals) hd 2 (by kernel_rfl))
                exact one_index 22 _ _ rfl rfl (.slice (some ⟨kb, ko, none⟩) kn kc) (.int .i64 (q : Int)) (.pointer (some ⟨kb, ko + q * 2, none⟩)) ex ey (fun w => rg_idx Tryd.underlying22 (show (Tryd.prog.info? 43).map (·.size) = some 2 by kernel_rfl) (kb) (ko) (kn) (kc) (q) (by omega) w) ⟨_, rfl, Below.refl _ _, rfl⟩
              · intro vs w' F hb hd hF hl hT
                have e := ((hF 42).trans (look_at _ 42 3 _ _ (by kernel_rfl) (by kernel_rfl) hl)).trans (dep_of (Fact := F_fa M wr.heap.size kn kc kb ko q nf cf nv cv av af nm E K y.vals) hd 3 (by kernel_rfl))
                exact rg_load 43 _ rfl rfl (kb) (ko + q * 2) [.string nm, .slice af nf cf] e (HCK.out.below hb) _ Tryd.underlying43 rfl (by kernel_rfl) ⟨_, rfl, Below.refl _ _, rfl⟩
              · intro vs w' F hb hd hF hl hT
                have e := (hF 8).trans (look_out _ 8 _ _ (by kernel_rfl))
                exact one_field _ _ _ rfl rfl _ _ e (1) (fun w => by kernel_rfl) ⟨_, rfl, Below.refl _ _, rfl⟩
              · intro vs w' F hb hd hF hl hT
                have e := ((hF 44).trans (look_at _ 44 5 _ _ (by kernel_rfl) (by kernel_rfl) hl)).trans (dep_of (Fact := F_fa M wr.heap.size kn kc kb ko q nf cf nv cv av af nm E K y.vals) hd 5 (by kernel_rfl))
                exact one_load _ _ rfl rfl _ _ e (cell_abides Q1.out hb) (by kernel_rfl) ⟨_, rfl, Below.refl _ _, rfl⟩
              · intro vs w' F hb hd hF hl hT
                have e1 := (((hF 43).trans (look_at _ 43 4 _ _ (by kernel_rfl) (by kernel_rfl) hl)).trans (dep_of (Fact := F_fa M wr.heap.size kn kc kb ko q nf cf nv cv av af nm E K y.vals) hd 4 (by kernel_rfl)))
                have e2 := (((hF 45).trans (look_at _ 45 6 _ _ (by kernel_rfl) (by kernel_rfl) hl)).trans (dep_of (Fact := F_fa M wr.heap.size kn kc kb ko q nf cf nv cv av af nm E K y.vals) hd 6 (by kernel_rfl)))
                refine one_call _ _ rfl rfl (enters_of Tryd.func55 (by kernel_rfl) rfl) #[.agg #[.string nm, .slice af nf cf], .slice av nv cv] (eval2 e1 e2) ?_
                refine (HCC.out w' hb).mono ?_
                intro e3 w2 hp
                have hb2 := hp.2.2
                obtain ⟨v, rfl, ht⟩ := FitPostU.tuple (B := M) hp (by have h1 := HMAP.out.lt; have h2 := hb.size; simp only [World.size_alloc] at h2; omega)
                exact ⟨_, rfl, _, rfl, hb2, ht⟩
              · intro vs w' F hb hd hF hl hT
                have e := ((hF 46).trans (look_at _ 46 7 _ _ (by kernel_rfl) (by kernel_rfl) hl))
                have d := (dep_of (Fact := F_fa M wr.heap.size kn kc kb ko q nf cf nv cv av af nm E K y.vals) hd 7 (by kernel_rfl))
                rw [← e] at d
                exact one_move _ rfl (by first | exact Or.inl rfl | exact Or.inr rfl) ⟨_, rfl, Below.refl _ _, d⟩
              · intro vs w' F hb hd hF hl hT
                have e := ((hF 38).trans (look_at _ 38 8 _ _ (by kernel_rfl) (by kernel_rfl) hl))
                obtain ⟨u, hu, hs⟩ := (dep_of (Fact := F_fa M wr.heap.size kn kc kb ko q nf cf nv cv av af nm E K y.vals) hd 8 (by kernel_rfl))
                exact rg_extract _ _ rfl rfl _ u (e.trans hu) (fun w => rfl) ⟨_, rfl, Below.refl _ _, hs⟩
              · intro vs w' F hb hd hF hl hT
                have e := ((hF 38).trans (look_at _ 38 8 _ _ (by kernel_rfl) (by kernel_rfl) hl))
                obtain ⟨u, hu, hs⟩ := (dep_of (Fact := F_fa M wr.heap.size kn kc kb ko q nf cf nv cv av af nm E K y.vals) hd 8 (by kernel_rfl))
                rw [← HE.out] at hu
                exact rg_extract _ _ rfl rfl _ (.int .i64 E) (e.trans hu) (fun w => rfl) ⟨_, rfl, Below.refl _ _, rfl⟩
              · intro vs w' F hb hd hF hl hT
                have e := ((hF 47).trans (look_at _ 47 9 _ _ (by kernel_rfl) (by kernel_rfl) hl))
                have d := (dep_of (Fact := F_fa M wr.heap.size kn kc kb ko q nf cf nv cv av af nm E K y.vals) hd 9 (by kernel_rfl))
                rw [← e] at d
                exact one_move _ rfl (by first | exact Or.inl rfl | exact Or.inr rfl) ⟨_, rfl, Below.refl _ _, d⟩
              · intro vs w' F hb hd hF hl hT
                have e := ((hF 48).trans (look_at _ 48 10 _ _ (by kernel_rfl) (by kernel_rfl) hl)).trans (dep_of (Fact := F_fa M wr.heap.size kn kc kb ko q nf cf nv cv av af nm E K y.vals) hd 10 (by kernel_rfl))
                exact one_move _ rfl (by first | exact Or.inl rfl | exact Or.inr rfl) ⟨_, rfl, Below.refl _ _, e⟩
            · intro vs8 W8 hl hb hI
              have i11 : FitSU M K y.vals (vs8.getD 11 undef) W8 := hI 11 (by omega)
              have i12 : vs8.getD 12 undef = .int .i64 E := hI 12 (by omega)
              obtain ⟨x0, x1, x2, x3, x4, x5, x6, x7, x8, x9, x10, x11, x12, hvs⟩ := list13 hl
              subst hvs
              replace i11 : FitSU M K y.vals x11 W8 := i11
              replace i12 : x12 = .int .i64 E := i12
              subst i12
              have HS := Lib.hid i11
              have HB8 := Lib.hid hb
              clear i11 hI hl hb
              simp only [fillAll, Act.put, List.setIfInBounds_toArray, List.set_cons_succ, List.set_cons_zero]
              show wpList _ _ _ [] _ _
              by_cases he : E = 0
              · subst he
                obtain ⟨fa, fc, rfl, hfi1, hfi2⟩ := HS.out.2 HE.out.symm
                have hfi : IntsU M W8 fa (fitL K.fields y.vals) := ⟨hfi1, hfi2⟩
                have HFI := Lib.hid hfi
                have hlen := fitL_len HE.out.symm
                have HLEN := Lib.hid hlen
                have c0 := cell_abides Q0.out HB8.out
                have hown8 : OwnV W8 M i D := HOWN.out.kept (row := none) (below_gn HB8.out _) (by simp)
                have t0 : ((0 : Int) != 0) = false := rfl
                clear hown hfi hfi1 hfi2 hlen q0 q1 e0 e1
                go_wp2_with (at_mapUpdate; go_must (refine wpList_mapUpdate_own _ rfl _ _ _ 70 rfl 3 23 keyInt Tryd.underlying70 RV M i D rfl hown8 (by have : maxLen = 9223372036854775807 := rfl; omega) (.int .i64 (q : Int)) _ (keyN q) rfl rfl hkey (.held _) [] rfl ?_); intro w9 hown9 hg9)
                have hF8 : ∀ j : Nat, Maps.has D (keyN j) = (F j).isSome ∧ ∀ L, F j = some L → ∃ a c, D.atKey (keyN j) (.held (.slice none 0 0)) = .held (.slice a L.length c) ∧ IntsU M W8 a L := fun j => ⟨(HF.out j).1, fun L hL => by
                  obtain ⟨a2, c2, p1, p2⟩ := (HF.out j).2 L hL
                  exact ⟨a2, c2, p1, p2.below HB8.out⟩⟩
                have hm9 : MapI w9 M (i + 1) (updF F q (fitL K.fields y.vals)) := MapI.put hown8 hF8 q (fitL K.fields y.vals) fa fc HFI.out (by rw [HLEN.out]; exact hown9) hg9
                have HM9 := Lib.hid hm9
                have HR9 := Lib.hid (show fitGo ks (l.drop (i + 1)) (updF F q (fitL K.fields y.vals)) = (RE, RM) by have h := HR.out; rw [if_neg (by simp)] at h; exact h)
                have HB9 := Lib.hid ((bt HB.out (bt HBA.out HB8.out)).grown hg9 (bt HB.out (bt HBA.out HB8.out)).size (fun r h => by injection h with h; rw [← h, HMM.out]; exact Nat.le_refl _))
                clear hown8 hown9 hg9 hF8 hm9 c0
                go_wp2
                go_roundg (n - (i + 1))
                case measure => rw [G2.out]; omega
                case rel => exact ⟨i + 1, _, hi, rfl, by go_num, HR9.out, HM9.out, HB9.out⟩
              · have t0 : (E != 0) = true := by rw [bne_iff_ne]; exact he
                have hr := HR.out
                rw [if_pos he] at hr
                injection hr with hr1 hr2
                have HR1 := Lib.hid hr1
                clear hr1 hr2 q0 q1 e0 e1 hown
                go_wp2
                go_ret2
                exact ⟨Or.inl ⟨by rw [← HR1.out]; exact he, by rw [← HR1.out]; rfl⟩, bt HB.out (bt HBA.out HB8.out)⟩
    · obtain rfl : i = n := by omega
      have hres := HGO.out
      rw [List.drop_of_length_le (by rw [HM.out]; exact Nat.le_refl _), fitGo] at hres
      injection hres with hr1 hr2
      have HR1 := Lib.hid hr1
      have HR2 := Lib.hid hr2
      clear hr1 hr2
      go_wp2_with fail
      go_ret2
      exact ⟨Or.inr ⟨HR1.out.symm, M, _, rfl, by rw [HMM.out]; exact Nat.le_refl _, by rw [← HR2.out]; exact HMAP.out⟩, HB.out⟩
end Go.Proofs.YtijeninfmjhbnaaDoor
end
/- What a system's check computes: plain. -/
section
namespace Go.Proofs.YtijeninfmjhbnaaDoor
set_option linter.unusedVariables false
open Go.Nm
def refOk (ks : List KindV) (rk rf : Int) : Bool := decide (0 ≤ rk) && (decide (rk < ks.length) && (decide (0 ≤ rf) && decide (rf < (ks.getD rk.toNat default).fields.length)))
def setsB (d : Int) : Bool := decide (0 ≤ d) && decide (d ≤ 7)
def twoB (d : Int) : Bool := (decide (1 ≤ d) && decide (d ≤ 6)) || decide (d = 12)
def chB (d : Int) : Bool := decide (d = 8) || decide (d = 9)
def a1B (ks : List KindV) (x : ArgV) : Bool := if x.has then !refOk ks x.rk x.rf else decide (x.n < -1099511627776) || decide (1099511627776 < x.n)
def a2B (x : ArgV) : Bool := if x.has then decide (x.n ≠ 0) else !(decide (x.rk = 0) && decide (x.rf = 0))
def a3B (rs ws : List Int) (x : ArgV) : Bool := x.has && (!decide (x.rk ∈ rs) && !decide (x.rk ∈ ws))
def zeroB (x : ArgV) : Bool := !x.has && (decide (x.n = 0) && (decide (x.rk = 0) && decide (x.rf = 0)))
def op6 (rs ws : List Int) (o : OpV) : Int := if (a3B rs ws o.a || a3B rs ws o.b) = true then 8 else 0
def op5 (rs ws : List Int) (o : OpV) : Int := if (setsB o.do_ && !decide (o.tk ∈ ws)) = true then 8 else op6 rs ws o
def bad4 (ks : List KindV) (o : OpV) : Bool := setsB o.do_ && !refOk ks o.tk o.tf || chB o.do_ && (decide (o.tk < 0) || decide ((ks.length : Int) ≤ o.tk))
def op4 (ks : List KindV) (rs ws : List Int) (o : OpV) : Int := if bad4 ks o = true then 1 else op5 rs ws o
def bad3 (o : OpV) : Bool := !twoB o.do_ && !zeroB o.b || (!setsB o.do_ && !chB o.do_ && !(decide (o.tk = 0) && decide (o.tf = 0)) || chB o.do_ && decide (o.tf ≠ 0))
def op3 (ks : List KindV) (rs ws : List Int) (o : OpV) : Int := if bad3 o = true then 3 else op4 ks rs ws o
def op2 (ks : List KindV) (rs ws : List Int) (o : OpV) : Int := if (a2B o.a || a2B o.b) = true then 3 else op3 ks rs ws o
def op1 (ks : List KindV) (rs ws : List Int) (o : OpV) : Int := if (a1B ks o.a || a1B ks o.b) = true then 1 else op2 ks rs ws o
def opE (ks : List KindV) (rs ws : List Int) (o : OpV) : Int := if o.do_ < 0 ∨ 12 < o.do_ then 1 else op1 ks rs ws o
def setGo (n : Int) : Int → List Int → Int
  | _, [] => 0
  | last, x :: r => if x < 0 ∨ n ≤ x then 1 else if x ≤ last then 9 else setGo n x r
def setE (n : Nat) (l : List Int) : Int := setGo n (-1) l
def opsGo (ks : List KindV) (rs ws : List Int) : List OpV → Int
  | [] => 0
  | o :: r => if opE ks rs ws o ≠ 0 then opE ks rs ws o else opsGo ks rs ws r
def systE (ks : List KindV) (s : SystV) : Int :=
  if kindsE ks ≠ 0 then kindsE ks else if nameB s.name.data.toList = false then 3 else if 20 < s.ops.length then 2 else
  if setE ks.length s.withs ≠ 0 then setE ks.length s.withs else if setE ks.length s.without ≠ 0 then setE ks.length s.without else
  if setE ks.length s.reads ≠ 0 then setE ks.length s.reads else if setE ks.length s.writes ≠ 0 then setE ks.length s.writes else
  if s.withs.any (fun x => decide (x ∈ s.without)) = true then 10 else
  if (s.reads ++ s.writes).any (fun x => !decide (x ∈ s.withs)) = true then 8 else
  if fitAllE ks s.spawn ≠ 0 then fitAllE ks s.spawn else opsGo ks s.reads s.writes s.ops
end Go.Proofs.YtijeninfmjhbnaaDoor
end
/- Lists that meet: slices.Index, Contains, ContainsFunc with the closures of plan.Conflict; plan.Conflict. -/
section
namespace Go.Proofs.YtijeninfmjhbnaaDoor
open Go.ChangeShapes Go.WideShapes Go.ChangeAt Go.RowKit Go.Mem
set_option linter.unusedVariables false
theorem getD_mem {l : List Int} {i : Nat} (h : i < l.length) : l.getD i 0 ∈ l := by
  rw [List.getD_eq_getElem?_getD, List.getElem?_eq_getElem h]; exact List.getElem_mem h
theorem mem_getD {l : List Int} {k : Int} (h : k ∈ l) : ∃ i, i < l.length ∧ l.getD i 0 = k := by
  obtain ⟨i, hi, rfl⟩ := List.getElem_of_mem h
  exact ⟨i, hi, by rw [List.getD_eq_getElem?_getD, List.getElem?_eq_getElem hi]; rfl⟩
set_option maxHeartbeats 2000000 in
theorem index_ints (a : Option Addr) (c n : Nat) (l : List Int) (k : Int) (hn : l.length = n) (h1 : n ≤ 9223372036854775807) (w : World) (ha : IntsAt .i64 w a l) :
    Calls Tryd.prog 41 #[.slice a n c, .int .i64 k] w fun e w' => (∃ r : Int, e = .returned (.int .i64 r) ∧ (0 ≤ r ↔ k ∈ l)) ∧ Below w.heap.size w w' := by
  have HN := Lib.hid hn
  have HA := Lib.hid ha
  clear hn ha
  go_enter Tryd.func41, Tryd.ntmps41
  go_wp2_with fail
  go_loopg [5, 8] n (fun gk _ vi wx => ∃ i : Nat, i ≤ n ∧ gk = n - i ∧ vi = .int .i64 i ∧ (∀ j, j < i → l.getD j 0 ≠ k) ∧ Below w.heap.size w wx)
  case atStart => exact ⟨0, by omega, rfl, rfl, fun j h => by omega, Below.refl _ _⟩
  case round =>
    obtain ⟨i, g1, g2, rfl, hne, hbw⟩ := hrel
    have G2 := Lib.hid g2
    have HNE := Lib.hid hne
    clear g2 hne
    by_cases hlt : i < n
    · obtain ⟨x, rfl, hx, hcx⟩ := HA.out (by rw [HN.out]; omega)
      obtain ⟨p, hp⟩ : ∃ p, p = l.getD i 0 := ⟨_, rfl⟩
      have cx := (hbw.cell (by rw [block_of_add]; exact hx)).trans (hcx i (by rw [HN.out]; omega))
      rw [← hp] at cx
      have HP := Lib.hid hp
      clear hcx hp
      by_cases e : k = p
      · subst e
        have hee : (k == k) = true := by simp
        have hm : k ∈ l := by rw [HP.out]; exact getD_mem (by rw [HN.out]; exact hlt)
        have HM := Lib.hid hm
        clear hm
        go_wp2
        go_ret
        exact ⟨⟨(i : Int), rfl, ⟨fun _ => HM.out, fun _ => by omega⟩⟩, hbw⟩
      · have hee : (k == p) = false := by rw [beq_eq_false_iff_ne]; exact e
        go_wp2
        go_roundg (n - (i + 1))
        case measure => rw [G2.out]; omega
        case rel => exact ⟨i + 1, by omega, rfl, by go_num, fun j hj => by
          by_cases q : j = i
          · rw [q, ← HP.out]; exact fun h => e h.symm
          · exact HNE.out j (by omega), hbw⟩
    · go_wp2
      go_ret
      refine ⟨⟨-1, rfl, ⟨fun h => absurd h (by decide), fun h => ?_⟩⟩, hbw⟩
      obtain ⟨j, hj, hk⟩ := mem_getD h
      exact absurd hk (HNE.out j (by rw [HN.out] at hj; omega))
theorem contains_ints (a : Option Addr) (c n : Nat) (l : List Int) (k : Int) (hn : l.length = n) (h1 : n ≤ 9223372036854775807) (w : World) (ha : IntsAt .i64 w a l) :
    Calls Tryd.prog 21 #[.slice a n c, .int .i64 k] w fun e w' => e = .returned (.bool (decide (k ∈ l))) ∧ Below w.heap.size w w' := by
  have CI := Lib.hid (index_ints a c n l k hn h1 w ha)
  obtain ⟨b, hb⟩ : ∃ b, b = decide (k ∈ l) := ⟨_, rfl⟩
  rw [← hb]
  have HB := Lib.hid hb
  clear hb ha hn
  go_enter Tryd.func21, Tryd.ntmps21
  go_wp2_with fail
  refine CI.out.mono ?_
  rintro e w1 ⟨⟨r, rfl, hr⟩, hb1⟩
  by_cases h0 : 0 ≤ r
  · have HE := Lib.hid (show b = true by rw [HB.out]; exact decide_eq_true (hr.1 h0))
    clear hr
    go_wp2
    go_ret
    exact ⟨by rw [HE.out]; simp, hb1⟩
  · have HE := Lib.hid (show b = false by rw [HB.out]; exact decide_eq_false (fun h => h0 (hr.2 h)))
    clear hr
    go_wp2
    go_ret
    exact ⟨by rw [HE.out]; simp [h0], hb1⟩
/-- the closure: its list lies in a box -/
def BoxAt (w : World) (g : Nat) (l : List Int) : Prop := ∃ a c, w.cell? ⟨g, 0, none⟩ = some (.slice a l.length c) ∧ IntsAt .i64 w a l
theorem BoxAt.below {w w' : World} {g : Nat} {l : List Int} (h : BoxAt w g l) (hb : Below w.heap.size w w') : BoxAt w' g l := by
  obtain ⟨a, c, h1, h2⟩ := h
  exact ⟨a, c, cell_abides h1 hb, h2.below hb⟩
/-- two lists that meet -/
def meetB (x y : List Int) : Bool := x.any fun k => decide (k ∈ y)
theorem meetB_iff (x y : List Int) : meetB x y = true ↔ ∃ k ∈ x, k ∈ y := by unfold meetB; simp
end Go.Proofs.YtijeninfmjhbnaaDoor
end
/- slices.ContainsFunc at integers with the closures of system.Check. By program (gen_systcl.py). -/
section
namespace Go.Proofs.YtijeninfmjhbnaaDoor
open Go.ChangeShapes Go.WideShapes Go.ChangeAt Go.RowKit Go.Mem
set_option linter.unusedVariables false
/-- a list at the place q of a boxed struct -/
def BoxF (w : World) (g q : Nat) (l : List Int) : Prop := ∃ a c, w.cell? ⟨g, q, none⟩ = some (.slice a l.length c) ∧ IntsAt .i64 w a l
theorem BoxF.below {w w' : World} {g q : Nat} {l : List Int} (h : BoxF w g q l) (hb : Below w.heap.size w w') : BoxF w' g q l := by
  obtain ⟨a, c, h1, h2⟩ := h
  exact ⟨a, c, cell_abides h1 hb, h2.below hb⟩
def inP (k : Int) (l : List Int) : Bool := decide (k ∈ l)
theorem clos_in (g : Nat) (l : List Int) (k : Int) (h1 : l.length ≤ 9223372036854775807) (w : World) (hx : BoxF w g 2 l) :
    Calls Tryd.prog 20 #[.int .i64 k, .pointer (some ⟨g, 0, none⟩)] w fun e w' => e = .returned (.bool (inP k l)) ∧ Below w.heap.size w w' := by
  obtain ⟨a, c, hc, ha⟩ := hx
  obtain ⟨n, hn⟩ : ∃ n, n = l.length := ⟨_, rfl⟩
  have CC := Lib.hid (contains_ints a c n l k hn.symm (by omega) w ha)
  rw [← hn] at hc
  unfold inP
  obtain ⟨b, hb⟩ : ∃ b, b = decide (k ∈ l) := ⟨_, rfl⟩
  rw [← hb] at CC ⊢
  clear hn ha hb
  go_enter Tryd.func20, Tryd.ntmps20
  go_wp2_with fail
  refine CC.out.mono ?_
  rintro e w1 ⟨rfl, hb1⟩
  go_wp2
  go_ret
  exact ⟨rfl, hb1⟩
set_option maxHeartbeats 2000000 in
theorem idxf_in (a : Option Addr) (c n g : Nat) (l y : List Int) (hn : l.length = n) (h1 : n ≤ 9223372036854775807) (h2 : y.length ≤ 9223372036854775807) (w : World) (ha : IntsAt .i64 w a l) (hx : BoxF w g 2 y) :
    Calls Tryd.prog 40 #[.slice a n c, .func (.func 20) #[] #[.pointer (some ⟨g, 0, none⟩)]] w fun e w' => (∃ r : Int, e = .returned (.int .i64 r) ∧ (0 ≤ r ↔ ∃ k ∈ l, inP k y = true)) ∧ Below w.heap.size w w' := by
  have HN := Lib.hid hn
  have HA := Lib.hid ha
  have HX := Lib.hid hx
  clear hn ha hx
  go_enter Tryd.func40, Tryd.ntmps40
  go_wp2_with fail
  go_loopg [5, 8] n (fun gk _ vi wx => ∃ i : Nat, i ≤ n ∧ gk = n - i ∧ vi = .int .i64 i ∧ (∀ j, j < i → inP (l.getD j 0) y = false) ∧ Below w.heap.size w wx)
  case atStart => exact ⟨0, by omega, rfl, rfl, fun j h => by omega, Below.refl _ _⟩
  case round =>
    obtain ⟨i, g1, g2, rfl, hne, hbw⟩ := hrel
    have G2 := Lib.hid g2
    have HNE := Lib.hid hne
    clear g2 hne
    by_cases hlt : i < n
    · obtain ⟨x, rfl, hx, hcx⟩ := HA.out (by rw [HN.out]; omega)
      obtain ⟨p, hp⟩ : ∃ p, p = l.getD i 0 := ⟨_, rfl⟩
      have cx := (hbw.cell (by rw [block_of_add]; exact hx)).trans (hcx i (by rw [HN.out]; omega))
      rw [← hp] at cx
      have HP := Lib.hid hp
      have CC := Lib.hid (clos_in g y p h2 wr (HX.out.below hbw))
      obtain ⟨b, hb⟩ : ∃ b, b = inP p y := ⟨_, rfl⟩
      rw [← hb] at CC
      have HB := Lib.hid hb
      clear hcx hp hb
      go_wp2_with fail
      refine CC.out.mono ?_
      rintro e w1 ⟨rfl, hb1⟩
      have hbw2 := bt hbw hb1
      clear hbw hb1 CC
      cases b with
      | true =>
        have hm : ∃ k ∈ l, inP k y = true := ⟨p, by rw [HP.out]; exact getD_mem (by rw [HN.out]; exact hlt), HB.out.symm⟩
        have HM := Lib.hid hm
        clear hm
        go_wp2
        go_ret
        exact ⟨⟨(i : Int), rfl, ⟨fun _ => HM.out, fun _ => by omega⟩⟩, hbw2⟩
      | false =>
        go_wp2
        go_roundg (n - (i + 1))
        case measure => rw [G2.out]; omega
        case rel => exact ⟨i + 1, by omega, rfl, by go_num, fun j hj => by
          by_cases q : j = i
          · rw [q, ← HP.out]; exact HB.out.symm
          · exact HNE.out j (by omega), hbw2⟩
    · go_wp2
      go_ret
      refine ⟨⟨-1, rfl, ⟨fun h => absurd h (by decide), fun h => ?_⟩⟩, hbw⟩
      obtain ⟨k, hk, hky⟩ := h
      obtain ⟨j, hj, rfl⟩ := mem_getD hk
      rw [HNE.out j (by rw [HN.out] at hj; omega)] at hky
      cases hky
theorem conf_in (a : Option Addr) (c n g : Nat) (l y : List Int) (hn : l.length = n) (h1 : n ≤ 9223372036854775807) (h2 : y.length ≤ 9223372036854775807) (w : World) (ha : IntsAt .i64 w a l) (hx : BoxF w g 2 y) :
    Calls Tryd.prog 19 #[.slice a n c, .func (.func 20) #[] #[.pointer (some ⟨g, 0, none⟩)]] w fun e w' => e = .returned (.bool (l.any fun k => inP k y)) ∧ Below w.heap.size w w' := by
  have CI := Lib.hid (idxf_in a c n g l y hn h1 h2 w ha hx)
  obtain ⟨b, hb⟩ : ∃ b, b = l.any fun k => inP k y := ⟨_, rfl⟩
  have hiff : (l.any fun k => inP k y) = true ↔ ∃ k ∈ l, inP k y = true := by rw [List.any_eq_true]
  rw [← hb] at hiff ⊢
  have HIFF := Lib.hid hiff
  clear hb ha hn hx hiff
  go_enter Tryd.func19, Tryd.ntmps19
  go_wp2_with fail
  refine CI.out.mono ?_
  rintro e w1 ⟨⟨r, rfl, hr⟩, hb1⟩
  by_cases h0 : 0 ≤ r
  · have HE := Lib.hid (show b = true from HIFF.out.2 (hr.1 h0))
    clear hr
    go_wp2
    go_ret
    exact ⟨by rw [HE.out]; simp, hb1⟩
  · have HE := Lib.hid (show b = false by rw [Bool.eq_false_iff]; exact fun h => h0 (hr.2 (HIFF.out.1 h)))
    clear hr
    go_wp2
    go_ret
    exact ⟨by rw [HE.out]; simp [h0], hb1⟩
def outP (k : Int) (l : List Int) : Bool := !decide (k ∈ l)
theorem clos_out (g : Nat) (l : List Int) (k : Int) (h1 : l.length ≤ 9223372036854775807) (w : World) (hx : BoxF w g 1 l) :
    Calls Tryd.prog 23 #[.int .i64 k, .pointer (some ⟨g, 0, none⟩)] w fun e w' => e = .returned (.bool (outP k l)) ∧ Below w.heap.size w w' := by
  obtain ⟨a, c, hc, ha⟩ := hx
  obtain ⟨n, hn⟩ : ∃ n, n = l.length := ⟨_, rfl⟩
  have CC := Lib.hid (contains_ints a c n l k hn.symm (by omega) w ha)
  rw [← hn] at hc
  unfold outP
  obtain ⟨b, hb⟩ : ∃ b, b = decide (k ∈ l) := ⟨_, rfl⟩
  rw [← hb] at CC ⊢
  clear hn ha hb
  go_enter Tryd.func23, Tryd.ntmps23
  go_wp2_with fail
  refine CC.out.mono ?_
  rintro e w1 ⟨rfl, hb1⟩
  go_wp2
  go_ret
  exact ⟨rfl, hb1⟩
set_option maxHeartbeats 2000000 in
theorem idxf_out (a : Option Addr) (c n g : Nat) (l y : List Int) (hn : l.length = n) (h1 : n ≤ 9223372036854775807) (h2 : y.length ≤ 9223372036854775807) (w : World) (ha : IntsAt .i64 w a l) (hx : BoxF w g 1 y) :
    Calls Tryd.prog 40 #[.slice a n c, .func (.func 23) #[] #[.pointer (some ⟨g, 0, none⟩)]] w fun e w' => (∃ r : Int, e = .returned (.int .i64 r) ∧ (0 ≤ r ↔ ∃ k ∈ l, outP k y = true)) ∧ Below w.heap.size w w' := by
  have HN := Lib.hid hn
  have HA := Lib.hid ha
  have HX := Lib.hid hx
  clear hn ha hx
  go_enter Tryd.func40, Tryd.ntmps40
  go_wp2_with fail
  go_loopg [5, 8] n (fun gk _ vi wx => ∃ i : Nat, i ≤ n ∧ gk = n - i ∧ vi = .int .i64 i ∧ (∀ j, j < i → outP (l.getD j 0) y = false) ∧ Below w.heap.size w wx)
  case atStart => exact ⟨0, by omega, rfl, rfl, fun j h => by omega, Below.refl _ _⟩
  case round =>
    obtain ⟨i, g1, g2, rfl, hne, hbw⟩ := hrel
    have G2 := Lib.hid g2
    have HNE := Lib.hid hne
    clear g2 hne
    by_cases hlt : i < n
    · obtain ⟨x, rfl, hx, hcx⟩ := HA.out (by rw [HN.out]; omega)
      obtain ⟨p, hp⟩ : ∃ p, p = l.getD i 0 := ⟨_, rfl⟩
      have cx := (hbw.cell (by rw [block_of_add]; exact hx)).trans (hcx i (by rw [HN.out]; omega))
      rw [← hp] at cx
      have HP := Lib.hid hp
      have CC := Lib.hid (clos_out g y p h2 wr (HX.out.below hbw))
      obtain ⟨b, hb⟩ : ∃ b, b = outP p y := ⟨_, rfl⟩
      rw [← hb] at CC
      have HB := Lib.hid hb
      clear hcx hp hb
      go_wp2_with fail
      refine CC.out.mono ?_
      rintro e w1 ⟨rfl, hb1⟩
      have hbw2 := bt hbw hb1
      clear hbw hb1 CC
      cases b with
      | true =>
        have hm : ∃ k ∈ l, outP k y = true := ⟨p, by rw [HP.out]; exact getD_mem (by rw [HN.out]; exact hlt), HB.out.symm⟩
        have HM := Lib.hid hm
        clear hm
        go_wp2
        go_ret
        exact ⟨⟨(i : Int), rfl, ⟨fun _ => HM.out, fun _ => by omega⟩⟩, hbw2⟩
      | false =>
        go_wp2
        go_roundg (n - (i + 1))
        case measure => rw [G2.out]; omega
        case rel => exact ⟨i + 1, by omega, rfl, by go_num, fun j hj => by
          by_cases q : j = i
          · rw [q, ← HP.out]; exact HB.out.symm
          · exact HNE.out j (by omega), hbw2⟩
    · go_wp2
      go_ret
      refine ⟨⟨-1, rfl, ⟨fun h => absurd h (by decide), fun h => ?_⟩⟩, hbw⟩
      obtain ⟨k, hk, hky⟩ := h
      obtain ⟨j, hj, rfl⟩ := mem_getD hk
      rw [HNE.out j (by rw [HN.out] at hj; omega)] at hky
      cases hky
theorem conf_out (a : Option Addr) (c n g : Nat) (l y : List Int) (hn : l.length = n) (h1 : n ≤ 9223372036854775807) (h2 : y.length ≤ 9223372036854775807) (w : World) (ha : IntsAt .i64 w a l) (hx : BoxF w g 1 y) :
    Calls Tryd.prog 19 #[.slice a n c, .func (.func 23) #[] #[.pointer (some ⟨g, 0, none⟩)]] w fun e w' => e = .returned (.bool (l.any fun k => outP k y)) ∧ Below w.heap.size w w' := by
  have CI := Lib.hid (idxf_out a c n g l y hn h1 h2 w ha hx)
  obtain ⟨b, hb⟩ : ∃ b, b = l.any fun k => outP k y := ⟨_, rfl⟩
  have hiff : (l.any fun k => outP k y) = true ↔ ∃ k ∈ l, outP k y = true := by rw [List.any_eq_true]
  rw [← hb] at hiff ⊢
  have HIFF := Lib.hid hiff
  clear hb ha hn hx hiff
  go_enter Tryd.func19, Tryd.ntmps19
  go_wp2_with fail
  refine CI.out.mono ?_
  rintro e w1 ⟨⟨r, rfl, hr⟩, hb1⟩
  by_cases h0 : 0 ≤ r
  · have HE := Lib.hid (show b = true from HIFF.out.2 (hr.1 h0))
    clear hr
    go_wp2
    go_ret
    exact ⟨by rw [HE.out]; simp, hb1⟩
  · have HE := Lib.hid (show b = false by rw [Bool.eq_false_iff]; exact fun h => h0 (hr.2 (HIFF.out.1 h)))
    clear hr
    go_wp2
    go_ret
    exact ⟨by rw [HE.out]; simp [h0], hb1⟩
end Go.Proofs.YtijeninfmjhbnaaDoor
end
