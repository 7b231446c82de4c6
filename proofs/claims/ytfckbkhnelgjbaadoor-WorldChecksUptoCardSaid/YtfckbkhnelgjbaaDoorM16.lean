/- Lemmas for the law WorldChecks: FitAll, OpenP. No conditions. -/
import Derived.Test.YtfckbkhnelgjbaaDoorM06
import Derived.Test.YtfckbkhnelgjbaaDoorM15
import Derived.Test.YtfckbkhnelgjbaaDoorM07
/- The reference's FittedAll. -/
section
namespace Go.Proofs.YtfckbkhnelgjbaaDoor
open Go.ChangeShapes Go.WideShapes Go.ChangeAt Go.RowKit Go.Nm Go.Mem Go.Maps
set_option linter.unusedVariables false
def fitGo (ks : List KindV) : List CompV → Part → Int × Part
  | [], M => (0, M)
  | c :: r, M => if c.kind < 0 ∨ (ks.length : Int) ≤ c.kind then (1, M) else if (M c.kind.toNat).isSome = true then (5, M)
    else if fitE (ks.getD c.kind.toNat default) c.vals ≠ 0 then (fitE (ks.getD c.kind.toNat default) c.vals, M)
    else fitGo ks r (updF M c.kind.toNat (fitL (ks.getD c.kind.toNat default).fields c.vals))
def fitAllE (ks : List KindV) (l : List CompV) : Int := (fitGo ks l (fun _ => none)).1
def fitAllM (ks : List KindV) (l : List CompV) : Part := (fitGo ks l (fun _ => none)).2
def FitAllPost (ks : List KindV) (l : List CompV) (W : World) (e : Ending) (w' : World) : Prop :=
  ((fitAllE ks l ≠ 0 ∧ e = .returned (.tuple #[.map none, .int .i64 (fitAllE ks l)])) ∨ (fitAllE ks l = 0 ∧ ∃ b n, e = .returned (.tuple #[.map (some b), .int .i64 0]) ∧ W.heap.size ≤ b ∧ MapI w' b n (fitAllM ks l))) ∧ Below W.heap.size W w'
theorem list13 {α : Type} {vs : List α} (h : vs.length = 13) : ∃ x0 x1 x2 x3 x4 x5 x6 x7 x8 x9 x10 x11 x12, vs = [x0, x1, x2, x3, x4, x5, x6, x7, x8, x9, x10, x11, x12] := by
  obtain ⟨x0, t0, rfl, h0⟩ := cons_of h
  obtain ⟨x1, t1, rfl, h1⟩ := cons_of h0
  obtain ⟨x2, t2, rfl, h2⟩ := cons_of h1
  obtain ⟨x3, t3, rfl, h3⟩ := cons_of h2
  obtain ⟨x4, t4, rfl, h4⟩ := cons_of h3
  obtain ⟨x5, t5, rfl, h5⟩ := cons_of h4
  obtain ⟨x6, t6, rfl, h6⟩ := cons_of h5
  obtain ⟨x7, t7, rfl, h7⟩ := cons_of h6
  obtain ⟨x8, t8, rfl, h8⟩ := cons_of h7
  obtain ⟨x9, t9, rfl, h9⟩ := cons_of h8
  obtain ⟨x10, t10, rfl, h10⟩ := cons_of h9
  obtain ⟨x11, t11, rfl, h11⟩ := cons_of h10
  obtain ⟨x12, t12, rfl, h12⟩ := cons_of h11
  exact ⟨x0, x1, x2, x3, x4, x5, x6, x7, x8, x9, x10, x11, x12, by rw [List.eq_nil_of_length_eq_zero h12]⟩
def F_fa (wr kn kc kb ko q nf cf nv cv : Nat) (av af : Option Addr) (nm : ByteArray) (E : Int) (K : KindV) (vals : List Int) (jq : Nat) (v : Value) (w : World) : Prop :=
  match jq with
  | 0 => v = .slice (some ⟨kb, ko, none⟩) kn kc
  | 1 => v = .pointer (some ⟨wr, 0, none⟩)
  | 2 => v = .int .i64 (q : Int)
  | 3 => v = .pointer (some ⟨kb, ko + q * 2, none⟩)
  | 4 => v = .agg #[.string nm, .slice af nf cf]
  | 5 => v = .pointer (some ⟨wr, 1, none⟩)
  | 6 => v = .slice av nv cv
  | 7 => FitT K vals v w
  | 8 => FitT K vals v w
  | 9 => FitS K vals v w
  | 10 => v = .int .i64 E
  | 11 => FitS K vals v w
  | 12 => v = .int .i64 E
  | _ => True
theorem F_fa_mono (wr kn kc kb ko q nf cf nv cv : Nat) (av af : Option Addr) (nm : ByteArray) (E : Int) (K : KindV) (vals : List Int) : Facts (F_fa wr kn kc kb ko q nf cf nv cv  av af  nm  E  K  vals ) := ⟨by
  intro jq v w w' h hb
  unfold F_fa at h ⊢
  split at h
  all_goals first
    | exact h
    | exact FitS.below h hb
    | exact FitT.below h hb
    | trivial⟩

set_option maxHeartbeats 1000000 in
theorem ref_FittedAll (ks : List KindV) (l : List CompV) (ka a : Option Addr) (kn kc n ca : Nat) (hkn : ks.length = kn) (hn : l.length = n) (hk1 : kn ≤ 1048576) (h1 : n ≤ 1048576) (hvl : ∀ z ∈ l, z.vals.length ≤ 1048576) (W : World) (hzk : SlAt 2 KindAt W ka ks) (hz : SlAt 2 CompAt W a l) :
    Calls Tryd.prog 23 #[.slice ka kn kc, .slice a n ca] W (FitAllPost ks l W) := by
  obtain ⟨RE, hRE⟩ : ∃ R, R = fitAllE ks l := ⟨_, rfl⟩
  obtain ⟨RM, hRM⟩ : ∃ R, R = fitAllM ks l := ⟨_, rfl⟩
  unfold FitAllPost
  rw [← hRE, ← hRM]
  have HRE := Lib.hid hRE
  have HRM := Lib.hid hRM
  have HN := Lib.hid hkn
  have HM := Lib.hid hn
  have HZK := Lib.hid hzk
  have HZ := Lib.hid hz
  have HV := Lib.hid hvl
  obtain ⟨M, hM⟩ : ∃ M, M = W.heap.size := ⟨_, rfl⟩
  have hmade : MapI (W.alloc (.map #[] 0)) M 0 (fun _ => none) := by rw [hM]; exact MapI.new W
  have HMADE := Lib.hid hmade
  have hb0 := (Below.refl W.heap.size W).alloc (Nat.le_refl _) (.map #[] 0)
  have HB0 := Lib.hid hb0
  have HMM := Lib.hid hM
  have hmk := @run_makeMap Tryd.prog
  clear hRE hRM hkn hn hzk hz hvl hmade hb0
  go_enter Tryd.func23, Tryd.ntmps23
  go_wp2_with fail
  rw [← hM]
  clear hM
  go_loopg [16, 8, 9, 10, 11, 12] n (fun gk v16 _ _ _ _ _ wx => ∃ (i : Nat) (F : Part), i ≤ n ∧ gk = n - i ∧ v16 = .int .i64 i ∧ fitGo ks (l.drop i) F = (RE, RM) ∧ MapI wx M i F ∧ Below W.heap.size W wx)
  case atStart => exact ⟨0, fun _ => none, Nat.zero_le _, rfl, rfl, by rw [HRE.out, HRM.out]; rfl, HMADE.out, HB0.out⟩
  case round =>
    obtain ⟨i, F, hi0, g2, rfl, hgo, hmap, hb⟩ := hrel
    have G2 := Lib.hid g2
    have HGO := Lib.hid hgo
    have HB := Lib.hid hb
    have HMAP := Lib.hid hmap
    clear g2 hgo hmap hb
    by_cases hi : i < n
    · obtain ⟨x, rfl, _, _⟩ := HZ.out (by rw [HM.out]; omega)
      obtain ⟨xb, xo, rfl, av, cv, hcl, hiv⟩ := comp_cells (HZ.out.below CompAt.abides HB.out) i (by rw [HM.out]; exact hi)
      have hgo := HGO.out
      rw [List.drop_eq_getElem_cons (by rw [HM.out]; exact hi)] at hgo
      obtain ⟨y, hy⟩ : ∃ y, y = l[i]'(by rw [HM.out]; exact hi) := ⟨_, rfl⟩
      have hyv := HV.out _ (List.getElem_mem (by rw [HM.out]; exact hi) : l[i]'(by rw [HM.out]; exact hi) ∈ l)
      rw [← hy] at hcl hiv hgo hyv
      rw [fitGo] at hgo
      obtain ⟨nv, hnv⟩ : ∃ nv, nv = y.vals.length := ⟨_, rfl⟩
      rw [← hnv] at hcl hyv
      obtain ⟨kq, hkq⟩ : ∃ kq, kq = y.kind := ⟨_, rfl⟩
      rw [← hkq] at hcl hgo
      have e0 := hcl.at 0 (by simp)
      have e1 := hcl.at 1 (by simp)
      simp only [List.getElem_cons_zero, List.getElem_cons_succ, Nat.add_zero] at e0 e1
      have hro := new_row wr #[.int .i64 kq, .slice av nv cv] 51
      have q0 := hro.at 0 (by simp)
      have q1 := hro.at 1 (by simp)
      simp only [List.getElem_cons_zero, List.getElem_cons_succ, Nat.zero_add] at q0 q1
      have hbA : Below wr.heap.size wr (wr.alloc (.cells #[.int .i64 kq, .slice av nv cv] 51 (0, 0))) := (Below.refl _ _).alloc (Nat.le_refl _) _
      have Q0 := Lib.hid q0
      have Q1 := Lib.hid q1
      have HNV := Lib.hid hnv
      have HIV := Lib.hid (hiv.below hbA)
      have HBA := Lib.hid hbA
      have HGO2 := Lib.hid hgo
      have HYV := Lib.hid hyv
      have HMAPA := Lib.hid (HMAP.out.below hbA)
      have HNN := HN.out
      clear hy hkq hnv hcl hiv hro hbA hgo hyv
      by_cases hA : kq < 0
      · have hres := HGO2.out
        rw [if_pos (Or.inl hA)] at hres
        injection hres with hr1 hr2
        have HR1 := Lib.hid hr1
        clear hr1 hr2
        go_wp2_with fail
        go_ret2
        exact ⟨Or.inl ⟨by rw [← HR1.out]; decide, by rw [← HR1.out]; rfl⟩, bt HB.out HBA.out⟩
      · by_cases hB : (kn : Int) ≤ kq
        · have hres := HGO2.out
          rw [if_pos (Or.inr (by rw [HNN]; exact hB))] at hres
          injection hres with hr1 hr2
          have HR1 := Lib.hid hr1
          clear hr1 hr2
          go_wp2_with fail
          go_ret2
          exact ⟨Or.inl ⟨by rw [← HR1.out]; decide, by rw [← HR1.out]; rfl⟩, bt HB.out HBA.out⟩
        · obtain ⟨q, rfl⟩ : ∃ q : Nat, kq = (q : Int) := ⟨kq.toNat, by omega⟩
          have hqn : q < kn := by omega
          have hres := HGO2.out
          rw [if_neg (fun h => by rcases h with h | h; exact hA h; rw [HNN] at h; exact hB h), Int.toNat_natCast] at hres
          obtain ⟨z, rfl, _, _⟩ := HZK.out (by rw [HNN]; omega)
          obtain ⟨kb, ko, rfl, af, cf, hck, hnm, hnc, hcm, hfl⟩ := kind_cells (HZK.out.below KindAt.abides (bt HB.out HBA.out)) q (by rw [HNN]; exact hqn)
          have hgq : ks.getD q default = ks[q]'(by rw [HNN]; exact hqn) := by rw [List.getD_eq_getElem?_getD, List.getElem?_eq_getElem (by rw [HNN]; exact hqn)]; rfl
          rw [hgq] at hres
          obtain ⟨K, hK⟩ : ∃ K, K = ks[q]'(by rw [HNN]; exact hqn) := ⟨_, rfl⟩
          rw [← hK] at hck hnm hnc hfl hres
          obtain ⟨nf, hnf⟩ : ∃ nf, nf = K.fields.length := ⟨_, rfl⟩
          rw [← hnf] at hck hnc
          have HCC := Lib.hid (fun w' hb => ref_Fitted K af nf cf y.vals av nv cv hnf.symm HNV.out.symm (by have := HYV.out; omega) hnm hnc hcm w' (SlAt.below FieldAt.abides hfl hb) (IntsAt.below HIV.out hb))
          obtain ⟨nm, hnm2⟩ : ∃ nm, nm = K.name := ⟨_, rfl⟩
          rw [← hnm2] at hck HCC
          have HCK := Lib.hid hck
          have HRES := Lib.hid hres
          obtain ⟨D, hown, hF⟩ := HMAPA.out
          have hhas := (hF q).1
          have HOWN := Lib.hid hown
          have HF := Lib.hid hF
          have hkey := keyN_of (i := q) (by omega)
          have HKEY := Lib.hid hkey
          clear hres hgq hK hnf hnm2 hck hnm hnc hcm hfl hF
          cases hs : (F q).isSome with
          | true =>
            rw [hs] at hhas
            have hr := HRES.out
            rw [if_pos hs] at hr
            injection hr with hr1 hr2
            have HR1 := Lib.hid hr1
            clear hr1 hr2
            go_wp2_with (at_lookup; refine wpList_lookup_own_ok _ rfl _ _ 63 rfl 3 23 keyInt Tryd.underlying63 RV (zeroRow _) (.held (.slice none 0 0)) [] rfl M i D rfl hown (.int .i64 (q : Int)) (keyN q) rfl hkey ?_; intro cw ps hat; rw [hhas]; clear hat)
            go_ret2
            exact ⟨Or.inl ⟨by rw [← HR1.out]; decide, by rw [← HR1.out]; rfl⟩, bt HB.out HBA.out⟩
          | false =>
            rw [hs] at hhas
            have hr := HRES.out
            rw [if_neg (by rw [hs]; simp)] at hr
            obtain ⟨E, hE⟩ : ∃ E, E = fitE K y.vals := ⟨_, rfl⟩
            rw [← hE] at hr
            have HR := Lib.hid hr
            have HE := Lib.hid hE
            clear hr hE hs
            go_wp2_with (at_lookup; refine wpList_lookup_own_ok _ rfl _ _ 63 rfl 3 23 keyInt Tryd.underlying63 RV (zeroRow _) (.held (.slice none 0 0)) [] rfl M i D rfl hown (.int .i64 (q : Int)) (keyN q) rfl hkey ?_; intro cw ps hat; rw [hhas]; clear hat)
            clear hhas
            refine wp_region_facts_t rfl 13 (by kernel_rfl) (F_fa wr.heap.size kn kc kb ko q nf cf nv cv av af nm E K y.vals) (F_fa_mono wr.heap.size kn kc kb ko q nf cf nv cv av af nm E K y.vals) ?_ ?_
            · refine ⟨?_, ?_, ?_, ?_, ?_, ?_, ?_, ?_, ?_, ?_, ?_, ?_, ?_, trivial⟩
              · intro vs w' F hb hd hF hl hT
                have e := (hF 0).trans (look_out _ 0 _ _ (by kernel_rfl))
                exact one_move _ rfl (by first | exact Or.inl rfl | exact Or.inr rfl) ⟨_, rfl, Below.refl _ _, e⟩
              · intro vs w' F hb hd hF hl hT
                have e := (hF 8).trans (look_out _ 8 _ _ (by kernel_rfl))
                exact one_field _ _ _ rfl rfl _ _ e (0) (fun w => by kernel_rfl) ⟨_, rfl, Below.refl _ _, rfl⟩
              · intro vs w' F hb hd hF hl hT
                have e := ((hF 40).trans (look_at _ 40 1 _ _ (by kernel_rfl) (by kernel_rfl) hl)).trans (dep_of (Fact := F_fa wr.heap.size kn kc kb ko q nf cf nv cv av af nm E K y.vals) hd 1 (by kernel_rfl))
                exact one_load _ _ rfl rfl _ _ e (cell_abides Q0.out hb) (by kernel_rfl) ⟨_, rfl, Below.refl _ _, rfl⟩
              · intro vs w' F hb hd hF hl hT
                have ex := ((hF 39).trans (look_at _ 39 0 _ _ (by kernel_rfl) (by kernel_rfl) hl)).trans (dep_of (Fact := F_fa wr.heap.size kn kc kb ko q nf cf nv cv av af nm E K y.vals) hd 0 (by kernel_rfl))
                have ey := ((hF 41).trans (look_at _ 41 2 _ _ (by kernel_rfl) (by kernel_rfl) hl)).trans (dep_of (Fact := F_fa wr.heap.size kn kc kb ko q nf cf nv cv av af nm E K y.vals) hd 2 (by kernel_rfl))
                exact one_index 22 _ _ rfl rfl (.slice (some ⟨kb, ko, none⟩) kn kc) (.int .i64 (q : Int)) (.pointer (some ⟨kb, ko + q * 2, none⟩)) ex ey (fun w => rg_idx Tryd.underlying22 (show (Tryd.prog.info? 55).map (·.size) = some 2 by kernel_rfl) (kb) (ko) (kn) (kc) (q) (by omega) w) ⟨_, rfl, Below.refl _ _, rfl⟩
              · intro vs w' F hb hd hF hl hT
                have e := ((hF 42).trans (look_at _ 42 3 _ _ (by kernel_rfl) (by kernel_rfl) hl)).trans (dep_of (Fact := F_fa wr.heap.size kn kc kb ko q nf cf nv cv av af nm E K y.vals) hd 3 (by kernel_rfl))
                exact rg_load 55 _ rfl rfl (kb) (ko + q * 2) [.string nm, .slice af nf cf] e (HCK.out.below hb) _ Tryd.underlying55 rfl (by kernel_rfl) ⟨_, rfl, Below.refl _ _, rfl⟩
              · intro vs w' F hb hd hF hl hT
                have e := (hF 8).trans (look_out _ 8 _ _ (by kernel_rfl))
                exact one_field _ _ _ rfl rfl _ _ e (1) (fun w => by kernel_rfl) ⟨_, rfl, Below.refl _ _, rfl⟩
              · intro vs w' F hb hd hF hl hT
                have e := ((hF 44).trans (look_at _ 44 5 _ _ (by kernel_rfl) (by kernel_rfl) hl)).trans (dep_of (Fact := F_fa wr.heap.size kn kc kb ko q nf cf nv cv av af nm E K y.vals) hd 5 (by kernel_rfl))
                exact one_load _ _ rfl rfl _ _ e (cell_abides Q1.out hb) (by kernel_rfl) ⟨_, rfl, Below.refl _ _, rfl⟩
              · intro vs w' F hb hd hF hl hT
                have e1 := (((hF 43).trans (look_at _ 43 4 _ _ (by kernel_rfl) (by kernel_rfl) hl)).trans (dep_of (Fact := F_fa wr.heap.size kn kc kb ko q nf cf nv cv av af nm E K y.vals) hd 4 (by kernel_rfl)))
                have e2 := (((hF 45).trans (look_at _ 45 6 _ _ (by kernel_rfl) (by kernel_rfl) hl)).trans (dep_of (Fact := F_fa wr.heap.size kn kc kb ko q nf cf nv cv av af nm E K y.vals) hd 6 (by kernel_rfl)))
                refine one_call _ _ rfl rfl (enters_of Tryd.func41 (by kernel_rfl) rfl) #[.agg #[.string nm, .slice af nf cf], .slice av nv cv] (eval2 e1 e2) ?_
                refine (HCC.out w' hb).mono ?_
                intro e3 w2 hp
                have hb2 := hp.2.2
                obtain ⟨v, rfl, ht⟩ := FitPost.tuple hp
                exact ⟨_, rfl, _, rfl, hb2, ht⟩
              · intro vs w' F hb hd hF hl hT
                have e := ((hF 46).trans (look_at _ 46 7 _ _ (by kernel_rfl) (by kernel_rfl) hl))
                have d := (dep_of (Fact := F_fa wr.heap.size kn kc kb ko q nf cf nv cv av af nm E K y.vals) hd 7 (by kernel_rfl))
                rw [← e] at d
                exact one_move _ rfl (by first | exact Or.inl rfl | exact Or.inr rfl) ⟨_, rfl, Below.refl _ _, d⟩
              · intro vs w' F hb hd hF hl hT
                have e := ((hF 38).trans (look_at _ 38 8 _ _ (by kernel_rfl) (by kernel_rfl) hl))
                obtain ⟨u, hu, hs⟩ := (dep_of (Fact := F_fa wr.heap.size kn kc kb ko q nf cf nv cv av af nm E K y.vals) hd 8 (by kernel_rfl))
                exact rg_extract _ _ rfl rfl _ u (e.trans hu) (fun w => rfl) ⟨_, rfl, Below.refl _ _, hs⟩
              · intro vs w' F hb hd hF hl hT
                have e := ((hF 38).trans (look_at _ 38 8 _ _ (by kernel_rfl) (by kernel_rfl) hl))
                obtain ⟨u, hu, hs⟩ := (dep_of (Fact := F_fa wr.heap.size kn kc kb ko q nf cf nv cv av af nm E K y.vals) hd 8 (by kernel_rfl))
                rw [← HE.out] at hu
                exact rg_extract _ _ rfl rfl _ (.int .i64 E) (e.trans hu) (fun w => rfl) ⟨_, rfl, Below.refl _ _, rfl⟩
              · intro vs w' F hb hd hF hl hT
                have e := ((hF 47).trans (look_at _ 47 9 _ _ (by kernel_rfl) (by kernel_rfl) hl))
                have d := (dep_of (Fact := F_fa wr.heap.size kn kc kb ko q nf cf nv cv av af nm E K y.vals) hd 9 (by kernel_rfl))
                rw [← e] at d
                exact one_move _ rfl (by first | exact Or.inl rfl | exact Or.inr rfl) ⟨_, rfl, Below.refl _ _, d⟩
              · intro vs w' F hb hd hF hl hT
                have e := ((hF 48).trans (look_at _ 48 10 _ _ (by kernel_rfl) (by kernel_rfl) hl)).trans (dep_of (Fact := F_fa wr.heap.size kn kc kb ko q nf cf nv cv av af nm E K y.vals) hd 10 (by kernel_rfl))
                exact one_move _ rfl (by first | exact Or.inl rfl | exact Or.inr rfl) ⟨_, rfl, Below.refl _ _, e⟩
            · intro vs8 W8 hl hb hI
              have i11 : FitS K y.vals (vs8.getD 11 undef) W8 := hI 11 (by omega)
              have i12 : vs8.getD 12 undef = .int .i64 E := hI 12 (by omega)
              obtain ⟨x0, x1, x2, x3, x4, x5, x6, x7, x8, x9, x10, x11, x12, hvs⟩ := list13 hl
              subst hvs
              replace i11 : FitS K y.vals x11 W8 := i11
              replace i12 : x12 = .int .i64 E := i12
              subst i12
              have HS := Lib.hid i11
              have HB8 := Lib.hid hb
              clear i11 hI hl hb
              simp only [fillAll, Act.put, List.setIfInBounds_toArray, List.set_cons_succ, List.set_cons_zero]
              show wpList _ _ _ [] _ _
              by_cases he : E = 0
              · subst he
                obtain ⟨fa, fc, rfl, hfi⟩ := HS.out.2 HE.out.symm
                have HFI := Lib.hid hfi
                have hlen := fitL_len HE.out.symm
                have HLEN := Lib.hid hlen
                have c0 := cell_abides Q0.out HB8.out
                have hown8 : OwnV W8 M i D := HOWN.out.kept (row := none) (below_gn HB8.out _) (by simp)
                have t0 : ((0 : Int) != 0) = false := rfl
                clear hown hfi hlen q0 q1 e0 e1
                go_wp2_with (at_mapUpdate; go_must (refine wpList_mapUpdate_own _ rfl _ _ _ 63 rfl 3 23 keyInt Tryd.underlying63 RV M i D rfl hown8 (by have : maxLen = 9223372036854775807 := rfl; omega) (.int .i64 (q : Int)) _ (keyN q) rfl rfl hkey (.held _) [] rfl ?_); intro w9 hown9 hg9)
                have hF8 : ∀ j : Nat, Maps.has D (keyN j) = (F j).isSome ∧ ∀ L, F j = some L → ∃ a c, D.atKey (keyN j) (.held (.slice none 0 0)) = .held (.slice a L.length c) ∧ IntsAt .i64 W8 a L := fun j => ⟨(HF.out j).1, fun L hL => by
                  obtain ⟨a2, c2, p1, p2⟩ := (HF.out j).2 L hL
                  exact ⟨a2, c2, p1, p2.below HB8.out⟩⟩
                have hm9 : MapI w9 M (i + 1) (updF F q (fitL K.fields y.vals)) := MapI.put hown8 hF8 q (fitL K.fields y.vals) fa fc HFI.out (by rw [HLEN.out]; exact hown9) hg9
                have HM9 := Lib.hid hm9
                have HR9 := Lib.hid (show fitGo ks (l.drop (i + 1)) (updF F q (fitL K.fields y.vals)) = (RE, RM) by have h := HR.out; rw [if_neg (by simp)] at h; exact h)
                have HB9 := Lib.hid ((bt HB.out (bt HBA.out HB8.out)).grown hg9 (bt HB.out (bt HBA.out HB8.out)).size (fun r h => by injection h with h; rw [← h, HMM.out]; exact Nat.le_refl _))
                clear hown8 hown9 hg9 hF8 hm9 c0
                go_wp2
                go_roundg (n - (i + 1))
                case measure => rw [G2.out]; omega
                case rel => exact ⟨i + 1, _, hi, rfl, by go_num, HR9.out, HM9.out, HB9.out⟩
              · have t0 : (E != 0) = true := by rw [bne_iff_ne]; exact he
                have hr := HR.out
                rw [if_pos he] at hr
                injection hr with hr1 hr2
                have HR1 := Lib.hid hr1
                clear hr1 hr2 q0 q1 e0 e1 hown
                go_wp2
                go_ret2
                exact ⟨Or.inl ⟨by rw [← HR1.out]; exact he, by rw [← HR1.out]; rfl⟩, bt HB.out (bt HBA.out HB8.out)⟩
    · obtain rfl : i = n := by omega
      have hres := HGO.out
      rw [List.drop_of_length_le (by rw [HM.out]; exact Nat.le_refl _), fitGo] at hres
      injection hres with hr1 hr2
      have HR1 := Lib.hid hr1
      have HR2 := Lib.hid hr2
      clear hr1 hr2
      go_wp2_with fail
      go_ret2
      exact ⟨Or.inr ⟨HR1.out.symm, M, _, rfl, by rw [HMM.out]; exact Nat.le_refl _, by rw [← HR2.out]; exact HMAP.out⟩, HB.out⟩
end Go.Proofs.YtfckbkhnelgjbaaDoor
end
/- A world opened into parts and closed again: the plain law of the reference's Open and of world.Check. No program is walked here. -/
section
namespace Go.Proofs.YtfckbkhnelgjbaaDoor
open Go.ChangeShapes Go.WideShapes Go.ChangeAt Go.RowKit Go.Nm Go.Mem Go.Maps
set_option linter.unusedVariables false
/-! Lists in increasing order of a key. -/
theorem sorted_ext {α : Type} (key : α → Int) : ∀ {l k : List α}, l.Pairwise (fun x y => key x < key y) → k.Pairwise (fun x y => key x < key y) → (∀ x, x ∈ l ↔ x ∈ k) → l = k
  | [], [], _, _, _ => rfl
  | [], b :: k, _, _, h => absurd ((h b).2 List.mem_cons_self) (by simp)
  | a :: l, [], _, _, h => absurd ((h a).1 List.mem_cons_self) (by simp)
  | a :: l, b :: k, hl, hk, h => by
    have h1 := (List.pairwise_cons.1 hl).1
    have h2 := (List.pairwise_cons.1 hk).1
    have hab : a = b := by
      rcases List.mem_cons.1 ((h a).1 List.mem_cons_self) with e | ha
      · exact e
      · rcases List.mem_cons.1 ((h b).2 List.mem_cons_self) with e | hb
        · exact e.symm
        · have := h1 b hb
          have := h2 a ha
          omega
    subst hab
    congr 1
    refine sorted_ext key (List.pairwise_cons.1 hl).2 (List.pairwise_cons.1 hk).2 fun x => ⟨fun hx => ?_, fun hx => ?_⟩
    · rcases List.mem_cons.1 ((h x).1 (List.mem_cons_of_mem _ hx)) with e | hx'
      · subst e
        have := h1 x hx
        omega
      · exact hx'
    · rcases List.mem_cons.1 ((h x).2 (List.mem_cons_of_mem _ hx)) with e | hx'
      · subst e
        have := h2 x hx
        omega
      · exact hx'
/-- the values of a map at the first N keys -/
def listK {α β : Type} (mk : Nat → β → α) (G : Nat → Option β) (N : Nat) : List α := (List.range N).filterMap fun i => (G i).map (mk i)
theorem mem_listK {α β : Type} {mk : Nat → β → α} {G : Nat → Option β} {N : Nat} {x : α} : x ∈ listK mk G N ↔ ∃ i, i < N ∧ ∃ b, G i = some b ∧ mk i b = x := by
  unfold listK
  simp only [List.mem_filterMap, List.mem_range, Option.map_eq_some_iff]
theorem listK_sorted {α β : Type} {mk : Nat → β → α} (key : α → Int) (hk : ∀ i b, key (mk i b) = (i : Int)) (G : Nat → Option β) (N : Nat) : (listK mk G N).Pairwise (fun x y => key x < key y) := by
  unfold listK
  rw [List.pairwise_filterMap]
  refine List.Pairwise.imp ?_ (List.pairwise_lt_range (n := N))
  intro a b hab x hx y hy
  obtain ⟨p, _, rfl⟩ := Option.map_eq_some_iff.1 hx
  obtain ⟨q, _, rfl⟩ := Option.map_eq_some_iff.1 hy
  rw [hk, hk]
  omega
theorem listK_succ {α β : Type} (mk : Nat → β → α) (G : Nat → Option β) (N : Nat) : listK mk G (N + 1) = listK mk G N ++ (match G N with | none => [] | some b => [mk N b]) := by
  unfold listK
  rw [List.range_succ, List.filterMap_append]
  cases h : G N <;> simp [h]
theorem listed_listK (F : Part) : listed F = listK (fun (i : Nat) L => (⟨(i : Int), L⟩ : CompV)) F 16 := rfl
/-! Components. -/
theorem heldAt_iff (k : List KindV) (l : List CompV) : ∀ n, n ≤ l.length → (heldAt k l n = true ↔ ((l.take n).Pairwise (fun x y => x.kind < y.kind) ∧ ∀ c ∈ l.take n, 0 ≤ c.kind ∧ c.kind < k.length ∧ holdsB (k.getD c.kind.toNat default) c.vals = true)) := by
  intro n
  induction n with
  | zero => intro _; simp [heldAt]
  | succ n ih =>
    intro hn
    have hg : l.getD n default = l[n]'(by omega) := by rw [List.getD_eq_getElem?_getD, List.getElem?_eq_getElem (by omega)]; rfl
    have ht : l.take (n + 1) = l.take n ++ [l[n]'(by omega)] := by rw [List.take_add_one, List.getElem?_eq_getElem (by omega)]; rfl
    rw [heldAt_succ, hg, ht, List.pairwise_append]
    simp only [Bool.and_eq_true, decide_eq_true_eq, List.pairwise_cons, List.mem_append, List.mem_singleton, List.Pairwise.nil, List.not_mem_nil]
    constructor
    · rintro ⟨h1, h2, h3, h4⟩
      obtain ⟨p1, p2⟩ := (ih (by omega)).1 h1
      have hlow := heldAt_low k l n h1
      have hall : ∀ x ∈ l.take n, x.kind ≤ lastK l n := by
        intro x hx
        obtain ⟨i, hi, rfl⟩ := List.getElem_of_mem hx
        have hin : i < n := by have := List.length_take_le n l; omega
        have hlk : lastK l n = (l[n - 1]'(by omega)).kind := by
          unfold lastK
          rw [if_neg (by omega), List.getD_eq_getElem?_getD, List.getElem?_eq_getElem (by omega)]; rfl
        rw [hlk, List.getElem_take]
        by_cases e : i = n - 1
        · subst e; omega
        · have := List.pairwise_iff_getElem.1 p1 i (n - 1) hi (by rw [List.length_take]; omega) (by omega)
          rw [List.getElem_take, List.getElem_take] at this
          omega
      refine ⟨⟨p1, ⟨fun _ h => absurd h (by simp), trivial⟩, fun x hx y hy => by subst hy; have := hall x hx; omega⟩, fun c hc => ?_⟩
      rcases hc with hc | hc
      · exact p2 c hc
      · subst hc; exact ⟨by omega, h3, h4⟩
    · rintro ⟨⟨p1, _, p3⟩, p4⟩
      have hn' := p4 _ (Or.inr rfl)
      refine ⟨(ih (by omega)).2 ⟨p1, fun c hc => p4 c (Or.inl hc)⟩, ?_, hn'.2.1, hn'.2.2⟩
      unfold lastK
      split
      · omega
      · rw [List.getD_eq_getElem?_getD, List.getElem?_eq_getElem (by omega)]
        refine p3 _ ?_ _ rfl
        simp only [Option.getD_some]
        rw [List.mem_take_iff_getElem]
        exact ⟨n - 1, by omega, rfl⟩
theorem heldB_iff (k : List KindV) (l : List CompV) : heldB k l = true ↔ (l.Pairwise (fun x y => x.kind < y.kind) ∧ ∀ c ∈ l, 0 ≤ c.kind ∧ c.kind < k.length ∧ holdsB (k.getD c.kind.toNat default) c.vals = true) := by
  have := heldAt_iff k l l.length (Nat.le_refl _)
  rw [List.take_length] at this
  exact this
theorem fitGo_ok (ks : List KindV) : ∀ (l : List CompV) (M : Part), (fitGo ks l M).1 = 0 → (∀ c ∈ l, 0 ≤ c.kind ∧ c.kind < ks.length ∧ fitE (ks.getD c.kind.toNat default) c.vals = 0 ∧ M c.kind.toNat = none ∧ (fitGo ks l M).2 c.kind.toNat = some (fitL (ks.getD c.kind.toNat default).fields c.vals)) ∧ (∀ i, (∀ c ∈ l, c.kind.toNat ≠ i) → (fitGo ks l M).2 i = M i)
  | [], M, _ => ⟨fun c h => absurd h (by simp), fun i _ => rfl⟩
  | c :: r, M, h => by
    unfold fitGo at h ⊢
    split at h
    · simp at h
    · rename_i h1
      rw [if_neg h1]
      split at h
      · simp at h
      · rename_i h2
        rw [if_neg h2]
        split at h
        · rename_i h3
          exact absurd h h3
        · rename_i h3
          rw [if_neg h3]
          have h3' : fitE (ks.getD c.kind.toNat default) c.vals = 0 := Decidable.not_not.1 h3
          have h2' : M c.kind.toNat = none := by
            cases hm : M c.kind.toNat with
            | none => rfl
            | some L => rw [hm] at h2; exact absurd rfl h2
          obtain ⟨q1, q2⟩ := fitGo_ok ks r _ h
          have hne : ∀ d ∈ r, d.kind.toNat ≠ c.kind.toNat := by
            intro d hd e
            have := (q1 d hd).2.2.2.1
            rw [e, updF_same] at this
            cases this
          refine ⟨fun d hd => ?_, fun i hi => ?_⟩
          · rcases List.mem_cons.1 hd with e | hd'
            · subst e
              refine ⟨by omega, by omega, h3', h2', ?_⟩
              rw [q2 _ hne, updF_same]
            · obtain ⟨g1, g2, g3, g4, g5⟩ := q1 d hd'
              rw [updF_other _ _ (hne d hd')] at g4
              exact ⟨g1, g2, g3, g4, g5⟩
          · rw [q2 i (fun d hd => hi d (List.mem_cons_of_mem _ hd)), updF_other _ _ (fun e => hi c List.mem_cons_self e.symm)]
theorem fitGo_good (ks : List KindV) : ∀ (l : List CompV) (M : Part), (∀ c ∈ l, 0 ≤ c.kind ∧ c.kind < ks.length ∧ fitE (ks.getD c.kind.toNat default) c.vals = 0 ∧ M c.kind.toNat = none) → l.Pairwise (fun x y => x.kind ≠ y.kind) → (fitGo ks l M).1 = 0
  | [], M, _, _ => rfl
  | c :: r, M, h, hp => by
    obtain ⟨g1, g2, g3, g4⟩ := h c List.mem_cons_self
    unfold fitGo
    rw [if_neg (by omega), if_neg (by rw [g4]; simp), if_neg (fun e => e g3)]
    refine fitGo_good ks r _ (fun d hd => ?_) (List.pairwise_cons.1 hp).2
    obtain ⟨p1, p2, p3, p4⟩ := h d (List.mem_cons_of_mem _ hd)
    refine ⟨p1, p2, p3, ?_⟩
    have := (List.pairwise_cons.1 hp).1 d hd
    rw [updF_other _ _ (by omega)]
    exact p4
/-- components that are those of an item are what their parts list -/
theorem fit_of_held {ks : List KindV} {l : List CompV} (hk : ks.length ≤ 16) (h : heldB ks l = true) : fitAllE ks l = 0 ∧ listed (fitAllM ks l) = l := by
  obtain ⟨h1, h2⟩ := (heldB_iff ks l).1 h
  have hh : ∀ c ∈ l, fitE (ks.getD c.kind.toNat default) c.vals = 0 ∧ fitL (ks.getD c.kind.toNat default).fields c.vals = c.vals := by
    intro c hc
    have := (h2 c hc).2.2
    unfold holdsB at this
    simp only [Bool.and_eq_true, decide_eq_true_eq] at this
    exact this
  have hE : fitAllE ks l = 0 := fitGo_good ks l _ (fun c hc => ⟨(h2 c hc).1, (h2 c hc).2.1, (hh c hc).1, rfl⟩) (h1.imp fun h => by omega)
  refine ⟨hE, ?_⟩
  obtain ⟨q1, q2⟩ := fitGo_ok ks l _ hE
  rw [listed_listK]
  refine sorted_ext CompV.kind (listK_sorted CompV.kind (fun i b => rfl) _ _) h1 fun x => ?_
  rw [mem_listK]
  constructor
  · rintro ⟨i, hi, L, hL, rfl⟩
    by_cases he : ∃ c ∈ l, c.kind.toNat = i
    · obtain ⟨c, hc, rfl⟩ := he
      have g5 := (q1 c hc).2.2.2.2
      rw [show (fitGo ks l fun x => none).2 = fitAllM ks l from rfl, hL, (hh c hc).2] at g5
      injection g5 with g5
      subst g5
      have := (h2 c hc).1
      rw [show ((c.kind.toNat : Nat) : Int) = c.kind by omega]
      exact hc
    · have := q2 i (fun c hc e => he ⟨c, hc, e⟩)
      rw [show (fitGo ks l fun x => none).2 = fitAllM ks l from rfl, hL] at this
      cases this
  · intro hx
    obtain ⟨g1, g2, g3, g4, g5⟩ := q1 x hx
    refine ⟨x.kind.toNat, by omega, x.vals, ?_, ?_⟩
    · rw [(hh x hx).2] at g5; exact g5
    · rw [show ((x.kind.toNat : Nat) : Int) = x.kind by omega]
theorem held_of_fit {ks : List KindV} {l : List CompV} (hE : fitAllE ks l = 0) (h : listed (fitAllM ks l) = l) : heldB ks l = true := by
  obtain ⟨q1, q2⟩ := fitGo_ok ks l _ hE
  have h1 : l.Pairwise (fun x y => x.kind < y.kind) := by
    rw [← h, listed_listK]
    exact listK_sorted CompV.kind (fun i b => rfl) _ _
  refine (heldB_iff ks l).2 ⟨h1, fun c hc => ?_⟩
  obtain ⟨g1, g2, g3, g4, g5⟩ := q1 c hc
  refine ⟨g1, g2, ?_⟩
  have hm := hc
  rw [← h, listed_listK, mem_listK] at hm
  obtain ⟨i, hi, L, hL, e⟩ := hm
  unfold holdsB
  subst e
  rw [show (fitGo ks l fun x => none).2 = fitAllM ks l from rfl, show ((⟨(i : Int), L⟩ : CompV).kind.toNat) = i from by simp, hL] at g5
  injection g5 with g5
  rw [decide_eq_true g3, Bool.true_and, decide_eq_true_eq]
  simp only [Int.toNat_natCast] at g5 ⊢
  exact g5.symm
/-! Items. -/
theorem gensAt_iff (l : List Int) : ∀ n, (gensAt l n = true ↔ ∀ i, i < n → 0 ≤ l.getD i 0 ∧ l.getD i 0 ≤ 1073741824) := by
  intro n
  induction n with
  | zero => simp [gensAt]
  | succ n ih =>
    rw [gensAt_succ, Bool.and_eq_true, ih, Bool.and_eq_true, decide_eq_true_eq, decide_eq_true_eq]
    constructor
    · rintro ⟨h1, h2⟩ i hi
      by_cases e : i = n
      · subst e; exact h2
      · exact h1 i (by omega)
    · intro h
      exact ⟨fun i hi => h i (by omega), h n (by omega)⟩
def itemFit (w : WorldV) (y : ItemV) : Prop := 0 ≤ y.n ∧ y.n < w.gens.length ∧ y.gen = w.gens.getD y.n.toNat 0 ∧ y.gen ≠ 1073741824 ∧ heldB w.kinds y.comps = true
theorem itemsAt_iff (w : WorldV) : ∀ n, n ≤ w.items.length → (itemsAt w n = true ↔ ((w.items.take n).Pairwise (fun x y => x.n < y.n) ∧ ∀ y ∈ w.items.take n, itemFit w y)) := by
  intro n
  induction n with
  | zero => intro _; simp [itemsAt]
  | succ n ih =>
    intro hn
    have hg : w.items.getD n default = w.items[n]'(by omega) := by rw [List.getD_eq_getElem?_getD, List.getElem?_eq_getElem (by omega)]; rfl
    have ht : w.items.take (n + 1) = w.items.take n ++ [w.items[n]'(by omega)] := by rw [List.take_add_one, List.getElem?_eq_getElem (by omega)]; rfl
    rw [itemsAt_succ, hg, ht, List.pairwise_append]
    simp only [Bool.and_eq_true, decide_eq_true_eq, List.pairwise_cons, List.mem_append, List.mem_singleton, List.Pairwise.nil, List.not_mem_nil]
    constructor
    · rintro ⟨h1, h2, h3, h4, h5, h6⟩
      obtain ⟨p1, p2⟩ := (ih (by omega)).1 h1
      have hlow := itemsAt_low w n h1
      have hall : ∀ x ∈ w.items.take n, x.n ≤ lastN w.items n := by
        intro x hx
        obtain ⟨i, hi, rfl⟩ := List.getElem_of_mem hx
        have hin : i < n := by have := List.length_take_le n w.items; omega
        have hlk : lastN w.items n = (w.items[n - 1]'(by omega)).n := by
          unfold lastN
          rw [if_neg (by omega), List.getD_eq_getElem?_getD, List.getElem?_eq_getElem (by omega)]; rfl
        rw [hlk, List.getElem_take]
        by_cases e : i = n - 1
        · subst e; omega
        · have := List.pairwise_iff_getElem.1 p1 i (n - 1) hi (by rw [List.length_take]; omega) (by omega)
          rw [List.getElem_take, List.getElem_take] at this
          omega
      refine ⟨⟨p1, ⟨fun _ h => absurd h (by simp), trivial⟩, fun x hx y hy => by subst hy; have := hall x hx; omega⟩, fun c hc => ?_⟩
      rcases hc with hc | hc
      · exact p2 c hc
      · subst hc; exact ⟨by omega, h3, h4, h5, h6⟩
    · rintro ⟨⟨p1, _, p3⟩, p4⟩
      obtain ⟨g1, g2, g3, g4, g5⟩ := p4 _ (Or.inr rfl)
      refine ⟨(ih (by omega)).2 ⟨p1, fun c hc => p4 c (Or.inl hc)⟩, ?_, g2, g3, g4, g5⟩
      unfold lastN
      split
      · omega
      · rw [List.getD_eq_getElem?_getD, List.getElem?_eq_getElem (by omega)]
        refine p3 _ ?_ _ rfl
        simp only [Option.getD_some]
        rw [List.mem_take_iff_getElem]
        exact ⟨n - 1, by omega, rfl⟩
structure FlatV where
  kinds : List KindV
  gens : List Int
  parts : Nat → Option Part
def closeTo (f : FlatV) : Nat → List ItemV
  | 0 => []
  | n + 1 => closeTo f n ++ (match f.parts n with | none => [] | some F => [⟨(n : Int), f.gens.getD n 0, listed F⟩])
def closeV (f : FlatV) : WorldV := ⟨f.kinds, f.gens, closeTo f f.gens.length⟩
theorem closeTo_listK (f : FlatV) : ∀ n, closeTo f n = listK (fun (i : Nat) F => (⟨(i : Int), f.gens.getD i 0, listed F⟩ : ItemV)) f.parts n
  | 0 => rfl
  | n + 1 => by
    rw [listK_succ, ← closeTo_listK f n, closeTo]
    congr 1
    cases f.parts n <;> rfl
/-- the parts of some items; none: one of them is wrong -/
def openGo (ks : List KindV) (ng : Nat) : List ItemV → (Nat → Option Part) → Option (Nat → Option Part)
  | [], G => some G
  | y :: r, G => if fitAllE ks y.comps ≠ 0 ∨ y.n < 0 ∨ (ng : Int) ≤ y.n then none else openGo ks ng r (updF G y.n.toNat (fitAllM ks y.comps))
def gensO (gens : List Int) (G : Nat → Option Part) : Nat → Bool
  | 0 => true
  | i + 1 => gensO gens G i && (decide (0 ≤ gens.getD i 0) && (decide (gens.getD i 0 ≤ 1073741824) && !(decide (gens.getD i 0 = 1073741824) && (G i).isSome)))
theorem gensO_succ (gens : List Int) (G : Nat → Option Part) (i : Nat) : gensO gens G (i + 1) = (gensO gens G i && (decide (0 ≤ gens.getD i 0) && (decide (gens.getD i 0 ≤ 1073741824) && !(decide (gens.getD i 0 = 1073741824) && (G i).isSome)))) := rfl
theorem gensO_stays (gens : List Int) (G : Nat → Option Part) (i : Nat) (h : gensO gens G i = false) : ∀ n, i ≤ n → gensO gens G n = false := by
  intro n
  induction n with
  | zero => intro hn; obtain rfl : i = 0 := by omega
            exact h
  | succ n ih =>
    intro hn
    by_cases e : i = n + 1
    · rw [← e]; exact h
    · rw [gensO_succ, ih (by omega), Bool.false_and]
theorem gensO_iff (l : List Int) (G : Nat → Option Part) : ∀ n, (gensO l G n = true ↔ ∀ i, i < n → 0 ≤ l.getD i 0 ∧ l.getD i 0 ≤ 1073741824 ∧ (l.getD i 0 = 1073741824 → G i = none)) := by
  intro n
  induction n with
  | zero => simp [gensO]
  | succ n ih =>
    rw [gensO_succ, Bool.and_eq_true, ih]
    have key : (decide (0 ≤ l.getD n 0) && (decide (l.getD n 0 ≤ 1073741824) && !(decide (l.getD n 0 = 1073741824) && (G n).isSome))) = true ↔ (0 ≤ l.getD n 0 ∧ l.getD n 0 ≤ 1073741824 ∧ (l.getD n 0 = 1073741824 → G n = none)) := by
      simp only [Bool.and_eq_true, decide_eq_true_eq, Bool.not_eq_true', Bool.and_eq_false_iff, decide_eq_false_iff_not]
      refine and_congr Iff.rfl (and_congr Iff.rfl ⟨fun h e => ?_, fun h => ?_⟩)
      · rcases h with h | h
        · exact absurd e h
        · cases hg : G n with
          | none => rfl
          | some F => rw [hg] at h; cases h
      · by_cases e : l.getD n 0 = 1073741824
        · right; rw [h e]; rfl
        · exact Or.inl e
    rw [key]
    constructor
    · rintro ⟨h1, h2⟩ i hi
      by_cases e : i = n
      · subst e; exact h2
      · exact h1 i (by omega)
    · intro h
      exact ⟨fun i hi => h i (by omega), h n (by omega)⟩
theorem openGo_some (ks : List KindV) (ng : Nat) : ∀ (l : List ItemV) (G G' : Nat → Option Part), openGo ks ng l G = some G' → (∀ y ∈ l, fitAllE ks y.comps = 0 ∧ 0 ≤ y.n ∧ y.n < ng) ∧ (∀ i, (∀ y ∈ l, y.n.toNat ≠ i) → G' i = G i) ∧ (l.Pairwise (fun x y => x.n < y.n) → ∀ y ∈ l, G' y.n.toNat = some (fitAllM ks y.comps))
  | [], G, G', h => by
    injection h with h
    subst h
    exact ⟨fun y h => absurd h (by simp), fun i _ => rfl, fun _ y h => absurd h (by simp)⟩
  | y :: r, G, G', h => by
    unfold openGo at h
    split at h
    · cases h
    · rename_i h1
      have h1a : fitAllE ks y.comps = 0 := Decidable.byContradiction fun e => h1 (Or.inl e)
      have h1b : 0 ≤ y.n ∧ y.n < ng := by omega
      obtain ⟨q1, q2, q3⟩ := openGo_some ks ng r _ G' h
      refine ⟨fun z hz => ?_, fun i hi => ?_, fun hp z hz => ?_⟩
      · rcases List.mem_cons.1 hz with e | hz
        · subst e; exact ⟨h1a, h1b⟩
        · exact q1 z hz
      · rw [q2 i (fun z hz => hi z (List.mem_cons_of_mem _ hz)), updF_other _ _ (fun e => hi y List.mem_cons_self e.symm)]
      · obtain ⟨p1, p2⟩ := List.pairwise_cons.1 hp
        rcases List.mem_cons.1 hz with e | hz
        · subst e
          rw [q2 _ (fun x hx => by have := p1 x hx; omega), updF_same]
        · exact q3 p2 z hz
theorem openGo_good (ks : List KindV) (ng : Nat) : ∀ (l : List ItemV) (G : Nat → Option Part), (∀ y ∈ l, fitAllE ks y.comps = 0 ∧ 0 ≤ y.n ∧ y.n < ng) → ∃ G', openGo ks ng l G = some G'
  | [], G, _ => ⟨G, rfl⟩
  | y :: r, G, h => by
    obtain ⟨g1, g2, g3⟩ := h y List.mem_cons_self
    unfold openGo
    rw [if_neg (by rw [g1]; omega)]
    exact openGo_good ks ng r _ fun z hz => h z (List.mem_cons_of_mem _ hz)
def openV (w : WorldV) (G : Nat → Option Part) : FlatV := ⟨w.kinds, w.gens, G⟩
def openE (w : WorldV) : Int := if kindsE w.kinds ≠ 0 then kindsE w.kinds else if 256 < w.gens.length ∨ w.gens.length < w.items.length then 2 else
  match openGo w.kinds w.gens.length w.items (fun _ => none) with
  | none => 3
  | some G => if gensO w.gens G w.gens.length = true ∧ sameB (closeV (openV w G)) w = true then 0 else 3
theorem kindsE_len {l : List KindV} (h : kindsE l = 0) : l.length ≤ 16 := by
  unfold kindsE at h
  split at h
  · cases h
  · omega
theorem sameB_close (w : WorldV) (G : Nat → Option Part) : sameB (closeV (openV w G)) w = true ↔ closeTo (openV w G) w.gens.length = w.items := by
  unfold sameB closeV
  rw [show (openV w G).kinds = w.kinds from rfl, show (openV w G).gens = w.gens from rfl, eqL_refl keqB_refl]
  simp
theorem open_check (w : WorldV) : openE w = checkE w := by
  unfold openE checkE
  by_cases h1 : kindsE w.kinds ≠ 0
  · rw [if_pos h1, if_pos h1]
  · rw [if_neg h1, if_neg h1]
    by_cases h2 : 256 < w.gens.length ∨ w.gens.length < w.items.length
    · rw [if_pos h2, if_pos h2]
    · rw [if_neg h2, if_neg h2]
      have hk := kindsE_len (Decidable.not_not.1 h1)
      have hi := itemsAt_iff w w.items.length (Nat.le_refl _)
      rw [List.take_length] at hi
      have hgi := gensAt_iff w.gens w.gens.length
      cases ho : openGo w.kinds w.gens.length w.items (fun _ => none) with
      | none =>
        simp only
        rw [if_neg]
        rintro ⟨_, hit⟩
        obtain ⟨p1, p2⟩ := hi.1 hit
        obtain ⟨G', hG⟩ := openGo_good w.kinds w.gens.length w.items (fun _ => none) (fun y hy => by
          obtain ⟨f1, f2, f3, f4, f5⟩ := p2 y hy
          exact ⟨(fit_of_held hk f5).1, f1, f2⟩)
        rw [ho] at hG
        cases hG
      | some G =>
        simp only
        obtain ⟨q1, q2, q3⟩ := openGo_some _ _ _ _ _ ho
        have hiff : (gensO w.gens G w.gens.length = true ∧ sameB (closeV (openV w G)) w = true) ↔ (gensAt w.gens w.gens.length = true ∧ itemsAt w w.items.length = true) := by
          rw [sameB_close, closeTo_listK, gensO_iff, hgi, hi]
          constructor
          · rintro ⟨hg, hc⟩
            refine ⟨fun i hi => ⟨(hg i hi).1, (hg i hi).2.1⟩, ?_⟩
            have hs : w.items.Pairwise (fun x y => x.n < y.n) := by
              rw [← hc]
              exact listK_sorted ItemV.n (fun i b => rfl) _ _
            refine ⟨hs, fun y hy => ?_⟩
            obtain ⟨r1, r2, r3⟩ := q1 y hy
            have hG := q3 hs y hy
            have hm := hy
            rw [← hc, mem_listK] at hm
            obtain ⟨i, hin, F, hF, e⟩ := hm
            have hF' : G i = some F := hF
            have en : y.n = (i : Int) := by rw [← e]
            have eg : y.gen = w.gens.getD i 0 := by rw [← e]; rfl
            have ec : y.comps = listed F := by rw [← e]
            rw [en, Int.toNat_natCast, hF'] at hG
            injection hG with hG
            refine ⟨r2, r3, by rw [eg, en, Int.toNat_natCast], fun e2 => ?_, held_of_fit r1 (by rw [← hG]; exact ec.symm)⟩
            have := (hg i hin).2.2 (by rw [← eg]; exact e2)
            rw [hF'] at this
            cases this
          · rintro ⟨hg, hs, hy⟩
            have hmem : ∀ i F, G i = some F → ∃ y ∈ w.items, y.n.toNat = i ∧ F = fitAllM w.kinds y.comps := by
              intro i F hF
              by_cases he : ∃ y ∈ w.items, y.n.toNat = i
              · obtain ⟨y, hy1, rfl⟩ := he
                have := q3 hs y hy1
                rw [hF] at this
                injection this with this
                exact ⟨y, hy1, rfl, this⟩
              · have := q2 i (fun y hy e => he ⟨y, hy, e⟩)
                rw [hF] at this
                cases this
            refine ⟨fun i hi => ⟨(hg i hi).1, (hg i hi).2, fun e => ?_⟩, ?_⟩
            · cases hG : G i with
              | none => rfl
              | some F =>
                obtain ⟨y, hy1, rfl, _⟩ := hmem i F hG
                obtain ⟨f1, f2, f3, f4, f5⟩ := hy y hy1
                rw [← f3] at e
                exact absurd e f4
            · refine sorted_ext ItemV.n (listK_sorted ItemV.n (fun i b => rfl) _ _) hs fun x => ?_
              rw [mem_listK]
              constructor
              · rintro ⟨i, hin, F, hF, rfl⟩
                obtain ⟨y, hy1, rfl, hFe⟩ := hmem i F hF
                obtain ⟨f1, f2, f3, f4, f5⟩ := hy y hy1
                have hl := (fit_of_held hk f5).2
                rw [hFe, hl, show ((y.n.toNat : Nat) : Int) = y.n by omega]
                rw [show (openV w G).gens = w.gens from rfl, ← f3]
                exact hy1
              · intro hx
                obtain ⟨f1, f2, f3, f4, f5⟩ := hy x hx
                refine ⟨x.n.toNat, by omega, _, q3 hs x hx, ?_⟩
                rw [(fit_of_held hk f5).2, show ((x.n.toNat : Nat) : Int) = x.n by omega, show (openV w G).gens = w.gens from rfl, ← f3]
        by_cases hc : gensAt w.gens w.gens.length = true ∧ itemsAt w w.items.length = true
        · rw [if_pos hc, if_pos (hiff.2 hc)]
        · rw [if_neg hc, if_neg (fun h => hc (hiff.1 h))]
/-- a good world is what its parts close to -/
theorem open_good {w : WorldV} (h : checkE w = 0) : ∃ G, openGo w.kinds w.gens.length w.items (fun _ => none) = some G ∧ gensO w.gens G w.gens.length = true ∧ closeV (openV w G) = w := by
  rw [← open_check] at h
  unfold openE at h
  split at h
  · rename_i h1; exact absurd h h1
  · split at h
    · cases h
    · split at h
      · cases h
      · rename_i G hG
        split at h
        · rename_i hc
          refine ⟨G, hG, hc.1, ?_⟩
          have := (sameB_close w G).1 hc.2
          unfold closeV
          rw [show (openV w G).gens = w.gens from rfl, this]
          rfl
        · cases h
end Go.Proofs.YtfckbkhnelgjbaaDoor
end
