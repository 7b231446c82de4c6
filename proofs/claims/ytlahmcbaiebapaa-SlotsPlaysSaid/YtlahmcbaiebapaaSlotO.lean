/- Slots: Of. -/
import Derived.Test.YtlahmcbaiebapaaSlotF
import Derived.Test.YtlahmcbaiebapaaSetW
namespace Go.Slt
open Go.Mem Go.Sp
def prevL (L : List Int) : Nat → Int
  | 0 => -1
  | k + 1 => L.getD k 0
theorem errs_step (G L : List Int) (k : Nat) (h : k < L.length) (he : errs G (-1) L = errs G (prevL L k) (L.drop k)) :
    errs G (-1) L = if bad G (L.getD k 0) = true then 1 else if L.getD k 0 ≤ prevL L k then 9 else errs G (prevL L (k + 1)) (L.drop (k + 1)) := by
  rw [he, errs_drop G L _ k h]; rfl
theorem bad_neg (G : List Int) {x : Int} (h : x < 0) : bad G x = true := by unfold bad; rw [decide_eq_true h]; rfl
theorem bad_large (G : List Int) {x : Int} (h : (G.length : Int) ≤ x) : bad G x = true := by unfold bad; rw [decide_eq_true h]; simp
theorem bad_old (G : List Int) {i : Nat} (h : G.getD i 0 = 1073741824) : bad G (i : Int) = true := by unfold bad; rw [Int.toNat_natCast, decide_eq_true (show G.getD i 0 = M30 from h)]; simp
theorem bad_not (G : List Int) {i : Nat} (hi : i < G.length) (h : G.getD i 0 ≠ 1073741824) : bad G (i : Int) = false := by
  unfold bad
  rw [Int.toNat_natCast, decide_eq_false (show ¬ G.getD i 0 = M30 from h), decide_eq_false (show ¬ ((i : Int) < 0) by omega), decide_eq_false (show ¬ ((G.length : Int) ≤ (i : Int)) by omega)]; rfl
theorem badG_of {G : List Int} {k : Nat} (h : k < G.length) (hb : G.getD k 0 < 0 ∨ 1073741824 < G.getD k 0) : badG G = true := by
  unfold badG
  refine List.any_eq_true.2 ⟨G.getD k 0, by rw [List.getD_eq_getElem?_getD, List.getElem?_eq_getElem h]; exact List.getElem_mem h, ?_⟩
  rcases hb with hb | hb
  · rw [decide_eq_true hb]; rfl
  · rw [show decide (M30 < G.getD k 0) = true from decide_eq_true hb]; simp
theorem badG_not {G : List Int} (h : ∀ j, j < G.length → 0 ≤ G.getD j 0 ∧ G.getD j 0 ≤ 1073741824) : badG G = false := by
  unfold badG
  refine List.any_eq_false.2 fun g hg => ?_
  obtain ⟨j, hj, rfl⟩ := List.getElem_of_mem hg
  have := h j hj
  rw [List.getD_eq_getElem?_getD, List.getElem?_eq_getElem hj] at this
  simp only [Option.getD_some] at this
  rw [decide_eq_false (show ¬ G[j] < 0 by omega), decide_eq_false (show ¬ M30 < G[j] by show ¬ (1073741824 < G[j]); omega)]; simp
theorem av_free {G : List Int} {B : List Bool} {i : Nat} (h : i < G.length) (hb : B.getD i false = false) (hg : G.getD i 0 < 1073741824) : av G B i = true := by unfold av; rw [hb, decide_eq_true h, decide_eq_true hg]; rfl
theorem av_used2 {G : List Int} {B : List Bool} {i : Nat} (hb : B.getD i false = true) : av G B i = false := by unfold av; rw [hb]; simp
theorem av_old2 {G : List Int} {B : List Bool} {i : Nat} (hg : ¬ G.getD i 0 < 1073741824) : av G B i = false := by unfold av; rw [decide_eq_false hg]; simp
end Go.Slt
namespace Go.Proofs.Ytlahmcbaiebapaa
open Go.ChangeShapes Go.WideShapes Go.ChangeAt Go.RowKit Go.Mem Go.Sp Go.Slt
set_option linter.unusedVariables false
variable {w w' : World} {D s r : Nat} {vg vu vf vb vh : Value} {G : List Int} {B : List Bool} {U F : List Nat}
def OfPost (G L : List Int) (w : World) (e : Ending) (w' : World) : Prop :=
  Below w.heap.size w w' ∧ ((ofE G L ≠ 0 ∧ e = .returned (.tuple #[.pointer none, .int .i64 (ofE G L)])) ∨
    (ofE G L = 0 ∧ ∃ s vg vu vf U F, e = .returned (.tuple #[.pointer (some ⟨s, 0, none⟩), .int .i64 0]) ∧ Sl w' w.heap.size s vg vu vf G (ofB G L) U F ∧ SI G (ofB G L) U F))
theorem OfPost.err {G L : List Int} {w w' : World} {E : Int} (hE : ofE G L = E) (h0 : E ≠ 0) (hb : Below w.heap.size w w') : OfPost G L w (.returned (.tuple #[.pointer none, .int .i64 E])) w' := by
  subst hE; exact ⟨hb, .inl ⟨h0, rfl⟩⟩
theorem ofE_large {G L : List Int} (h : 256 < G.length) : ofE G L = 2 := by unfold ofE; rw [if_pos h]
theorem ofE_bad {G L : List Int} (h : ¬ 256 < G.length) (hb : badG G = true) : ofE G L = 1 := by unfold ofE; rw [if_neg h, if_pos hb]
theorem ofE_errs {G L : List Int} (h : ¬ 256 < G.length) (hb : badG G = false) : ofE G L = errs G (-1) L := by unfold ofE; rw [if_neg h, hb]; rfl
set_option maxRecDepth 100000 in
set_option maxHeartbeats 8000000 in
theorem sl_Of (G L : List Int) (ag au : Option Addr) (ng nu cg cu : Nat) (hng : G.length = ng) (hnu : L.length = nu) (h1 : ng ≤ 17592186044416) (h2 : nu ≤ 17592186044416) (w : World) (hzg : IntsAt .i64 w ag G) (hzu : IntsAt .i64 w au L) :
    Calls Try.prog 33 #[.slice ag ng cg, .slice au nu cu] w (OfPost G L w) := by
  have HNG := Lib.hid hng
  have HNU := Lib.hid hnu
  have HZG := Lib.hid hzg
  have HZU := Lib.hid hzu
  by_cases h256 : 256 < ng
  · have hE := ofE_large (L := L) (by rw [hng]; exact h256)
    have HE := Lib.hid hE
    clear hng hnu hzg hzu hE
    go_enter Try.func33, Try.ntmps33
    go_wp2_with fail
    go_ret2
    exact OfPost.err HE.out (by decide) (Below.refl _ _)
  · have h256 : ng ≤ 256 := by omega
    have H256 := Lib.hid (show ¬ 256 < G.length by omega)
    have hnil := World.ownsRow_nil w w.heap.size 3 1
    clear hng hnu hzg hzu
    go_enter Try.func33, Try.ntmps33
    go_wp2_with (at_builtin; go_must (refine wpList_append_ints rfl _ _ 23 rfl w.heap.size 3 .i64 8 Try.underlying23 (by kernel_rfl) (.slice none 0 0) 0 [] rfl hnil ag ng cg G rfl HNG.out HZG.out (by unfold maxLen; omega) (by omega) (by simp) ?_))
    intro v1 w1 hown hgr hat
    have hb1 : Below w.heap.size w w1 := (Below.refl _ _).grown hgr (Nat.le_refl _) (fun k hk => by cases hk)
    have hs1 := hb1.size

    obtain ⟨a1, c1, rfl⟩ := own_slice hown
    have HO := Lib.hid hown
    have HB1 := Lib.hid hb1
    clear hown hgr hat hb1 hnil
    go_wp2_with fail
    have hsl : Sl (w1.alloc (.cells #[.slice a1 ng c1, .slice none 0 0, .slice none 0 0] 134)) w.heap.size w1.heap.size (.slice a1 ng c1) (.slice none 0 0) (.slice none 0 0) G (ofB G []) [] [] := by
      have ho := HO.out
      rw [← HNG.out] at ho ⊢
      exact ⟨heap_alloc_new _ _, ho.alloc _, World.ownsRow_nil _ _ _ _, World.ownsRow_nil _ _ _ _, hs1, by simp; omega⟩
    have hbw : Below w.heap.size w (w1.alloc (.cells #[.slice a1 ng c1, .slice none 0 0, .slice none 0 0] 134)) := HB1.out.trans ((Below.refl _ _).alloc hs1 _)
    obtain ⟨W1, hW1⟩ : ∃ W1, W1 = w1.alloc (.cells #[.slice a1 ng c1, .slice none 0 0, .slice none 0 0] 134) := ⟨_, rfl⟩
    rw [← hW1] at hsl hbw ⊢
    obtain ⟨s, hs⟩ : ∃ s, s = w1.heap.size := ⟨_, rfl⟩
    rw [← hs] at hsl ⊢
    have HSL := Lib.hid hsl
    have HBW := Lib.hid hbw
    clear hsl hbw hW1 hs hs1 HO HB1
    go_loop [8, 21] (fun _ vi => ∃ k : Nat, k ≤ ng ∧ vi = .int .i64 k ∧ Hid (∀ j, j < k → 0 ≤ G.getD j 0 ∧ G.getD j 0 ≤ 1073741824)) (fun _ vi => ng - (intOf vi).toNat)
    case atStart => exact ⟨0, Nat.zero_le _, rfl, Lib.hid (fun j hj => absurd hj (Nat.not_lt_zero _))⟩
    case round =>
      obtain ⟨k, hk, rfl, hall⟩ := hrel
      by_cases hlt : k < ng
      · obtain ⟨x, rfl, hx, hc⟩ := (HZG.out.below HBW.out) (by rw [HNG.out]; omega)
        have hck := hc k (by rw [HNG.out]; exact hlt)
        obtain ⟨q, hq⟩ : ∃ q, q = G.getD k 0 := ⟨_, rfl⟩
        rw [← hq] at hck
        have HQ := Lib.hid hq
        clear hc hq
        by_cases hn : q < 0
        · have hE := ofE_bad (L := L) H256.out (badG_of (by rw [HNG.out]; exact hlt) (.inl (by rw [← HQ.out]; exact hn)))
          have HE := Lib.hid hE
          clear hE
          go_wp2_with fail
          go_ret2
          exact OfPost.err HE.out (by decide) HBW.out
        · by_cases hm : 1073741824 < q
          · have hE := ofE_bad (L := L) H256.out (badG_of (by rw [HNG.out]; exact hlt) (.inr (by rw [← HQ.out]; exact hm)))
            have HE := Lib.hid hE
            clear hE
            go_wp2_with fail
            go_ret2
            exact OfPost.err HE.out (by decide) HBW.out
          · go_wp2_with fail
            go_round
            case rel => exact ⟨k + 1, hlt, by go_num, Lib.hid (fun j hj => by
              rcases Nat.lt_or_eq_of_le (Nat.le_of_lt_succ hj) with h | h
              · exact hall.out j h
              · rw [h, ← HQ.out]; omega)⟩
            case measure => simp [intOf]; omega
      · have hk2 : k = ng := by omega
        have hE : ofE G L = errs G (-1) L := ofE_errs H256.out (badG_not (fun j hj => hall.out j (by rw [HNG.out] at hj; omega)))
        have HE := Lib.hid hE
        clear hall hk2 hE
        go_wp2_with fail
        go_loopg [9, 10, 34] nu (fun gk _ _ vi wx => ∃ (k : Nat) (au2 : Option Addr) (m cr : Nat), k ≤ nu ∧ gk = nu - k ∧ vi = .int .i64 k ∧ Hid ((ofN (L.take k)).length = m) ∧ Hid (Sl wx w.heap.size s (.slice a1 ng c1) (.slice au2 m cr) (.slice none 0 0) G (ofB G (L.take k)) (ofN (L.take k)) []) ∧ Hid (Below w.heap.size w wx) ∧ Hid (errs G (-1) L = errs G (prevL L k) (L.drop k)))
        case atStart => exact ⟨0, none, 0, 0, Nat.zero_le _, rfl, rfl, Lib.hid rfl, HSL, HBW, Lib.hid rfl⟩
        case round =>
          obtain ⟨k, au2, m, cr, hk, g2, rfl, HM, HSL2, HBW2, HER⟩ := hrel
          have G2 := Lib.hid g2
          clear g2
          by_cases hlt : k < nu
          · have hlk : k < L.length := by rw [HNU.out]; exact hlt
            obtain ⟨xa, rfl, hxa, hc⟩ := (HZU.out.below HBW2.out) (by omega)
            have hck := hc k hlk
            have hes := errs_step G L k hlk HER.out
            obtain ⟨x, hx⟩ : ∃ x, x = L.getD k 0 := ⟨_, rfl⟩
            rw [← hx] at hck hes
            have HX := Lib.hid hx
            clear hx
            by_cases hn : x < 0
            · rw [if_pos (bad_neg G hn)] at hes
              have HF := Lib.hid (HE.out.trans hes)
              clear hes hc hlk
              go_wp2_with fail
              go_ret2
              exact OfPost.err HF.out (by decide) HBW2.out
            · by_cases hl : (ng : Int) ≤ x
              · rw [if_pos (bad_large G (by rw [HNG.out]; exact hl))] at hes
                have HF := Lib.hid (HE.out.trans hes)
                clear hes hc hlk
                go_wp2_with fail
                go_ret2
                exact OfPost.err HF.out (by decide) HBW2.out
              · obtain ⟨i, rfl⟩ : ∃ i : Nat, x = i := ⟨x.toNat, by omega⟩
                have hi : i < ng := by omega
                obtain ⟨xg, rfl, hxg, hcg⟩ := (HZG.out.below HBW2.out) (by rw [HNG.out]; omega)
                have hgi := hcg i (by rw [HNG.out]; exact hi)
                obtain ⟨q, hq⟩ : ∃ q, q = G.getD i 0 := ⟨_, rfl⟩
                rw [← hq] at hgi
                have i1 : (0 : Int) ≤ (i : Int) := by omega
                have i2 : (i : Int) < (ng : Int) := by omega
                by_cases hm : q = 1073741824
                · rw [if_pos (bad_old G (by rw [← hq]; exact hm))] at hes
                  have HF := Lib.hid (HE.out.trans hes)
                  have t1 : (q == 1073741824) = true := by rw [beq_iff_eq]; exact hm
                  clear hes hc hlk hcg hq hm
                  go_wp2_with fail
                  go_ret2
                  exact OfPost.err HF.out (by decide) HBW2.out
                · rw [bad_not G (by rw [HNG.out]; exact hi) (by rw [← hq]; exact hm)] at hes
                  simp only [Bool.false_eq_true, if_false] at hes
                  have t1 : (q == 1073741824) = false := by rw [beq_eq_false_iff_ne]; exact hm
                  by_cases h9 : (i : Int) ≤ prevL L k
                  · rw [if_pos h9] at hes
                    have HF := Lib.hid (HE.out.trans hes)
                    rcases k with _ | p
                    · exact absurd h9 (by show ¬ ((i : Int) ≤ -1); omega)
                    · have hp := hc p (by omega)
                      obtain ⟨y, hy⟩ : ∃ y, y = L.getD p 0 := ⟨_, rfl⟩
                      have h9 : (i : Int) ≤ L.getD p 0 := h9
                      rw [← hy] at hp h9
                      obtain ⟨k, hkp⟩ : ∃ k, k = p + 1 := ⟨_, rfl⟩
                      rw [← hkp] at hck hlt hlk hk HM HSL2 HER HX G2 ⊢
                      have j1 : IntKind.i64.wrap ((k : Int) - 1) = (k : Int) - 1 := by rw [IntKind.wrap_i64]; omega
                      have j2 : (0 : Int) ≤ (k : Int) - 1 := by omega
                      have j3 : (k : Int) - 1 < (nu : Int) := by omega
                      have j4 : ((k : Int) - 1).toNat = p := by omega
                      have j5 : 1 ≤ k := by omega
                      have j6 : (0 : Int) < (k : Int) := by omega
                      clear hes hc hlk hcg hq hm hy hkp
                      go_wp2_with fail
                      go_ret2
                      exact OfPost.err HF.out (by decide) HBW2.out
                  · rw [if_neg h9] at hes
                    have hnx : Hid (errs G (-1) L = errs G (prevL L (k + 1)) (L.drop (k + 1))) := Lib.hid hes
                    have hst : withN (ofN (L.take k)) (i : Int) = ofN (L.take (k + 1)) := by rw [HX.out]; exact ofN_snoc L k hlk
                    have HST := Lib.hid hst
                    have hcn := of_canon (L.take k)
                    have CW := Lib.hid (sets_With (ofN (L.take k)) au2 m cr HM.out (by have := hcn.1; rw [HM.out] at this; omega) hcn.2.1 (i : Int) wr (by
                      have := HSL2.out
                      exact this.su))
                    have c1 := HSL2.out.c1
                    have HHc := Lib.hid hc
                    have H9 := Lib.hid h9
                    clear hes hcn hst hcg hq hm hc h9
                    rcases Nat.eq_zero_or_pos k with hk0 | hk0
                    · have HK0 := Lib.hid hk0
                      have t2 : decide ((0 : Int) < (k : Int)) = false := decide_eq_false (by omega)
                      have t3 : (k : Int) ≤ 0 := by omega
                      clear hk0
                      go_wp2_with fail
                      refine CW.out.mono ?_
                      rintro e w2 ⟨r2, m2, c2, h3, rfl, h4, h5, h6⟩
                      have hsl3 := HSL2.out.below h5
                      have HSL3 := Lib.hid ((hsl3.setUsed (v := .slice r2 m2 c2) (A := ofN (L.take (k + 1))) (by
                        rw [← HST.out, h3]
                        exact own_lower h6 HBW2.out.size)).re (ofB G (L.take (k + 1))))
                      have HB3 := Lib.hid ((HBW2.out.trans (h5.mono HBW2.out.size)).setCell (p := ⟨s, 1, none⟩) HSL2.out.ds (.slice r2 m2 c2))
                      have HM3 := Lib.hid (show (ofN (L.take (k + 1))).length = m2 from by rw [← HST.out]; exact h3)
                      have d1 := hsl3.c1
                      have f1 := hsl3.fz 1
                      clear hsl3 h3 h4 h5 h6 c1 CW
                      go_wp2_with fail
                      go_roundg (nu - (k + 1))
                      case measure => rw [G2.out]; omega
                      case rel => exact ⟨k + 1, r2, m2, c2, hlt, rfl, by go_num, HM3, HSL3, HB3, hnx⟩
                    · have hp := HHc.out (k - 1) (by omega)
                      obtain ⟨p, hpk⟩ : ∃ p, p = k - 1 := ⟨_, rfl⟩
                      obtain ⟨y, hy⟩ : ∃ y, y = L.getD (k - 1) 0 := ⟨_, rfl⟩
                      have hyx : y < (i : Int) := by
                        have := H9.out
                        rw [hy]
                        rcases k with _ | k
                        · omega
                        · have h : ¬ ((i : Int) ≤ L.getD k 0) := this
                          simp only [Nat.add_sub_cancel]; omega
                      rw [← hy, ← hpk] at hp
                      have j1 : IntKind.i64.wrap ((k : Int) - 1) = (k : Int) - 1 := by rw [IntKind.wrap_i64]; omega
                      have j2 : (0 : Int) ≤ (k : Int) - 1 := by omega
                      have j3 : (k : Int) - 1 < (nu : Int) := by omega
                      have j4 : ((k : Int) - 1).toNat = p := by omega
                      have j6 : (0 : Int) < (k : Int) := by omega
                      clear hy hpk
                      go_wp2_with fail
                      refine CW.out.mono ?_
                      rintro e w2 ⟨r2, m2, c2, h3, rfl, h4, h5, h6⟩
                      have hsl3 := HSL2.out.below h5
                      have HSL3 := Lib.hid ((hsl3.setUsed (v := .slice r2 m2 c2) (A := ofN (L.take (k + 1))) (by
                        rw [← HST.out, h3]
                        exact own_lower h6 HBW2.out.size)).re (ofB G (L.take (k + 1))))
                      have HB3 := Lib.hid ((HBW2.out.trans (h5.mono HBW2.out.size)).setCell (p := ⟨s, 1, none⟩) HSL2.out.ds (.slice r2 m2 c2))
                      have HM3 := Lib.hid (show (ofN (L.take (k + 1))).length = m2 from by rw [← HST.out]; exact h3)
                      have d1 := hsl3.c1
                      have f1 := hsl3.fz 1
                      clear hsl3 h3 h4 h5 h6 c1 CW
                      go_wp2_with fail
                      go_roundg (nu - (k + 1))
                      case measure => rw [G2.out]; omega
                      case rel => exact ⟨k + 1, r2, m2, c2, hlt, rfl, by go_num, HM3, HSL3, HB3, hnx⟩
          · have hk2 : k = nu := by omega
            have ht : L.take k = L := List.take_of_length_le (by rw [HNU.out]; omega)
            have hd : L.drop k = [] := List.drop_eq_nil_of_le (by rw [HNU.out]; omega)
            have hE0 : ofE G L = 0 := by rw [HE.out, HER.out, hd]; rfl
            have HE0 := Lib.hid hE0
            rw [ht] at HM HSL2
            have HSI := Lib.hid (of_si hE0)
            clear ht hd hE0 hk2
            go_wp2_with fail
            go_loopg [11, 77] ng (fun gk _ vi wx => ∃ (k : Nat) (af : Option Addr) (mf cf : Nat), k ≤ ng ∧ gk = ng - k ∧ vi = .int .i64 k ∧ Hid ((fF G (ofB G L) k).length = mf) ∧ Hid (Sl wx w.heap.size s (.slice a1 ng c1) (.slice au2 m cr) (.slice af mf cf) G (ofB G L) (ofN L) (fF G (ofB G L) k)) ∧ Hid (Below w.heap.size w wx))
            case atStart => exact ⟨0, none, 0, 0, Nat.zero_le _, rfl, rfl, Lib.hid rfl, HSL2, HBW2⟩
            case round =>
              clear HER HSL2 HBW2 HSL HBW
              obtain ⟨i, af, mf, cf, hi, g3, rfl, HMF, HSL3, HBW3⟩ := hrel
              have G3 := Lib.hid g3
              clear g3
              by_cases hli : i < ng
              · obtain ⟨xg, rfl, hxg, hcg⟩ := (HZG.out.below HBW3.out) (by rw [HNG.out]; omega)
                have hgi := hcg i (by rw [HNG.out]; exact hli)
                obtain ⟨q, hq⟩ : ∃ q, q = G.getD i 0 := ⟨_, rfl⟩
                rw [← hq] at hgi
                have HQ := Lib.hid hq
                have i1 : (0 : Int) ≤ (i : Int) := by omega
                have i2 : (i : Int) < (ng : Int) := by omega
                have hlen := (of_canon L).1
                have CH := sets_Has (ofN L) au2 m cr HM.out (by rw [← HM.out]; omega) (of_canon L).2.1 (i : Int) (by omega) wr HSL3.out.su
                rw [Int.toNat_natCast, HSI.out.used, decide_eq_true i1, Bool.true_and] at CH
                have c1 := HSL3.out.c1
                clear hcg hq hlen
                obtain ⟨bb, hbb⟩ : ∃ bb, bb = (ofB G L).getD i false := ⟨_, rfl⟩
                rw [← hbb] at CH
                have HBB := Lib.hid hbb
                have CHH := Lib.hid CH
                clear hbb CH
                cases bb
                · by_cases hlq : q < 1073741824
                  · have ha := av_free (B := ofB G L) (by rw [HNG.out]; exact hli) HBB.out.symm (by rw [← HQ.out]; exact hlq)
                    have hst : fF G (ofB G L) (i + 1) = withN (fF G (ofB G L) i) (i : Int) := by rw [fF_succ, if_pos ha]
                    have HST := Lib.hid hst
                    have hcn := (fF_bit G (ofB G L) i (by omega)).1
                    have CW := Lib.hid (sets_With (fF G (ofB G L) i) af mf cf HMF.out (by have := hcn.1; rw [HMF.out] at this; omega) hcn.2.1 (i : Int) wr (by
                      have := HSL3.out
                      exact this.sf))
                    have c2 := HSL3.out.c2
                    clear ha hst hcn
                    go_wp2_with fail
                    refine CHH.out.mono ?_
                    rintro e w2 ⟨rfl, rfl⟩
                    go_wp2_with fail
                    refine CW.out.mono ?_
                    rintro e w2 ⟨r2, m2, c2', h3, rfl, h4, h5, h6⟩
                    have hsl3 := HSL3.out.below h5
                    have HSL4 := Lib.hid (hsl3.setFree (v := .slice r2 m2 c2') (A := fF G (ofB G L) (i + 1)) (by
                      rw [HST.out, h3]
                      exact own_lower h6 HBW3.out.size))
                    have HB4 := Lib.hid ((HBW3.out.trans (h5.mono HBW3.out.size)).setCell (p := ⟨s, 2, none⟩) HSL3.out.ds (.slice r2 m2 c2'))
                    have HM4 := Lib.hid (show (fF G (ofB G L) (i + 1)).length = m2 from by rw [HST.out]; exact h3)
                    have d1 := hsl3.c2
                    have f1 := hsl3.fz 2
                    clear hsl3 h3 h4 h5 h6 c1 c2 CW CHH
                    go_wp2_with fail
                    go_roundg (ng - (i + 1))
                    case measure => rw [G3.out]; omega
                    case rel => exact ⟨i + 1, r2, m2, c2', hli, rfl, by go_num, HM4, HSL4, HB4⟩
                  · have ha := av_old2 (B := ofB G L) (by rw [← HQ.out]; exact hlq)
                    have hst : fF G (ofB G L) (i + 1) = fF G (ofB G L) i := by rw [fF_succ, ha]; rfl
                    have HST := Lib.hid hst
                    clear ha hst
                    go_wp2_with fail
                    refine CHH.out.mono ?_
                    rintro e w2 ⟨rfl, rfl⟩
                    go_wp2_with fail
                    go_roundg (ng - (i + 1))
                    case measure => rw [G3.out]; omega
                    case rel => exact ⟨i + 1, af, mf, cf, hli, rfl, by go_num, by rw [HST.out]; exact HMF, by rw [HST.out]; exact HSL3, HBW3⟩
                · have ha := av_used2 (G := G) HBB.out.symm
                  have hst : fF G (ofB G L) (i + 1) = fF G (ofB G L) i := by rw [fF_succ, ha]; rfl
                  have HST := Lib.hid hst
                  clear ha hst
                  go_wp2_with fail
                  refine CHH.out.mono ?_
                  rintro e w2 ⟨rfl, rfl⟩
                  go_wp2_with fail
                  go_roundg (ng - (i + 1))
                  case measure => rw [G3.out]; omega
                  case rel => exact ⟨i + 1, af, mf, cf, hli, rfl, by go_num, by rw [HST.out]; exact HMF, by rw [HST.out]; exact HSL3, HBW3⟩
              · have hi2 : i = G.length := by rw [HNG.out]; omega
                have HI2 := Lib.hid hi2
                clear hi2
                go_wp2_with fail
                go_ret2
                have hf := HSL3.out
                rw [HI2.out] at hf
                exact ⟨HBW3.out, .inr ⟨HE0.out, _, _, _, _, _, _, rfl, hf, HSI.out⟩⟩
end Go.Proofs.Ytlahmcbaiebapaa
