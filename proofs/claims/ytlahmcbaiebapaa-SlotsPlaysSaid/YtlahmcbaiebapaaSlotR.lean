/- Slots: the reference's RoomOf. By program (gen_slots5.py). -/
import Derived.Test.YtlahmcbaiebapaaSlotO
import Derived.OwnWalk
namespace Go.Proofs.Ytlahmcbaiebapaa
open Go.ChangeShapes Go.WideShapes Go.ChangeAt Go.RowKit Go.Mem Go.Sp Go.Slt
set_option linter.unusedVariables false
variable {w w' : World} {D s r : Nat} {vg vu vf vb vh : Value} {G : List Int} {B : List Bool} {U F : List Nat}
def RoomPost (G L : List Int) (w : World) (e : Ending) (w' : World) : Prop :=
  Below w.heap.size w w' ∧ ((ofE G L ≠ 0 ∧ e = .returned (.tuple #[.pointer none, .int .i64 (ofE G L)])) ∨
    (ofE G L = 0 ∧ ∃ r vg vb, e = .returned (.tuple #[.pointer (some ⟨r, 0, none⟩), .int .i64 0]) ∧ Rm w' w.heap.size r vg vb G (ofB G L)))
theorem RoomPost.err {G L : List Int} {w w' : World} {E : Int} (hE : ofE G L = E) (h0 : E ≠ 0) (hb : Below w.heap.size w w') : RoomPost G L w (.returned (.tuple #[.pointer none, .int .i64 E])) w' := by
  subst hE; exact ⟨hb, .inl ⟨h0, rfl⟩⟩
theorem inf_bool : (Try.prog.info? 4).map (fun i => (i.zero, i.size, i.bytes)) = some (some (.bool false), 1, 1) := by kernel_rfl
theorem made_bools (n : Nat) : (madeCells (Value.bool false).cells (n * 1)).toList = vbools (List.replicate n false) := by
  rw [Nat.mul_one]
  have := toList_madeCells_one (Value.bool false) n
  rw [show (Value.bool false).cells = #[Value.bool false] from rfl, this]; simp [vbools]
theorem list8 {α : Type} {vs : List α} (h : vs.length = 8) : ∃ x0 x1 x2 x3 x4 x5 x6 x7, vs = [x0, x1, x2, x3, x4, x5, x6, x7] := by
  obtain ⟨x0, t0, rfl, h0⟩ := cons_of h
  obtain ⟨x1, t1, rfl, h1⟩ := cons_of h0
  obtain ⟨x2, t2, rfl, h2⟩ := cons_of h1
  obtain ⟨x3, t3, rfl, h3⟩ := cons_of h2
  obtain ⟨x4, t4, rfl, h4⟩ := cons_of h3
  obtain ⟨x5, t5, rfl, h5⟩ := cons_of h4
  obtain ⟨x6, t6, rfl, h6⟩ := cons_of h5
  obtain ⟨x7, t7, rfl, h7⟩ := cons_of h6
  exact ⟨x0, x1, x2, x3, x4, x5, x6, x7, by rw [List.eq_nil_of_length_eq_zero h7]⟩
def F_ro9 (DD ng cg : Nat) (ag : Option Addr) (G : List Int) (jq : Nat) (v : Value) (w : World) : Prop :=
  match jq with
  | 0 => v = .slice ag ng cg
  | 1 => ∃ a c, v = .slice a ng c ∧ w.ownsRow DD 3 1 v ng (vints .i64 G)
  | 2 => v = .slice ag ng cg
  | 3 => v = .int .i64 (ng : Int)
  | 4 => ∃ g, v = .slice (some ⟨g, 0, none⟩) ng ng ∧ w.ownsRow DD 4 1 v ng (vbools (List.replicate ng false))
  | _ => True
theorem F_ro9_mono (DD ng cg : Nat) (ag : Option Addr) (G : List Int) : Facts (F_ro9 DD ng cg ag G) := ⟨by
  intro jq v w w' h hb
  unfold F_ro9 at h ⊢
  split at h
  all_goals first
    | exact h
    | (obtain ⟨a, c, h1, h2⟩ := h; exact ⟨a, c, h1, own_below h2 hb⟩)
    | (obtain ⟨g, h1, h2⟩ := h; exact ⟨g, h1, own_below h2 hb⟩)
    | trivial⟩


set_option maxRecDepth 100000 in
set_option maxHeartbeats 8000000 in
theorem rm_Of (G L : List Int) (ag au : Option Addr) (ng nu cg cu : Nat) (hng : G.length = ng) (hnu : L.length = nu) (h1 : ng ≤ 17592186044416) (h2 : nu ≤ 17592186044416) (w : World) (hzg : IntsAt .i64 w ag G) (hzu : IntsAt .i64 w au L) :
    Calls Try.prog 34 #[.slice ag ng cg, .slice au nu cu] w (RoomPost G L w) := by
  have HNG := Lib.hid hng
  have HNU := Lib.hid hnu
  have HZG := Lib.hid hzg
  have HZU := Lib.hid hzu
  by_cases h256 : 256 < ng
  · have hE := ofE_large (L := L) (by rw [hng]; exact h256)
    have HE := Lib.hid hE
    clear hng hnu hzg hzu hE
    go_enter Try.func34, Try.ntmps34
    go_wp2_with fail
    go_ret2
    exact RoomPost.err HE.out (by decide) (Below.refl _ _)
  · have h256 : ng ≤ 256 := by omega
    have H256 := Lib.hid (show ¬ 256 < G.length by omega)
    obtain ⟨i0, hi0⟩ := info_parts inf_bool
    have I0 := Lib.hid hi0
    clear hng hnu hzg hzu hi0
    go_enter Try.func34, Try.ntmps34
    go_wp2_with fail
    go_loop [7, 17] (fun _ vi => ∃ k : Nat, k ≤ ng ∧ vi = .int .i64 k ∧ Hid (∀ j, j < k → 0 ≤ G.getD j 0 ∧ G.getD j 0 ≤ 1073741824)) (fun _ vi => ng - (intOf vi).toNat)
    case atStart => exact ⟨0, Nat.zero_le _, rfl, Lib.hid (fun j hj => absurd hj (Nat.not_lt_zero _))⟩
    case round =>
      obtain ⟨k, hk, rfl, hall⟩ := hrel
      by_cases hlt : k < ng
      · obtain ⟨x, rfl, hx, hc⟩ := HZG.out (by rw [HNG.out]; omega)
        have hck := hc k (by rw [HNG.out]; exact hlt)
        obtain ⟨q, hq⟩ : ∃ q, q = G.getD k 0 := ⟨_, rfl⟩
        rw [← hq] at hck
        have HQ := Lib.hid hq
        clear hc hq
        by_cases hn : q < 0
        · have hE := ofE_bad (L := L) H256.out (badG_of (by rw [HNG.out]; exact hlt) (.inl (by rw [← HQ.out]; exact hn)))
          have HE := Lib.hid hE
          clear hE
          go_wp2_with fail
          go_ret2
          exact RoomPost.err HE.out (by decide) (Below.refl _ _)
        · by_cases hm : 1073741824 < q
          · have hE := ofE_bad (L := L) H256.out (badG_of (by rw [HNG.out]; exact hlt) (.inr (by rw [← HQ.out]; exact hm)))
            have HE := Lib.hid hE
            clear hE
            go_wp2_with fail
            go_ret2
            exact RoomPost.err HE.out (by decide) (Below.refl _ _)
          · go_wp2_with fail
            go_round
            case rel => exact ⟨k + 1, hlt, by go_num, Lib.hid (fun j hj => by
              rcases Nat.lt_or_eq_of_le (Nat.le_of_lt_succ hj) with h | h
              · exact hall.out j h
              · rw [h, ← HQ.out]; omega)⟩
            case measure => simp [intOf]; omega
      · have hk2 : k = ng := by omega
        have hE : ofE G L = errs G (-1) L := ofE_errs H256.out (badG_not (fun j hj => hall.out j (by rw [HNG.out] at hj; omega)))
        have HE := Lib.hid hE
        have CC := Lib.hid (fun w' (hb : Below w.heap.size w w') => clone_ints G ag ng cg HNG.out h1 w' (HZG.out.below hb))
        clear hall hk2 hE
        go_wp2_with fail
        refine wp_region_facts_t rfl 5 (by kernel_rfl) (F_ro9 w.heap.size ng cg ag G) (F_ro9_mono w.heap.size ng cg ag G) ?_ ?_
        · refine ⟨?_, ?_, ?_, ?_, ?_, trivial⟩
          · intro vs w' F hb hd hF hl hT
            have e := (hF 0).trans (look_out _ 0 _ _ (by kernel_rfl))
            exact one_move _ rfl (by first | exact Or.inl rfl | exact Or.inr rfl) ⟨_, rfl, Below.refl _ _, e⟩
          · intro vs w' F hb hd hF hl hT
            have ea := (((hF 28).trans (look_at _ 28 0 _ _ (by kernel_rfl) (by kernel_rfl) hl)).trans (dep_of (Fact := F_ro9 w.heap.size ng cg ag G) hd 0 (by kernel_rfl)))
            refine one_call _ _ rfl rfl (enters_of Try.func25 (by kernel_rfl) rfl) #[.slice ag ng cg] (eval1 ea) ?_
            refine (CC.out w' hb).mono ?_
            rintro e2 w2 ⟨u2, rfl, hs2, hb2⟩
            obtain ⟨a2, c2, e2⟩ := own_slice hs2
            exact ⟨_, rfl, _, rfl, hb2, a2, c2, e2, own_lower hs2 hb.size⟩
          · intro vs w' F hb hd hF hl hT
            have e := (hF 0).trans (look_out _ 0 _ _ (by kernel_rfl))
            exact one_move _ rfl (by first | exact Or.inl rfl | exact Or.inr rfl) ⟨_, rfl, Below.refl _ _, e⟩
          · intro vs w' F hb hd hF hl hT
            have e := ((hF 30).trans (look_at _ 30 2 _ _ (by kernel_rfl) (by kernel_rfl) hl)).trans (dep_of (Fact := F_ro9 w.heap.size ng cg ag G) hd 2 (by kernel_rfl))
            exact rg_len _ 23 3 rfl rfl Try.underlying23 ag (ng) (cg) e ⟨_, rfl, Below.refl _ _, rfl⟩
          · intro vs w' F hb hd hF hl hT
            have ea := (((hF 31).trans (look_at _ 31 3 _ _ (by kernel_rfl) (by kernel_rfl) hl)).trans (dep_of (Fact := F_ro9 w.heap.size ng cg ag G) hd 3 (by kernel_rfl)))
            refine wpList_make_full _ rfl _ _ _ rfl w.heap.size 4 i0 (.bool false) 1 Try.underlying63 I0.out.1 I0.out.2.1 I0.out.2.2.1 .i64 .i64 (ng : Int) (ng : Int) ng ea ea rfl rfl (by rw [I0.out.2.2.2]; omega) (by unfold maxLen; omega) hb.size ?_
            intro w2 hown2 hgr2
            rw [made_bools] at hown2
            exact ⟨_, rfl, ⟨hgr2.os, hgr2.tape, hgr2.output, hgr2.size, fun k hk => hgr2.block k hk (by simp)⟩, _, rfl, hown2⟩
        · intro vs8 W8 hl hb hI
          obtain ⟨a1, c1, hv1, ho1⟩ := hI 1 (by omega)
          obtain ⟨g4, hv4, ho4⟩ := hI 4 (by omega)
          obtain ⟨z0, z1, z2, z3, z4, z5, z6, z7, hvs⟩ := list8 hl
          subst hvs
          replace hv1 : z1 = .slice a1 ng c1 := hv1
          replace hv4 : z4 = .slice (some ⟨g4, 0, none⟩) ng ng := hv4
          subst hv1 hv4
          have HO1 := Lib.hid ho1
          have HO4 := Lib.hid ho4
          have HB8 := Lib.hid hb
          clear hI hl ho1 ho4 hb CC
          simp only [fillAll, Act.put, List.setIfInBounds_toArray, List.set_cons_succ, List.set_cons_zero, List.drop_succ_cons, List.drop_zero]
          go_wp2_with fail
          have hrm : Rm (W8.alloc (.cells #[.slice a1 ng c1, .slice (some ⟨g4, 0, none⟩) ng ng] 65)) w.heap.size W8.heap.size (.slice a1 ng c1) (.slice (some ⟨g4, 0, none⟩) ng ng) G (ofB G []) := by
            have ho := HO1.out
            have ho4 := HO4.out
            have hB : ofB G [] = List.replicate ng false := by rw [ofB_nil, HNG.out]
            have hB2 : (ofB G []).length = ng := by rw [hB, List.length_replicate]
            refine ⟨heap_alloc_new _ _, ?_, ?_, HB8.out.size, by simp; have := HB8.out.size; omega⟩
            · rw [HNG.out]
              exact ho.alloc _
            · rw [hB2, hB]
              exact ho4.alloc _
          have hbw : Below w.heap.size w (W8.alloc (.cells #[.slice a1 ng c1, .slice (some ⟨g4, 0, none⟩) ng ng] 65)) := HB8.out.trans ((Below.refl _ _).alloc HB8.out.size _)
          obtain ⟨W1, hW1⟩ : ∃ W1, W1 = W8.alloc (.cells #[.slice a1 ng c1, .slice (some ⟨g4, 0, none⟩) ng ng] 65) := ⟨_, rfl⟩
          rw [← hW1] at hrm hbw ⊢
          obtain ⟨r, hr⟩ : ∃ r, r = W8.heap.size := ⟨_, rfl⟩
          rw [← hr] at hrm ⊢
          have HRM := Lib.hid hrm
          have HBW := Lib.hid hbw
          clear hrm hbw hW1 hr HO1 HO4 HB8
          go_loopg [9, 11, 37] nu (fun gk vl _ vi wx => ∃ (k : Nat) (p : Int), k ≤ nu ∧ gk = nu - k ∧ vi = .int .i64 k ∧ vl = .int .i64 p ∧ Hid (p = prevL L k) ∧ Hid (Rm wx w.heap.size r (.slice a1 ng c1) (.slice (some ⟨g4, 0, none⟩) ng ng) G (ofB G (L.take k))) ∧ Hid (Below w.heap.size w wx) ∧ Hid (errs G (-1) L = errs G (prevL L k) (L.drop k)))
          case atStart => exact ⟨0, -1, Nat.zero_le _, rfl, rfl, rfl, Lib.hid rfl, HRM, HBW, Lib.hid rfl⟩
          case round =>
            clear HRM HBW
            obtain ⟨k, p, hk, g2, rfl, rfl, HP, HRM2, HBW2, HER⟩ := hrel
            have G2 := Lib.hid g2
            clear g2
            by_cases hlt : k < nu
            · have hlk : k < L.length := by rw [HNU.out]; exact hlt
              obtain ⟨xa, rfl, hxa, hc⟩ := (HZU.out.below HBW2.out) (by omega)
              have hck := hc k hlk
              have hes := errs_step G L k hlk HER.out
              obtain ⟨x, hx⟩ : ∃ x, x = L.getD k 0 := ⟨_, rfl⟩
              rw [← hx] at hck hes
              rw [← HP.out] at hes
              have HX := Lib.hid hx
              clear hx
              by_cases hn : x < 0
              · rw [if_pos (bad_neg G hn)] at hes
                have HF := Lib.hid (HE.out.trans hes)
                clear hes hc hlk
                go_wp2_with fail
                go_ret2
                exact RoomPost.err HF.out (by decide) HBW2.out
              · by_cases hl : (ng : Int) ≤ x
                · rw [if_pos (bad_large G (by rw [HNG.out]; exact hl))] at hes
                  have HF := Lib.hid (HE.out.trans hes)
                  clear hes hc hlk
                  go_wp2_with fail
                  go_ret2
                  exact RoomPost.err HF.out (by decide) HBW2.out
                · obtain ⟨i, rfl⟩ : ∃ i : Nat, x = i := ⟨x.toNat, by omega⟩
                  have hi : i < ng := by omega
                  obtain ⟨xg, rfl, hxg, hcg⟩ := (HZG.out.below HBW2.out) (by rw [HNG.out]; omega)
                  have hgi := hcg i (by rw [HNG.out]; exact hi)
                  obtain ⟨q, hq⟩ : ∃ q, q = G.getD i 0 := ⟨_, rfl⟩
                  rw [← hq] at hgi
                  have i1 : (0 : Int) ≤ (i : Int) := by omega
                  have i2 : (i : Int) < (ng : Int) := by omega
                  by_cases hm : q = 1073741824
                  · rw [if_pos (bad_old G (by rw [← hq]; exact hm))] at hes
                    have HF := Lib.hid (HE.out.trans hes)
                    have t1 : (q == 1073741824) = true := by rw [beq_iff_eq]; exact hm
                    clear hes hc hlk hcg hq hm
                    go_wp2_with fail
                    go_ret2
                    exact RoomPost.err HF.out (by decide) HBW2.out
                  · rw [bad_not G (by rw [HNG.out]; exact hi) (by rw [← hq]; exact hm)] at hes
                    simp only [Bool.false_eq_true, if_false] at hes
                    have t1 : (q == 1073741824) = false := by rw [beq_eq_false_iff_ne]; exact hm
                    by_cases h9 : (i : Int) ≤ p
                    · rw [if_pos h9] at hes
                      have HF := Lib.hid (HE.out.trans hes)
                      clear hes hc hlk hcg hq hm
                      go_wp2_with fail
                      go_ret2
                      exact RoomPost.err HF.out (by decide) HBW2.out
                    · rw [if_neg h9] at hes
                      have hnx : Hid (errs G (-1) L = errs G (prevL L (k + 1)) (L.drop (k + 1))) := Lib.hid hes
                      have hst := Lib.hid (ofB_set G L k i hlk HX.out.symm (by rw [HNG.out]; exact hi))
                      have hlb : i < (ofB G (L.take k)).length := by rw [ofB_len, HNG.out]; exact hi
                      have c1 := HRM2.out.c1
                      obtain ⟨cu1, fu1⟩ := HRM2.out.ub i hlb
                      have HR3 := Lib.hid (HRM2.out.setUse (by rw [ofB_len, HNG.out]) i true)
                      have HB3 := Lib.hid (HBW2.out.setCell (p := ⟨g4, i, none⟩) ((own_lt HRM2.out.used g4 rfl).1) (.bool true))
                      clear hes hcg hq hm hc hlk hlb
                      go_wp2_with fail
                      go_roundg (nu - (k + 1))
                      case measure => rw [G2.out]; omega
                      case rel => exact ⟨k + 1, (i : Int), hlt, rfl, by go_num, rfl, HX, by rw [← hst.out]; exact HR3, HB3, hnx⟩
            · have hk2 : k = nu := by omega
              have ht : L.take k = L := List.take_of_length_le (by rw [HNU.out]; omega)
              have hd : L.drop k = [] := List.drop_eq_nil_of_le (by rw [HNU.out]; omega)
              have hE0 : ofE G L = 0 := by rw [HE.out, HER.out, hd]; rfl
              have HE0 := Lib.hid hE0
              rw [ht] at HRM2
              clear ht hd hE0 hk2
              go_wp2_with fail
              go_ret2
              exact ⟨HBW2.out, .inr ⟨HE0.out, _, _, _, rfl, HRM2.out⟩⟩
end Go.Proofs.Ytlahmcbaiebapaa
