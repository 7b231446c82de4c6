/- tourlaw1.QueuePlays: a queue returns the specified results for a list of calls. -/
import Derived.Test.YtdhaaeaacbnghaaQStI
import Derived.Test.YtdhaaeaacbnghaaQFirstI
import Derived.Test.YtdhaaeaacbnghaaQBegun
import Derived.Test.YtdhaaeaacbnghaaWTaken
import Derived.Deep.DeepMust
import Derived.Deep.AppendLies
namespace Go.Proofs.Ytdhaaeaacbnghaa.Q
open Go.ChangeShapes Go.WideShapes Go.ChangeAt Go.RowKit Go.Mem Go.Qp Qint W
set_option linter.unusedVariables false
theorem own_other_type {w : World} {base e e2 size n bx : Nat} {v : Value} {xs : List Value} {cs : Array Value} (h : w.ownsRow base e size v n xs) (hb : w.heap[bx]? = some (.cells cs e2 (0, 0))) (hne : e ≠ e2) (g : Nat) (hg : v.ownBlock = some g) : some bx ≠ some g :=
  fun he => own_ne h hb hne g hg he.symm
/-- The queue and the reference's list in memory. -/
structure Pl (W w : World) (D q : Nat) (vq vm : Value) (H Mq Mm : List QItem) (n : Nat) : Prop where
  st : St w D q vq H Mq n
  wt : WT w D vm Mm
  bel : Below W.heap.size W w
  hD : W.heap.size ≤ D
  hDw : D ≤ w.heap.size
variable {W w w' : World} {D q n : Nat} {vq vm : Value} {H Mq Mm : List QItem}
theorem Pl.ne1 (h : Pl W w D q vq vm H Mq Mm n) (g : Nat) (hg : vm.ownBlock = some g) : some g ≠ some q := fun e => own_ne h.wt.own h.st.1.block (by decide) g hg e
theorem Pl.ne2 (h : Pl W w D q vq vm H Mq Mm n) (g : Nat) (hg : vm.ownBlock = some g) : some g ≠ vq.ownBlock := own_other h.wt.own h.st.1.own (by decide) g hg
theorem Pl.below (h : Pl W w D q vq vm H Mq Mm n) (hb : Below w.heap.size w w') : Pl W w' D q vq vm H Mq Mm n :=
  ⟨⟨h.st.1.below hb, h.st.2⟩, wt_below h.wt hb, h.bel.trans (hb.mono h.bel.size), h.hD, Nat.le_trans h.hDw hb.size⟩
theorem Pl.drew (h : Pl W w D q vq vm H Mq Mm n) : Pl W w.drew D q vq vm H Mq Mm n :=
  ⟨⟨h.st.1.drew, h.st.2⟩, ⟨own_keep h.wt.own fun _ _ => rfl, h.wt.vals⟩, h.bel.drew, h.hD, h.hDw⟩
theorem Pl.pq (h : Pl W w D q vq vm H Mq Mm n) {v' : Value} {H2 M2 : List QItem} {n2 : Nat} (hs : St w' D q v' H2 M2 n2) (hg : Gr2 w w' (some q) vq.ownBlock) : Pl W w' D q v' vm H2 M2 Mm n2 :=
  ⟨hs, ⟨hg.own h.wt.own (h.ne1) (h.ne2), h.wt.vals⟩, h.bel.trans (hg.below h.bel.size (fun k hk => by injection hk with hk; have := h.st.1.dq; have := h.hD; omega) (fun k hk => Nat.le_trans h.hD (own_lt h.st.1.own k hk).1)), h.hD, Nat.le_trans h.hDw hg.size⟩
theorem Pl.pm (h : Pl W w D q vq vm H Mq Mm n) {v' : Value} {M2 : List QItem} (ht : WT w' D v' M2) (hg : w.grownBy w' vm.ownBlock) : Pl W w' D q vq v' H Mq M2 n :=
  ⟨⟨⟨heap_gb h.st.1.block hg (fun e => h.ne1 q e.symm rfl), own_grown h.st.1.own hg (fun g hv e => h.ne2 g e.symm hv.symm), h.st.1.dq, h.st.1.vals⟩, h.st.2⟩, ht,
    h.bel.trans ((Gr2.of1 (r2 := none) hg).below h.bel.size (fun k hk => Nat.le_trans h.hD (own_lt h.wt.own k hk).1) (fun k hk => by cases hk)), h.hD, Nat.le_trans h.hDw hg.size⟩
set_option maxHeartbeats 16000000 in
set_option maxRecDepth 100000 in
theorem law_QueuePlays (zs : List Int) (a : Option Addr) (nb cap : Nat) (hl : zs.length = nb * 3) (hn : nb ≤ 140737488355328) (W : World) (hz : IntsAt .i64 W a zs) :
    Calls Try.prog 14 #[.slice a nb cap] W fun e w' => e = .returned (.bool true) ∧ Below W.heap.size W w' := by
  obtain ⟨i0, hi0, hz0, hz1, hz2⟩ := info_parts (show (Try.prog.info? 116).map (fun i => (i.zero, i.size, i.bytes)) = some (some (.agg #[.int .i64 0, .int .i64 0]), 2, 16) by kernel_rfl)
  have HZ := Lib.hid hl
  have HZS := Lib.hid hz
  clear hl hz
  go_enter Try.func14, Try.ntmps14
  go_wp2_with fail
  refine (begun _).mono ?_
  rintro e w1 ⟨rfl, b1⟩
  have hpl : Pl W (w1.alloc (.cells #[.slice none 0 0, .int .i64 0] 112)) w1.heap.size w1.heap.size (.slice none 0 0) (.slice none 0 0) [] [] [] 0 :=
    ⟨st_new w1, ⟨World.ownsRow_nil _ _ _ _, fun x hx => by cases hx⟩, b1.alloc b1.size _, b1.size, by simp⟩
  obtain ⟨D, hDe⟩ : ∃ D, D = w1.heap.size := ⟨_, rfl⟩
  rw [← hDe] at hpl
  have HPL0 := Lib.hid hpl
  have HD := Lib.hid hDe
  clear hDe hpl b1
  go_wp2_with fail
  rw [← HD.out]
  go_loopg [4, 16] nb (fun gk vm vi wx => ∃ (i n : Nat) (vq : Value) (H M : List QItem), i ≤ nb ∧ gk = nb - i ∧ vi = .int .i64 i ∧ n ≤ i ∧ M.length ≤ 4096 ∧ Pl W wx D D vq vm H M M n)
  case atStart => exact ⟨0, 0, _, _, _, Nat.zero_le _, rfl, rfl, Nat.le_refl _, by simp, HPL0.out⟩
  case round =>
    obtain ⟨i, n, vq, H, M, im, g2, rfl, ni, m4, hp⟩ := hrel
    have G2 := Lib.hid g2
    have HP := Lib.hid hp
    clear g2 hp HPL0
    by_cases hlt : i < nb
    · obtain ⟨x, rfl, hx, hc⟩ := (HZS.out.below HP.out.bel) (by rw [HZ.out]; omega)
      have hc0 := hc (i * 3) (by rw [HZ.out]; omega)
      have hc1 := hc (i * 3 + 1) (by rw [HZ.out]; omega)
      have hc2 := hc (i * 3 + 2) (by rw [HZ.out]; omega)
      obtain ⟨A, hA⟩ : ∃ A, A = zs.getD (i * 3) 0 := ⟨_, rfl⟩
      obtain ⟨B, hB⟩ : ∃ B, B = zs.getD (i * 3 + 1) 0 := ⟨_, rfl⟩
      obtain ⟨C, hC⟩ : ∃ C, C = zs.getD (i * 3 + 2) 0 := ⟨_, rfl⟩
      rw [← hA] at hc0
      rw [← hB, add_next] at hc1
      rw [← hC, add_next2] at hc2
      clear hc hA hB hC
      have HP0 := Lib.hid (HP.out.below ((Below.refl wr.heap.size wr).alloc (Nat.le_refl _) (.cells #[.int .i64 A, .int .i64 B, .int .i64 C] 83)))
      obtain ⟨am, capm, hvm⟩ := HP.out.wt.form
      subst hvm
      obtain ⟨mm, hmm⟩ : ∃ mm, mm = M.length := ⟨_, rfl⟩
      rw [← hmm] at m4 HP0 ⊢
      have HMM := Lib.hid hmm
      clear hmm HP
      have BX := Lib.hid (heap_alloc_new wr (.cells #[.int .i64 A, .int .i64 B, .int .i64 C] 83))
      have nq : Hid (∀ g, Value.ownBlock vq = some g → some wr.heap.size ≠ some g) := Lib.hid (fun g hg e => own_other_type HP0.out.st.1.own BX.out (by decide) g hg e)
      have nqq : Hid (wr.heap.size ≠ D) := Lib.hid (fun e => by
        have h1 := HP0.out.st.1.block
        have h2 := BX.out
        rw [e, h1] at h2
        injection h2 with h2
        injection h2 with _ h2
        exact absurd h2 (by decide))
      by_cases hC0 : C = 0
      · obtain rfl := hC0
        by_cases hf : mm < 4096
        · have HPUT := Lib.hid (st_Put _ D D n vq A B H M (by rw [← HMM.out]; exact hf) (by omega) HP0.out.hDw HP0.out.st)
          go_wp2_with fail
          refine HPUT.out.mono ?_
          rintro e w5 ⟨rfl, vq2, H2, hs5, hg5, ho5⟩
          have HP5 := Lib.hid (HP0.out.pq hs5 hg5)
          have bx5 := hg5.heap BX.out (fun e => nqq.out (by injection e)) (fun e => nq.out _ e.symm rfl)
          have k0 : w5.cell? ⟨wr.heap.size, 0, none⟩ = some (.int .i64 A) := by rw [cell_of_row w5 _ 0 _ _ _ bx5]; rfl
          have k1 : w5.cell? ⟨wr.heap.size, 1, none⟩ = some (.int .i64 B) := by rw [cell_of_row w5 _ 1 _ _ _ bx5]; rfl
          have hown5 := HP5.out.wt.own
          rw [← HMM.out] at hown5
          have HOWN5 := Lib.hid hown5
          have hdw5 := HP5.out.hDw
          clear hs5 hg5 ho5 bx5 HPUT hown5
          go_wp2_with (at_builtin; go_must (refine wpList_append_lies _ rfl _ _ 113 rfl D 116 i0 (.agg #[.int .i64 0, .int .i64 0]) 2 16 Try.underlying113 hi0 hz0 hz1 hz2 rfl (by omega) (.slice am mm capm) mm (cellsW M) rfl (HOWN5.out.alloc _) ⟨w5.heap.size, 0, none⟩ 1 1 [.int .i64 A, .int .i64 B] rfl rfl (World.news_of_block (cs := #[.int .i64 A, .int .i64 B]) (t := 116) (fr := (0, 0)) (heap_alloc_new w5 _)) (by simp [Value.oneCell']) (by omega) (by unfold maxLen; omega) (by omega) (by simp; omega) (w5.heap.size + 1) (by simp) ?_))
          intro g5 cap5 w6 hown6 hgrow6 hat6 hlt6
          have hp6 : Pl W w6 D D vq2 (.slice (some ⟨g5, 0, none⟩) (mm + 1) cap5) H2 (M ++ [⟨.int .i64 A, B, n⟩]) (M ++ [⟨.int .i64 A, B, n⟩]) (n + 1) :=
            (HP5.out.below ((Below.refl _ _).alloc (Nat.le_refl _) _)).pm ⟨by rw [List.length_append, ← HMM.out, cellsW_append]; exact hown6, fun x hx => by
              rcases List.mem_append.1 hx with hx | hx
              · exact HP5.out.wt.vals x hx
              · rw [List.mem_singleton.1 hx]; exact ⟨_, rfl⟩⟩ hgrow6
          have HP6 := Lib.hid hp6
          have cl := st_Len w6 D D _ _ _ _ hp6.st
          rw [show (((M ++ [(⟨.int .i64 A, B, n⟩ : QItem)]).length : Nat) : Int) = (mm : Int) + 1 by rw [List.length_append, ← HMM.out]; rfl] at cl
          have CL := Lib.hid cl
          have t9 : (((mm : Int) + 1) != (mm : Int) + 1) = false := by simp
          clear hown6 hgrow6 hat6 hlt6 hp6 cl k0 k1 hdw5 HOWN5 HP5
          go_wp2_with fail
          refine CL.out.mono ?_
          rintro e w7 ⟨rfl, rfl⟩
          go_wp2_with fail
          go_roundg (nb - (i + 1))
          case measure => rw [G2.out]; omega
          case rel => exact ⟨i + 1, n + 1, _, _, _, by omega, rfl, by go_num, by omega, by rw [List.length_append, ← HMM.out]; exact hf, HP6.out⟩
        · have m6 : 4096 ≤ mm := by omega
          obtain ⟨aq, cq, hvq⟩ := slice_of HP0.out.st.1
          have hlq : H.length = mm := by rw [HP0.out.st.2.len, HMM.out]
          have c0 := HP0.out.st.1.c0
          rw [hvq, hlq] at c0
          have HPUT := Lib.hid (q_Put_full _ D D n mm cq aq A B H (by omega) c0)
          have cl := st_Len _ D D _ _ _ _ HP0.out.st
          rw [← HMM.out] at cl
          have CL := Lib.hid cl
          have t9 : ((mm : Int) != (mm : Int)) = false := by simp
          clear hvq hlq c0 cl
          go_wp2_with fail
          refine HPUT.out.mono ?_
          rintro e w5 ⟨rfl, rfl⟩
          go_wp2_with fail
          refine CL.out.mono ?_
          rintro e w7 ⟨rfl, rfl⟩
          go_wp2_with fail
          go_roundg (nb - (i + 1))
          case measure => rw [G2.out]; omega
          case rel => exact ⟨i + 1, n, _, _, _, by omega, rfl, by go_num, by omega, by rw [← HMM.out]; exact m4, HP0.out⟩
      · by_cases hM : mm = 0
        · have hM0 : M = [] := List.eq_nil_of_length_eq_zero (by rw [← HMM.out, hM])
          have hH0 : H = [] := List.eq_nil_of_length_eq_zero (by rw [HP0.out.st.2.len, hM0]; rfl)
          have hs := HP0.out.st.1
          rw [hH0] at hs
          have FN := fun W (h : QU W D D vq [] n) => q_First_none W D D n vq h
          have TN := fun W (h : QU W D D vq [] n) => q_Take_none W D D n vq h
          have HS := Lib.hid hs
          have FNH := Lib.hid FN
          have TNH := Lib.hid TN
          have cl := st_Len _ D D _ _ _ _ HP0.out.st
          rw [← HMM.out] at cl
          have CL := Lib.hid cl
          have t9 : ((mm : Int) != (mm : Int)) = false := by simp
          have t8 : ((mm : Int) == 0) = true := by rw [hM]; rfl
          have t0 : ((C : Int) == 0) = false := by rw [beq_eq_false_iff_ne]; exact hC0
          have k2 : (wr.alloc (.cells #[.int .i64 A, .int .i64 B, .int .i64 C] 83)).cell? ⟨wr.heap.size, 2, none⟩ = some (.int .i64 C) := by rw [cell_of_row _ _ 2 _ _ _ BX.out]; rfl
          have HM0 := Lib.hid hM
          clear hs FN TN cl hM hM0 hH0 hC0
          by_cases hC1 : C = 1
          · have t1 : ((C : Int) != 1) = false := by rw [hC1]; rfl
            have HC1 := Lib.hid hC1
            clear hC1
            go_wp2_with fail
            refine (FNH.out _ HS.out).mono ?_
            rintro e w5 ⟨rfl, rfl⟩
            go_wp2_with fail
            refine CL.out.mono ?_
            rintro e w7 ⟨rfl, rfl⟩
            go_wp2_with fail
            go_roundg (nb - (i + 1))
            case measure => rw [G2.out]; omega
            case rel => exact ⟨i + 1, n, _, _, _, by omega, rfl, by go_num, by omega, by rw [← HMM.out]; exact m4, HP0.out⟩
          · have t1 : ((C : Int) != 1) = true := by rw [bne_iff_ne]; exact hC1
            clear hC1
            go_wp2_with fail
            refine (FNH.out _ HS.out).mono ?_
            rintro e w5 ⟨rfl, rfl⟩
            go_wp2_with fail
            refine (TNH.out _ HS.out).mono ?_
            rintro e w6 ⟨rfl, rfl⟩
            go_wp2_with fail
            refine CL.out.mono ?_
            rintro e w7 ⟨rfl, rfl⟩
            go_wp2_with fail
            go_roundg (nb - (i + 1))
            case measure => rw [G2.out]; omega
            case rel => exact ⟨i + 1, n, _, _, _, by omega, rfl, by go_num, by omega, by rw [← HMM.out]; exact m4, HP0.out⟩
        · obtain ⟨gm, capm2, hgm, _, _⟩ := HP0.out.wt.own.form (by rw [← HMM.out]; omega)
          injection hgm with hgm e1 e2
          subst hgm
          clear e1 e2
          have hM1 : 0 < mm := by omega
          obtain ⟨k, hk⟩ : ∃ k, k = tk dI M mm := ⟨_, rfl⟩
          have hkm : k < mm := by rw [hk]; exact tk_lt dI M mm hM1
          have hk2 : k < M.length := by rw [← HMM.out]; exact hkm
          obtain ⟨z, hz⟩ := HP0.out.wt.vals _ (g_mem dI M k hk2)
          obtain ⟨r, hr⟩ : ∃ r, r = (g dI M k).r := ⟨_, rfl⟩
          have HZV := Lib.hid hz
          have HRV := Lib.hid hr
          have HK := Lib.hid hk
          have fst : Calls Try.prog 83 #[.pointer (some ⟨D, 0, none⟩)] (wr.alloc (.cells #[.int .i64 A, .int .i64 B, .int .i64 C] 83)) fun e w' => e = .returned (.tuple #[.int .i64 z, .int .i64 r, .int .i64 0]) ∧ (wr.alloc (.cells #[.int .i64 A, .int .i64 B, .int .i64 C] 83)).drew = w' := by
            have hh0 : 0 < H.length := by rw [HP0.out.st.2.len, ← HMM.out]; exact hM1
            have h1 := q_First _ D D n vq H (by rw [HP0.out.st.2.len, ← HMM.out]; exact m4) hh0 HP0.out.st.1
            rw [first_eq dI HP0.out.st.2 hh0, ← HMM.out, ← hk, hz, ← hr] at h1
            exact h1
          have FST := Lib.hid fst
          have HP1 := Lib.hid HP0.out.drew
          have tkc : ∀ W' vq' H' Mq' n', Pl W W' D D vq' (.slice (some ⟨gm, 0, none⟩) mm capm) H' Mq' M n' → Calls Try.prog 85 #[.slice (some ⟨gm, 0, none⟩) mm capm] W' fun e w' => e = .returned (.int .i64 k) ∧ Below W'.heap.size W' w' := by
            intro W' vq' H' Mq' n' hp
            have := w_Taken W' D _ M (by rw [← HMM.out]; exact hM1) (by rw [← HMM.out]; omega) hp.wt
            rw [← HMM.out, ← hk] at this
            exact this
          have TKC := Lib.hid tkc
          have atc : ∀ W' vq' H' Mq' n', Pl W W' D D vq' (.slice (some ⟨gm, 0, none⟩) mm capm) H' Mq' M n' → W'.cell? ⟨gm, k * 2, none⟩ = some (.int .i64 z) ∧ W'.cell? ⟨gm, k * 2 + 1, none⟩ = some (.int .i64 r) := by
            intro W' vq' H' Mq' n' hp
            have := hp.wt.at HMM.out k hk2
            rw [hz, ← hr] at this
            exact this
          have ATC := Lib.hid atc
          have t9 : ((mm : Int) != (mm : Int)) = false := by simp
          have t8 : ((mm : Int) == 0) = false := by rw [beq_eq_false_iff_ne]; omega
          have t7 : ((z : Int) != z) = false := by simp
          have t6 : ((r : Int) != r) = false := by simp
          have t0 : ((C : Int) == 0) = false := by rw [beq_eq_false_iff_ne]; exact hC0
          have k2 : (wr.alloc (.cells #[.int .i64 A, .int .i64 B, .int .i64 C] 83)).cell? ⟨wr.heap.size, 2, none⟩ = some (.int .i64 C) := by rw [cell_of_row _ _ 2 _ _ _ BX.out]; rfl
          have i3 : (0 : Int) ≤ (k : Int) := by omega
          have i4 : (k : Int) < (mm : Int) := by omega
          clear fst tkc atc hz hr hk hC0
          by_cases hC1 : C = 1
          · have t1 : ((C : Int) != 1) = false := by rw [hC1]; rfl
            have HC1 := Lib.hid hC1
            clear hC1
            go_wp2_with fail
            refine FST.out.mono ?_
            rintro e w5 ⟨rfl, rfl⟩
            go_wp2_with fail
            refine (TKC.out _ _ _ _ _ HP1.out).mono ?_
            rintro e w6 ⟨rfl, b6⟩
            have HP6 := Lib.hid (HP1.out.below b6)
            have k26 : w6.cell? ⟨wr.heap.size, 2, none⟩ = some (.int .i64 C) := by rw [cell_of_row w6 _ 2 _ _ _ (heap_below (Mem.heap_drew BX.out) b6)]; rfl
            obtain ⟨m0, m1⟩ := ATC.out _ _ _ _ _ HP6.out
            have cl := st_Len _ D D _ _ _ _ HP6.out.st
            rw [← HMM.out] at cl
            have CL := Lib.hid cl
            clear cl b6 k2
            go_wp2_with fail
            refine CL.out.mono ?_
            rintro e w7 ⟨rfl, rfl⟩
            go_wp2_with fail
            go_roundg (nb - (i + 1))
            case measure => rw [G2.out]; omega
            case rel => exact ⟨i + 1, n, _, _, _, by omega, rfl, by go_num, by omega, by rw [← HMM.out]; exact m4, HP6.out⟩
          · have t1 : ((C : Int) != 1) = true := by rw [bne_iff_ne]; exact hC1
            have tke := st_Take _ D D n vq H M (by rw [← HMM.out]; exact m4) (by rw [← HMM.out]; exact hM1) HP1.out.st
            unfold StTake at tke
            rw [← HMM.out, ← HK.out, HZV.out, ← HRV.out] at tke
            have TKE := Lib.hid tke
            clear hC1 tke
            go_wp2_with fail
            refine FST.out.mono ?_
            rintro e w5 ⟨rfl, rfl⟩
            go_wp2_with fail
            refine TKE.out.mono ?_
            rintro e w55 ⟨rfl, vq2, H2, hs5, hg5, ho5⟩
            have HP5 := Lib.hid (HP1.out.pq hs5 hg5)
            have bx5 := Lib.hid (hg5.heap (Mem.heap_drew BX.out) (fun e => nqq.out (by injection e)) (fun e => nq.out _ e.symm rfl))
            clear hs5 hg5 ho5
            go_wp2_with fail
            refine (TKC.out _ _ _ _ _ HP5.out).mono ?_
            rintro e w6 ⟨rfl, b6⟩
            have HP6 := Lib.hid (HP5.out.below b6)
            have k26 : w6.cell? ⟨wr.heap.size, 2, none⟩ = some (.int .i64 C) := by rw [cell_of_row w6 _ 2 _ _ _ (heap_below bx5.out b6)]; rfl
            obtain ⟨m0, m1⟩ := ATC.out _ _ _ _ _ HP6.out
            have del := w_Delete w6 D k _ M (by rw [← HMM.out]; exact hkm) (by rw [← HMM.out]; omega) HP6.out.wt
            have DEL := Lib.hid del
            clear b6 k2 del
            go_wp2_with fail
            refine DEL.out.mono ?_
            rintro e w7 ⟨v7, rfl, hw7, hg7, ho7⟩
            have HP7 := Lib.hid (HP6.out.pm hw7 hg7)
            obtain ⟨a7, c7, hv7⟩ := hw7.form
            subst hv7
            have hl7 : (M.take k ++ M.drop (k + 1)).length = mm - 1 := by rw [List.length_append, List.length_take, List.length_drop, ← HMM.out]; omega
            rw [hl7]
            have cl := st_Len _ D D _ _ _ _ HP7.out.st
            rw [show (delAt M k).length = mm - 1 from hl7] at cl
            have CL := Lib.hid cl
            have t5 : (((mm - 1 : Nat) : Int) != ((mm - 1 : Nat) : Int)) = false := by simp
            have HL7 := Lib.hid hl7
            clear cl hw7 hg7 ho7 hl7
            go_wp2_with fail
            refine CL.out.mono ?_
            rintro e w8 ⟨rfl, rfl⟩
            go_wp2_with fail
            go_roundg (nb - (i + 1))
            case measure => rw [G2.out]; omega
            case rel => exact ⟨i + 1, n, _, _, _, by omega, rfl, by go_num, by omega, by rw [show (M.take k ++ M.drop (k + 1)).length = mm - 1 from HL7.out]; omega, by rw [← HL7.out] at *; exact HP7.out⟩
    · go_wp2
      go_ret
      exact ⟨rfl, HP.out.bel⟩
end Go.Proofs.Ytdhaaeaacbnghaa.Q
