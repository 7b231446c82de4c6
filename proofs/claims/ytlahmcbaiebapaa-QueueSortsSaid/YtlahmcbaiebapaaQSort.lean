/- queue.Sort. -/
import Derived.Test.YtlahmcbaiebapaaQStI
import Derived.Test.YtlahmcbaiebapaaQSortP
import Derived.Deep.DeepMust
import Derived.Deep.AppendLies
namespace Go.Proofs.Ytlahmcbaiebapaa.Qint
open Go.ChangeShapes Go.WideShapes Go.ChangeAt Go.RowKit Go.Mem Go.Qp Go.Sb Go.Qs
set_option linter.unusedVariables false
/-- The queue and what came out, in memory. -/
structure Ps (Wb ww : World) (Q : Nat) (vvq : Value) (Hh Mm : List QItem) (nn : Nat) (vvo : Value) (Oo : List Int) : Prop where
  st : St ww Q Q vvq Hh Mm nn
  own : ww.ownsRow Q 3 1 vvo Oo.length (vints .i64 Oo)
  bel : Below Wb.heap.size Wb ww
  hD : Wb.heap.size ≤ Q
  hDw : Q ≤ ww.heap.size
variable {W w w' : World} {q n : Nat} {vq vo : Value} {H M : List QItem} {O : List Int}
theorem Ps.ne1 (h : Ps W w q vq H M n vo O) (g : Nat) (hg : vo.ownBlock = some g) : some g ≠ some q := fun e => own_ne h.own h.st.1.block (by decide) g hg e
theorem Ps.ne2 (h : Ps W w q vq H M n vo O) (g : Nat) (hg : vo.ownBlock = some g) : some g ≠ vq.ownBlock := own_other h.own h.st.1.own (by decide) g hg
theorem Ps.below (h : Ps W w q vq H M n vo O) (hb : Below w.heap.size w w') : Ps W w' q vq H M n vo O :=
  ⟨⟨h.st.1.below hb, h.st.2⟩, own_below h.own hb, h.bel.trans (hb.mono h.bel.size), h.hD, Nat.le_trans h.hDw hb.size⟩
theorem Ps.pq (h : Ps W w q vq H M n vo O) {v' : Value} {H2 M2 : List QItem} {n2 : Nat} (hs : St w' q q v' H2 M2 n2) (hg : Gr2 w w' (some q) vq.ownBlock) : Ps W w' q v' H2 M2 n2 vo O :=
  ⟨hs, hg.own h.own h.ne1 h.ne2, h.bel.trans (hg.below h.bel.size (fun k hk => by injection hk with hk; have := h.hD; omega) (fun k hk => Nat.le_trans h.hD (own_lt h.st.1.own k hk).1)), h.hD, Nat.le_trans h.hDw hg.size⟩
theorem Ps.po (h : Ps W w q vq H M n vo O) {v' : Value} {O2 : List Int} (ht : w'.ownsRow q 3 1 v' O2.length (vints .i64 O2)) (hg : w.grownBy w' vo.ownBlock) : Ps W w' q vq H M n v' O2 :=
  ⟨⟨⟨heap_gb h.st.1.block hg (fun e => h.ne1 q e.symm rfl), own_grown h.st.1.own hg (fun g hv e => h.ne2 g e.symm hv.symm), h.st.1.dq, h.st.1.vals⟩, h.st.2⟩, ht,
    h.bel.trans ((Gr2.of1 (r2 := none) hg).below h.bel.size (fun k hk => Nat.le_trans h.hD (own_lt h.own k hk).1) (fun k hk => by cases hk)), h.hD, Nat.le_trans h.hDw hg.size⟩
def SortPost (L : List Int) (W : World) (e : Ending) (w' : World) : Prop := ∃ v R, e = .returned (.tuple #[v, .int .i64 0]) ∧ Srt (kOf L) R ∧ R.Perm (iotaF 0 L.length) ∧ w'.ownsRow W.heap.size 3 1 v R.length (vints .i64 R) ∧ Below W.heap.size W w'
theorem sort_big (a : Option Addr) (n c : Nat) (hn : 4096 < n) (hm : n ≤ 9223372036854775807) (w : World) : Calls Try.prog 52 #[.slice a n c] w fun e w' => e = .returned (.tuple #[.slice none 0 0, .int .i64 2]) ∧ w = w' := by
  go_enter Try.func52, Try.ntmps52
  go_wp2_with fail
  go_ret2
  exact ⟨rfl, rfl⟩

set_option maxHeartbeats 16000000 in
set_option maxRecDepth 100000 in
theorem q_sort (L : List Int) (a : Option Addr) (n c : Nat) (hl : L.length = n) (hn : n ≤ 4096) (W : World) (hz : IntsAt .i64 W a L) :
    Calls Try.prog 52 #[.slice a n c] W (SortPost L W) := by
  have HL := Lib.hid hl
  have HZS := Lib.hid hz
  clear hl hz
  have hp0 : Ps W (W.alloc (.cells #[.slice none 0 0, .int .i64 0] 149)) W.heap.size (.slice none 0 0) [] [] 0 (.slice none 0 0) [] :=
    ⟨st_new W, World.ownsRow_nil _ _ _ _, (Below.refl _ _).alloc (Nat.le_refl _) _, Nat.le_refl _, by simp⟩
  obtain ⟨D, hDe⟩ : ∃ D, D = W.heap.size := ⟨_, rfl⟩
  rw [← hDe] at hp0
  have HP0 := Lib.hid hp0
  have HD := Lib.hid hDe
  clear hDe hp0
  go_enter Try.func52, Try.ntmps52
  go_wp2_with fail
  rw [← HD.out]
  go_loopg [5, 6, 16] n (fun gk v5 v6 vi wx => ∃ (i : Nat) (vq : Value) (H : List QItem), i ≤ n ∧ gk = n - i ∧ vi = .int .i64 i ∧ Ps W wx D vq H (items L i) i (.slice none 0 0) [])
  case atStart => exact ⟨0, _, _, Nat.zero_le _, rfl, rfl, HP0.out⟩
  case round =>
    obtain ⟨i, vq, H, im, g2, rfl, hp⟩ := hrel
    have G2 := Lib.hid g2
    have HP := Lib.hid hp
    clear g2 hp HP0
    by_cases hlt : i < n
    · obtain ⟨x, rfl, hx, hc⟩ := (HZS.out.below HP.out.bel) (by rw [HL.out]; omega)
      have hc0 := hc i (by rw [HL.out]; omega)
      obtain ⟨A, hA⟩ : ∃ A, A = L.getD i 0 := ⟨_, rfl⟩
      rw [← hA] at hc0
      have hput := st_Put _ D D i vq i A H (items L i) (by rw [items_len]; omega) (by omega) HP.out.hDw HP.out.st
      have HPUT := Lib.hid hput
      have HA := Lib.hid hA
      clear hc hA hput
      go_wp2_with fail
      refine HPUT.out.mono ?_
      rintro e w5 ⟨rfl, vq2, H2, hs5, hg5, ho5⟩
      rw [HA.out, ← items_snoc] at hs5
      have HP5 := Lib.hid (HP.out.pq hs5 hg5)
      clear hs5 hg5 ho5 HPUT HP
      go_wp2_with fail
      go_roundg (n - (i + 1))
      case measure => rw [G2.out]; omega
      case rel => exact ⟨i + 1, _, _, by omega, rfl, by go_num, HP5.out⟩
    · have hi : i = n := by omega
      have HI := Lib.hid hi
      clear hi
      go_wp2_with fail
      have hst : Rs (kOf L) n [] (items L i) := by rw [HI.out]; exact go_start L n
      have HST := Lib.hid hst
      clear hst
      go_loopg [7, 8, 9, 10] n (fun gk vo v8 v9 v10 wx => ∃ (vq : Value) (H M : List QItem) (O : List Int), gk = M.length ∧ M.length ≤ 4096 ∧ O.length + M.length = n ∧ Ps W wx D vq H M i vo O ∧ Rs (kOf L) n O M)
      case atStart => exact ⟨vq, H, items L i, [], by rw [items_len]; exact HI.out.symm, by rw [items_len]; omega, by rw [items_len]; simp; exact HI.out, HP.out, HST.out⟩
      case round =>
        clear HP HST
        obtain ⟨vq, H, M, O, g2, m4, hlen, hp, hrs⟩ := hrel
        have G2 := Lib.hid g2
        have HP := Lib.hid hp
        have HR := Lib.hid hrs
        obtain ⟨mm, hmm⟩ : ∃ mm, mm = M.length := ⟨_, rfl⟩
        obtain ⟨oo, hoo⟩ : ∃ oo, oo = O.length := ⟨_, rfl⟩
        have cl := st_Len _ D D _ _ _ _ hp.st
        rw [← hmm] at cl m4
        rw [← hmm, ← hoo] at hlen
        have CL := Lib.hid cl
        have HMM := Lib.hid hmm
        have HOO := Lib.hid hoo
        have HLEN := Lib.hid hlen
        clear g2 hp hrs cl hmm hoo hlen
        by_cases hM : mm = 0
        · have t0 : decide (0 < mm) = false := by simp; omega
          have HM := Lib.hid hM
          clear hM
          go_wp2_with fail
          refine CL.out.mono ?_
          rintro e w7 ⟨rfl, rfl⟩
          go_wp2_with fail
          go_ret2
          obtain ⟨e1, e2⟩ := go_end HR.out (by rw [← HMM.out]; exact HM.out)
          exact ⟨_, O, rfl, e1, by rw [HL.out]; exact e2, by have := HP.out.own; rw [HD.out] at this; exact this, HP.out.bel⟩
        · have t0 : decide (0 < mm) = true := by simp; omega
          have tke := st_Take _ D D i vq H M (by rw [← HMM.out]; exact m4) (by rw [← HMM.out]; omega) HP.out.st
          obtain ⟨gv, gr⟩ := go_step HR.out (by rw [← HMM.out]; omega)
          obtain ⟨k, hk⟩ : ∃ k, k = tk dI M mm := ⟨_, rfl⟩
          have hkm : k < mm := by rw [hk]; exact tk_lt dI M mm (by omega)
          unfold StTake at tke
          rw [← HMM.out, ← hk] at tke gr gv
          rw [gv] at tke
          obtain ⟨z, hz⟩ : ∃ z, z = (g dI M k).c := ⟨_, rfl⟩
          obtain ⟨r, hr⟩ : ∃ r, r = (g dI M k).r := ⟨_, rfl⟩
          rw [← hz, ← hr] at tke
          rw [← hz] at gr
          have TKE := Lib.hid tke
          have GR := Lib.hid gr
          clear tke gv gr hk hz hr hM
          go_wp2_with fail
          refine CL.out.mono ?_
          rintro e w7 ⟨rfl, rfl⟩
          go_wp2_with fail
          refine TKE.out.mono ?_
          rintro e w5 ⟨rfl, vq2, H2, hs5, hg5, ho5⟩
          have HP5 := Lib.hid (HP.out.pq hs5 hg5)
          have hown := HP5.out.own
          have hB := HP5.out.hDw
          rw [← HOO.out] at hown
          have hbel := HP5.out.bel
          clear hs5 hg5 ho5 TKE CL HP
          go_wp2_with (at_builtin; go_must (refine wpList_append_new rfl _ _ 23 rfl D 3 (.int .i64 0) 1 8 Try.underlying23 (by kernel_rfl) rfl (by decide) _ _ _ rfl hown _ _ rfl rfl rfl (by have := HLEN.out; omega) (by decide) hB ?_))
          intro g' cap' w' hown' hg hor hlt'
          rw [vints_snoc] at hown'
          have HP6 := Lib.hid (HP5.out.po (O2 := O ++ [z]) (by rw [List.length_append, ← HOO.out]; exact hown') hg)
          clear hown hown' hg hor hbel hB HP5
          go_wp2_with fail
          have hdl : (M.take k ++ M.drop (k + 1)).length = mm - 1 := by rw [List.length_append, List.length_take, List.length_drop, ← HMM.out]; omega
          go_roundg (mm - 1)
          case measure => rw [G2.out, ← HMM.out]; omega
          case rel => exact ⟨_, _, _, O ++ [z], hdl.symm, by rw [hdl]; omega, by rw [hdl, List.length_append, ← HOO.out]; have := HLEN.out; simp; omega, HP6.out, GR.out⟩
end Go.Proofs.Ytlahmcbaiebapaa.Qint
