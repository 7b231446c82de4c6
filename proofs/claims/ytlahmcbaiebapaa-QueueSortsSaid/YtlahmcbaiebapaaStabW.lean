/- slices.SortStableFunc at integers: swapRange, rotate, insertion sort. -/
import Derived.Test.YtlahmcbaiebapaaStabP
import Derived.Test.YtlahmcbaiebapaaMem2
import Derived.Test.YtlahmcbaiebapaaRows
import Derived.BigQuiet
import Derived.Deep.QuietTactic
import Derived.Deep.RegionHeld3
import Derived.RegionTactic
import Derived.ChangeAlike
import Derived.Deep.LoopGhost
import Derived.Deep.DeepMust
import Derived.Shelf.Abstract
namespace Go.Proofs.Ytlahmcbaiebapaa
open Go.ChangeShapes Go.WideShapes Go.ChangeAt Go.RowKit Go.Mem Go.Sb
set_option linter.unusedVariables false
/-- The row in block g holds D; all blocks below g are as they were. -/
def StS (g : Nat) (W0 w : World) (D : List Int) : Prop := RowB w g 3 .i64 D ∧ Below g W0 w
def SPost (g : Nat) (W0 : World) (D : List Int) (e : Ending) (w' : World) : Prop := e = .returned (.tuple #[]) ∧ StS g W0 w' D
theorem StS.drew {g : Nat} {W0 w : World} {D : List Int} (h : StS g W0 w D) : StS g W0 w.drew D := ⟨h.1, h.2.drew⟩
theorem StS.drewN {g : Nat} {W0 w : World} {D : List Int} (h : StS g W0 w D) (n : Nat) : StS g W0 (w.drewN n) D := ⟨h.1.drewN n, below_drewN h.2 n⟩
theorem StS.below {g : Nat} {W0 w w2 : World} {D : List Int} (h : StS g W0 w D) (hb : Below w.heap.size w w2) : StS g W0 w2 D := ⟨h.1.below hb, h.2.trans (hb.mono (Nat.le_of_lt h.1.lt))⟩
theorem StS.set {g : Nat} {W0 w : World} {D : List Int} (h : StS g W0 w D) (j : Nat) (v : Int) : StS g W0 (w.setCell ⟨g, j, none⟩ (.int .i64 v)) (D.set j v) := ⟨h.1.set j v, h.2.setCell (p := ⟨g, j, none⟩) (Nat.le_refl _) _⟩

set_option maxHeartbeats 4000000 in
theorem swap_range (g : Nat) (W0 : World) (P X Q Y S : List Int) (n a b N c : Nat) (cv : Value) (hx : X.length = n) (hy : Y.length = n) (ha : P.length = a) (hb : a + n + Q.length = b) (hN : (P ++ X ++ Q ++ Y ++ S).length = N) (h1 : N ≤ 1048576) (w : World) (hs : StS g W0 w (P ++ X ++ Q ++ Y ++ S)) :
    Calls Try.prog 140 #[.slice (some ⟨g, 0, none⟩) N c, .int .i64 (a : Int), .int .i64 (b : Int), .int .i64 (n : Int), cv] w (SPost g W0 (P ++ Y ++ Q ++ X ++ S)) := by
  have hst := mix_step P X Q Y S
  have hlen : ∀ i, (mixR P X Q Y S i).length = N := fun i => by rw [← hN]; simp [mixR]; omega
  have hend := mix_all P X Q Y S n hx hy
  rw [← hend]
  rw [← mix_zero] at hs
  have hbN : b + n ≤ N := by rw [← hN]; simp; omega
  have HST := Lib.hid (fun i (hi : i < n) => hst n i a b hx hy hi ha hb)
  have HLEN := Lib.hid hlen
  have HS := Lib.hid hs
  clear hst hlen hend hs hx hy ha hN
  have hab : a + n ≤ b := by omega
  clear hb
  go_enter Try.func140, Try.ntmps140
  go_wp2_with fail
  go_loopg [10] n (fun gk vi wx => ∃ i : Nat, i ≤ n ∧ gk = n - i ∧ vi = .int .i64 i ∧ StS g W0 wx (mixR P X Q Y S i))
  case atStart => exact ⟨0, Nat.zero_le _, rfl, rfl, HS.out⟩
  case round =>
    clear HS
    obtain ⟨i, hi, g2, rfl, hsi⟩ := hrel
    have G2 := Lib.hid g2
    have HS := Lib.hid hsi
    clear g2 hsi
    by_cases hlt : i < n
    · obtain ⟨u, v, h3, h4, h5, h6, h7⟩ := HST.out i hlt
      have cu := HS.out.1.cell (a + i) h7
      have cv1 := HS.out.1.cell (b + i) h6
      have fu := HS.out.1.frozen (a + i)
      have fv := HS.out.1.frozen (b + i)
      rw [h3] at cu
      rw [h4] at cv1
      rw [HLEN.out] at h6 h7
      have HM := Lib.hid h5
      obtain ⟨p, hp⟩ : ∃ p, p = a + i := ⟨_, rfl⟩
      obtain ⟨q, hq⟩ : ∃ q, q = b + i := ⟨_, rfl⟩
      rw [← hp] at cu fu h7 HM
      rw [← hq] at cv1 fv h6 HM
      have e1 : (a : Int) + (i : Int) = (p : Int) := by omega
      have e2 : (b : Int) + (i : Int) = (q : Int) := by omega
      have e3 : IntKind.i64.wrap ((a : Int) + (i : Int)) = (p : Int) := by rw [e1, IntKind.wrap_i64]; omega
      have e4 : IntKind.i64.wrap ((b : Int) + (i : Int)) = (q : Int) := by rw [e2, IntKind.wrap_i64]; omega
      have p0 : (0 : Int) ≤ (p : Int) := by omega
      have q0 : (0 : Int) ≤ (q : Int) := by omega
      have p1 : (p : Int) < (N : Int) := by omega
      have q1 : (q : Int) < (N : Int) := by omega
      have hpq : p ≠ q := by omega
      clear h3 h4 h5 hp hq h6 h7 hbN hab
      go_wp2_with fail
      go_region
      have hs2 := ((HS.out.set p v).set q u).drew
      rw [HM.out] at hs2
      have HS2 := Lib.hid hs2
      clear hs2
      go_wp2_with fail
      go_roundg (n - (i + 1))
      case measure => rw [G2.out]; omega
      case rel => exact ⟨i + 1, by omega, rfl, by go_num, HS2.out⟩
    · obtain rfl : i = n := by omega
      go_wp2_with fail
      go_end0
      exact ⟨rfl, HS.out⟩

theorem SPost.to {g : Nat} {W0 : World} {D D2 : List Int} {e : Ending} {w' : World} (h : SPost g W0 D e w') (he : D = D2) : SPost g W0 D2 e w' := he ▸ h
set_option maxHeartbeats 4000000 in
theorem rotate (g : Nat) (W0 : World) (P A B S : List Int) (a m b N c : Nat) (cv : Value) (ha : P.length = a) (hm : a + A.length = m) (hb : m + B.length = b) (h0 : 0 < A.length) (h00 : 0 < B.length) (hN : (P ++ A ++ B ++ S).length = N) (h1 : N ≤ 1048576) (w : World) (hs : StS g W0 w (P ++ A ++ B ++ S)) :
    Calls Try.prog 134 #[.slice (some ⟨g, 0, none⟩) N c, .int .i64 (a : Int), .int .i64 (m : Int), .int .i64 (b : Int), cv] w (SPost g W0 (P ++ B ++ A ++ S)) := by
  have hbN : b ≤ N := by rw [← hN]; simp; omega
  obtain ⟨I, hI⟩ : ∃ I, I = A.length := ⟨_, rfl⟩
  obtain ⟨J, hJ⟩ : ∃ J, J = B.length := ⟨_, rfl⟩
  have HS := Lib.hid hs
  have HA := Lib.hid ha
  have HN := Lib.hid hN
  have HIJ := Lib.hid (And.intro hI.symm hJ.symm)
  rw [← hI] at hm h0
  rw [← hJ] at hb h00
  have e1 : (m : Int) - (a : Int) = (I : Int) := by omega
  have e2 : (b : Int) - (m : Int) = (J : Int) := by omega
  have hIm : I ≤ m := by omega
  have hJN : m + J ≤ N := by omega
  have HM := Lib.hid hm
  clear hs ha hN hI hJ hm hb
  go_enter Try.func134, Try.ntmps134
  go_wp2_with fail
  clear e1 e2
  go_loopg [10, 11] (I + J) (fun gk vi vj wx => ∃ (i j : Nat) (P2 X Y S2 : List Int), gk = i + j ∧ vi = .int .i64 i ∧ vj = .int .i64 j ∧ 0 < i ∧ 0 < j ∧ i ≤ I ∧ j ≤ J ∧ X.length = i ∧ Y.length = j ∧ P2.length + i = m ∧ (P2 ++ X ++ Y ++ S2).length = N ∧ P2 ++ Y ++ X ++ S2 = P ++ B ++ A ++ S ∧ StS g W0 wx (P2 ++ X ++ Y ++ S2))
  case atStart => exact ⟨I, J, P, A, B, S, rfl, rfl, rfl, h0, h00, Nat.le_refl _, Nat.le_refl _, HIJ.out.1, HIJ.out.2, by rw [HA.out]; exact HM.out, HN.out, rfl, HS.out⟩
  case round =>
    clear HS HA HN HIJ HM
    obtain ⟨i, j, P2, X, Y, S2, g2, rfl, rfl, hi0, hj0, hiI, hjJ, hx, hy, hp, hn, ht, hsi⟩ := hrel
    have G2 := Lib.hid g2
    have HS := Lib.hid hsi
    have HX := Lib.hid hx
    have HY := Lib.hid hy
    have HP := Lib.hid hp
    have HN := Lib.hid hn
    have HT := Lib.hid ht
    clear g2 hsi hx hy hn ht
    obtain ⟨p, hpp⟩ : ∃ p, p = m - i := ⟨_, rfl⟩
    have e3 : (m : Int) - (i : Int) = (p : Int) := by omega
    have HPP := Lib.hid (show P2.length = p by omega)
    clear hp hpp
    by_cases hij : i = j
    · subst hij
      have t0 : ((i : Int) != (i : Int)) = false := by simp
      have CS := swap_range g W0 P2 X [] Y S2 i p m N c cv HX.out HY.out HPP.out (by have := HP.out; have := HPP.out; simp; omega) (by simpa using HN.out) h1 wr (by simpa using HS.out)
      have HCS := Lib.hid CS
      clear CS
      go_wp2_with fail
      refine HCS.out.mono ?_
      rintro e w2 ⟨rfl, hs2⟩
      have HS2 := Lib.hid (show StS g W0 w2 (P ++ B ++ A ++ S) by rw [← HT.out]; simpa using hs2)
      clear hs2
      go_wp2_with fail
      go_end0
      exact ⟨rfl, HS2.out⟩
    · have t0 : ((i : Int) != (j : Int)) = true := by simp; omega
      by_cases hlt : j < i
      · obtain ⟨X1, X2, hX12, hl1, hl2⟩ := rot_left (P := P2) (S := S2) HX.out HY.out hlt
        have CS := swap_range g W0 P2 X1 X2 Y S2 j p m N c cv hl1 HY.out HPP.out (by have := HP.out; have := HPP.out; omega) (by have := HN.out; rw [hX12] at this; simpa using this) h1 wr (by have := HS.out; rw [hX12] at this; simpa using this)
        have HCS := Lib.hid CS
        have HX12 := Lib.hid hX12
        have HL := Lib.hid (And.intro hl1 hl2)
        have t1 : decide ((j : Int) < (i : Int)) = true := by simp; omega
        have e4 : (i : Int) - (j : Int) = ((i - j : Nat) : Int) := by omega
        obtain ⟨d, hd⟩ : ∃ d, d = i - j := ⟨_, rfl⟩
        rw [← hd] at e4
        have HD := Lib.hid hd
        clear CS hX12 hl1 hl2 hd
        go_wp2_with fail
        refine HCS.out.mono ?_
        rintro e w2 ⟨rfl, hs2⟩
        have HS2 := Lib.hid (show StS g W0 w2 ((P2 ++ Y) ++ X2 ++ X1 ++ S2) by simpa using hs2)
        clear hs2
        go_wp2_with fail
        go_roundg (d + j)
        case measure => rw [G2.out]; have := HD.out; omega
        case rel => exact ⟨d, j, P2 ++ Y, X2, X1, S2, rfl, rfl, rfl, by have := HD.out; omega, hj0, by have := HD.out; omega, hjJ, by rw [HL.out.2]; exact HD.out.symm, HL.out.1, by rw [List.length_append, HY.out]; have := HP.out; have := HD.out; omega, by have := HN.out; rw [HX12.out] at this; simp at this ⊢; omega, by rw [← HT.out, HX12.out]; simp, HS2.out⟩
      · obtain ⟨Y1, Y2, hY12, hl1, hl2⟩ := rot_right HX.out HY.out (show i < j by omega)
        obtain ⟨q, hq⟩ : ∃ q, q = m + j - i := ⟨_, rfl⟩
        have CS := swap_range g W0 P2 X Y1 Y2 S2 i p q N c cv HX.out hl2 HPP.out (by have := HP.out; have := HPP.out; omega) (by have := HN.out; rw [hY12] at this; simpa using this) h1 wr (by have := HS.out; rw [hY12] at this; simpa using this)
        have HCS := Lib.hid CS
        have HY12 := Lib.hid hY12
        have HL := Lib.hid (And.intro hl1 hl2)
        have t1 : decide ((j : Int) < (i : Int)) = false := by simp; omega
        have e4 : (j : Int) - (i : Int) = ((j - i : Nat) : Int) := by omega
        obtain ⟨d, hd⟩ : ∃ d, d = j - i := ⟨_, rfl⟩
        rw [← hd] at e4
        have HD := Lib.hid hd
        have e5 : (m : Int) + (j : Int) - (i : Int) = (q : Int) := by omega
        clear CS hY12 hl1 hl2 hd hq
        go_wp2_with fail
        refine HCS.out.mono ?_
        rintro e w2 ⟨rfl, hs2⟩
        have HS2 := Lib.hid (show StS g W0 w2 (P2 ++ Y2 ++ Y1 ++ (X ++ S2)) by simpa using hs2)
        clear hs2
        go_wp2_with fail
        go_roundg (i + d)
        case measure => rw [G2.out]; have := HD.out; omega
        case rel => exact ⟨i, d, P2, Y2, Y1, X ++ S2, rfl, rfl, rfl, hi0, by have := HD.out; omega, hiI, by have := HD.out; omega, HL.out.2, by rw [HL.out.1]; exact HD.out.symm, HP.out, by have := HN.out; rw [HY12.out] at this; simp at this ⊢; omega, by rw [← HT.out, HY12.out]; simp, HS2.out⟩
/-- What a comparison of keys returns. -/
def cmN (K : Int → Int) (x y : Int) : Int := if K x < K y then -1 else if K y < K x then 1 else 0
theorem cmN_lt (K : Int → Int) (x y : Int) : cmN K x y < 0 ↔ K x < K y := by
  unfold cmN
  by_cases h : K x < K y
  · rw [if_pos h]; exact ⟨fun _ => h, fun _ => by decide⟩
  · rw [if_neg h]
    refine ⟨fun h2 => ?_, fun h2 => absurd h2 h⟩
    split at h2 <;> omega
structure CmpOk (fid : Nat) (caps : Array Value) (K : Int → Int) (n : Nat) (g : Nat) (W0 : World) : Prop where
  call : ∀ (x y : Int) (w1 : World), 0 ≤ x ∧ x < n → 0 ≤ y ∧ y < n → Below g W0 w1 → Calls Try.prog fid (#[.int .i64 x, .int .i64 y] ++ caps) w1 fun e w' => e = .returned (.int .i64 (cmN K x y)) ∧ Below w1.heap.size w1 w'
def InsPost (K : Int → Int) (g : Nat) (W0 : World) (P A S : List Int) (e : Ending) (w' : World) : Prop := ∃ M, M.Perm A ∧ Srt K M ∧ SPost g W0 (P ++ M ++ S) e w'
def InR (n : Nat) (D : List Int) : Prop := ∀ x ∈ D, 0 ≤ x ∧ x < (n : Int)
theorem ins_done {K : Int → Int} {M1 M2 : List Int} {x : Int} (hs : Srt K (M1 ++ M2)) (h2 : ∀ y ∈ M2, lt K x y) (h1 : ∀ y ∈ M1, lt K y x) : Srt K (M1 ++ x :: M2) := (merged_one hs h1 h2).srt
theorem last_all {K : Int → Int} {M0 M2 : List Int} {x y : Int} (hs : Srt K ((M0 ++ [y]) ++ M2)) (h : lt K y x) : ∀ z ∈ M0 ++ [y], lt K z x := by
  intro z hz
  rcases List.mem_append.1 hz with a | a
  · exact lt_trans (srt_before (srt_left hs) z a y (by simp)) h
  · simp at a; subst a; exact h
structure Cells2 (g : Nat) (W0 : World) (D : List Int) (j i : Nat) (x y : Int) (w : World) : Prop where
  st : StS g W0 w D
  cx : w.cell? ⟨g, j, none⟩ = some (.int .i64 x)
  cy : w.cell? ⟨g, i, none⟩ = some (.int .i64 y)
theorem Cells2.below {g : Nat} {W0 : World} {D : List Int} {j i : Nat} {x y : Int} {w w2 : World} (h : Cells2 g W0 D j i x y w) (hb : Below w.heap.size w w2) : Cells2 g W0 D j i x y w2 :=
  ⟨h.st.below hb, (hb.cell (p := ⟨g, j, none⟩) h.st.1.lt).trans h.cx, (hb.cell (p := ⟨g, i, none⟩) h.st.1.lt).trans h.cy⟩

theorem snoc_cases {α : Type} (l : List α) : l = [] ∨ ∃ l0 y, l = l0 ++ [y] := by
  rcases Nat.eq_zero_or_pos l.length with h | h
  · exact .inl (List.eq_nil_of_length_eq_zero h)
  · have hne : l ≠ [] := by intro e; subst e; simp at h
    exact .inr ⟨l.dropLast, l.getLast hne, (List.dropLast_concat_getLast hne).symm⟩
theorem ins_perm {M1 M2 M T : List Int} {x : Int} (hm : M1 ++ M2 = M) (hp : M.Perm T) : (M1 ++ x :: M2).Perm (T ++ [x]) := by
  subst hm
  exact (List.perm_middle.trans (List.Perm.cons x hp)).trans (List.perm_append_comm (l₁ := [x]) (l₂ := T))
theorem drop_at {A : List Int} {k : Nat} (h : k < A.length) : A.drop k = A.getD k 0 :: A.drop (k + 1) := by
  rw [List.drop_eq_getElem_cons h, List.getD_eq_getElem?_getD, List.getElem?_eq_getElem h]; rfl
theorem take_at {A : List Int} {k : Nat} (h : k < A.length) : A.take (k + 1) = A.take k ++ [A.getD k 0] := by
  rw [List.take_succ_eq_append_getElem h, List.getD_eq_getElem?_getD, List.getElem?_eq_getElem h]; rfl
theorem ix_at {A : List Int} (h : A.Pairwise (· < ·)) {k : Nat} (hk : k < A.length) {y : Int} (hy : y ∈ A.take k) : y < A.getD k 0 := by
  rw [← List.take_append_drop k A, List.pairwise_append] at h
  exact h.2.2 y hy _ (by rw [drop_at hk]; simp)
theorem keep_c2 {g : Nat} {W0 : World} {D : List Int} {j i : Nat} {x y : Int} {w w2 : World} (h : w.cell? ⟨g, j, none⟩ = some (.int .i64 x) ∧ w.cell? ⟨g, i, none⟩ = some (.int .i64 y) ∧ Cells2 g W0 D j i x y w) (hb : Below w.heap.size w w2) : w2.cell? ⟨g, j, none⟩ = some (.int .i64 x) ∧ w2.cell? ⟨g, i, none⟩ = some (.int .i64 y) ∧ Cells2 g W0 D j i x y w2 :=
  ⟨(h.2.2.below hb).cx, (h.2.2.below hb).cy, h.2.2.below hb⟩
set_option maxRecDepth 100000 in
set_option maxHeartbeats 8000000 in
theorem ins_sort (fid : Nat) (caps : Array Value) (K : Int → Int) (n g : Nat) (W0 : World) (hc : CmpOk fid caps K n g W0) (he : ∀ args w, (callFunc fid args).run Try.prog w = .ok (.enter fid args) w) (P A S : List Int) (a b N c : Nat) (ha : P.length = a) (hb : a + A.length = b) (hN : (P ++ A ++ S).length = N) (h1 : N ≤ 1048576)
    (hix : A.Pairwise (· < ·)) (hr : InR n A) (w : World) (hs : StS g W0 w (P ++ A ++ S)) :
    Calls Try.prog 121 #[.slice (some ⟨g, 0, none⟩) N c, .int .i64 (a : Int), .int .i64 (b : Int), .func (.func fid) #[] caps] w (InsPost K g W0 P A S) := by
  have hbN : b ≤ N := by rw [← hN]; simp; omega
  have HC := Lib.hid hc
  have HA := Lib.hid ha
  have HB := Lib.hid hb
  have HN := Lib.hid hN
  have HIX := Lib.hid hix
  have HR := Lib.hid hr
  have HS := Lib.hid hs
  have hab : a ≤ b := by omega
  clear hc ha hb hN hix hr hs
  go_enter Try.func121, Try.ntmps121
  go_wp2_with fail
  go_loopg [8, 9] (b - a - 1) (fun gk vi _ wx => ∃ (k i : Nat) (M : List Int), gk = b - a - k ∧ 1 ≤ k ∧ i = a + k ∧ k ≤ max 1 (b - a) ∧ vi = .int .i64 i ∧ M.Perm (A.take k) ∧ Srt K M ∧ StS g W0 wx (P ++ M ++ A.drop k ++ S))
  case atStart =>
    refine ⟨1, a + 1, A.take 1, by omega, Nat.le_refl _, rfl, by omega, by go_num, List.Perm.refl _, ?_, ?_⟩
    · have : (A.take 1).length ≤ 1 := by simp; omega
      cases hA : A.take 1 with
      | nil => exact List.Pairwise.nil
      | cons x t =>
        rw [hA] at this
        have : t = [] := List.eq_nil_of_length_eq_zero (by simpa using this)
        subst this
        exact List.pairwise_singleton _ _
    · have : P ++ A.take 1 ++ A.drop 1 ++ S = P ++ A ++ S := by rw [List.append_assoc P, List.take_append_drop]
      rw [this]; exact HS.out
  case round =>
    clear HS
    obtain ⟨k, i, M, g2, hk1, hik0, hkm, rfl, hp, hsr, hst⟩ := hrel
    have hik1 : i ≤ a + k := by omega
    have hik2 : a + k ≤ i := by omega
    have HIK := Lib.hid hik0
    have G2 := Lib.hid g2
    clear hik0
    have HS := Lib.hid hst
    have HP := Lib.hid hp
    have HSR := Lib.hid hsr
    clear g2 hst hp hsr
    by_cases hlt : i < b
    · have hkA : k < A.length := by have := HB.out; omega
      obtain ⟨x, hx⟩ : ∃ x, x = A.getD k 0 := ⟨_, rfl⟩
      have hML : M.length = k := by rw [HP.out.length_eq, List.length_take]; omega
      have HDR := Lib.hid (show A.drop k = x :: A.drop (k + 1) by rw [hx]; exact drop_at hkA)
      have HTK := Lib.hid (show A.take (k + 1) = A.take k ++ [x] by rw [hx]; exact take_at hkA)
      have HYX := Lib.hid (show ∀ y ∈ M, y < x from fun y hy => by rw [hx]; exact ix_at HIX.out hkA (HP.out.mem_iff.1 hy))
      have HXR := Lib.hid (show 0 ≤ x ∧ x < (n : Int) from HR.out x (by rw [hx]; exact getD_mem hkA))
      have HMR := Lib.hid (show ∀ y ∈ M, 0 ≤ y ∧ y < (n : Int) from fun y hy => HR.out y (List.mem_of_mem_take (HP.out.mem_iff.1 hy)))
      have HML := Lib.hid hML
      have HNL := Lib.hid (show ∀ M1 M2 : List Int, M1 ++ M2 = M → (P ++ M1 ++ x :: M2 ++ A.drop (k + 1) ++ S).length = N from fun M1 M2 hm => by
        have h3 := HN.out
        have h4 := congrArg List.length hm
        simp at h3 h4 ⊢
        omega)
      obtain ⟨wo, rfl⟩ : ∃ wo : World, wo = wr := ⟨_, rfl⟩
      clear hx hML hkA
      go_wp2_with fail
      go_loopg [9] k (fun gk vj wx => ∃ (M1 M2 : List Int) (j : Nat), gk = M1.length ∧ vj = .int .i64 j ∧ j = a + M1.length ∧ M1 ++ M2 = M ∧ (∀ y ∈ M2, lt K x y) ∧ StS g W0 wx (P ++ M1 ++ x :: M2 ++ A.drop (k + 1) ++ S))
      case atStart => exact ⟨M, [], i, HML.out.symm, rfl, by rw [HML.out]; exact HIK.out, by simp, (fun y hy => by cases hy), by have := HS.out; rw [HDR.out] at this; simpa using this⟩
      case round =>
        clear HS
        obtain ⟨M1, M2, j, g3, rfl, hj, hm, hall, hst⟩ := hrel
        have G3 := Lib.hid g3
        have HST := Lib.hid hst
        have HALL := Lib.hid hall
        have HM := Lib.hid hm
        have HJ := Lib.hid hj
        clear g3 hst hall hm
        rcases snoc_cases M1 with hm1 | ⟨M0, y, hm1⟩
        · have HM1 := Lib.hid hm1
          have hja : j = a := by rw [hj, hm1]; rfl
          have t0 : decide ((a : Int) < (j : Int)) = false := by simp; omega
          have HF := Lib.hid (show Srt K (M1 ++ x :: M2) from ins_done (by rw [HM.out]; exact HSR.out) HALL.out (fun z hz => by rw [HM1.out] at hz; cases hz))
          have HFP := Lib.hid (show (M1 ++ x :: M2).Perm (A.take (k + 1)) by rw [HTK.out]; exact ins_perm HM.out HP.out)
          clear hm1 hj
          go_wp2_with fail
          go_quiet (fail)
          go_wp2_with fail
          go_roundg (b - a - (k + 1))
          case measure => rw [G2.out]; omega
          case rel => exact ⟨k + 1, i + 1, M1 ++ x :: M2, rfl, by omega, by omega, by omega, by go_num, HFP.out, HF.out, by have := HST.out.drewN nq; simpa using this⟩
        · have HM1 := Lib.hid hm1
          obtain ⟨J, hJ⟩ : ∃ J, J = a + M0.length := ⟨_, rfl⟩
          have hjJ : j = J + 1 := by rw [hj, hm1, hJ]; simp; omega
          have hyM : y ∈ M := by rw [← HM.out, hm1]; simp
          have hyx := HYX.out y hyM
          have hxr := HXR.out
          have hyr := HMR.out y hyM
          have hlen := HNL.out M1 M2 HM.out
          obtain ⟨n1, n2, _, n4, n5⟩ := near_swap (D := P ++ M1 ++ x :: M2 ++ A.drop (k + 1) ++ S) (L := P ++ M0) (R := M2 ++ A.drop (k + 1) ++ S) (u := y) (v := x) (k := J) (by rw [hm1]; simp) (by rw [List.length_append, HA.out, hJ])
          rw [← hjJ] at n2 n4 n5
          obtain ⟨D, hD⟩ : ∃ D, D = P ++ M1 ++ x :: M2 ++ A.drop (k + 1) ++ S := ⟨_, rfl⟩
          rw [← hD] at n1 n2 n4 n5 hlen
          have hst2 := HST.out
          rw [← hD] at hst2
          have cx := hst2.1.cell j n5
          have cy := hst2.1.cell J (by omega)
          have fx := hst2.1.frozen j
          have fy := hst2.1.frozen J
          rw [n2] at cx
          rw [n1] at cy
          rw [hlen] at n5
          have HC2 := Lib.hid (show Cells2 g W0 D j J x y wr from ⟨hst2, cx, cy⟩)
          have HSW := Lib.hid n4
          have HD := Lib.hid hD
          have HJ0 := Lib.hid hJ
          have HYX2 := Lib.hid hyx
          obtain ⟨q, hq⟩ : ∃ q, q = cmN K x y := ⟨_, rfl⟩
          have CC := fun w1 (h : Cells2 g W0 D j J x y w1) => HC.out.call x y w1 hxr hyr h.st.2
          rw [← hq] at CC
          have HCC := Lib.hid CC
          have t0 : decide ((a : Int) < (j : Int)) = true := by simp; omega
          have t1 : decide (a < j) = true := by simp; omega
          have e2 : IntKind.i64.wrap ((j : Int) - 1) = (j : Int) - 1 := by rw [IntKind.wrap_i64]; omega
          have e3 : (0 : Int) ≤ (j : Int) - 1 := by omega
          have e4 : (j : Int) - 1 < (N : Int) := by omega
          have e5 : ((j : Int) - 1).toNat = J := by omega
          have e6 : (1 : Int) ≤ (j : Int) := by omega
          have e7 : 1 ≤ j := by omega
          have e8 : (j : Int) ≤ (N : Int) := by omega
          have j0 : (0 : Int) ≤ (j : Int) := by omega
          have j1 : (j : Int) < (N : Int) := by omega
          have J0 : (0 : Int) ≤ (J : Int) := by omega
          have J1 : (J : Int) < (N : Int) := by omega
          have hne : j ≠ J := by omega
          have HQ := Lib.hid (show q < 0 ↔ K x < K y by rw [hq]; exact cmN_lt K x y)
          have HJJ := Lib.hid hjJ
          clear hm1 hJ hyM hyx hxr hyr hlen n1 n2 n4 hst2 n5 hD hq CC hj hjJ
          by_cases hc : q < 0
          · have hlt2 := Lib.hid (show lt K x y from (lt_right HYX2.out).2 (HQ.out.1 hc))
            go_wp2_with fail
            go_region_held3 (fun w' => w'.cell? ⟨g, j, none⟩ = some (.int .i64 x) ∧ w'.cell? ⟨g, J, none⟩ = some (.int .i64 y) ∧ Cells2 g W0 D j J x y w')
              (first | exact ⟨HC2.out.cx, HC2.out.cy, HC2.out.below (Below.refl _ _).drew⟩ | assumption | exact keep_c2 (by assumption) (by assumption))
              ((refine (HCC.out _ (And.right (And.right (by assumption)))).mono ?_; rintro e w8 ⟨rfl, hb8⟩))
            rename_i hHeld
            have HC3 := Lib.hid hHeld.2.2
            have cx2 := hHeld.1
            have cy2 := hHeld.2.1
            have fx2 := hHeld.2.2.st.1.frozen j
            have fy2 := hHeld.2.2.st.1.frozen J
            clear hHeld hb8 cx cy fx fy HC2 HCC
            go_wp2_with fail
            go_region
            have hs4 := ((HC3.out.st.set j y).set J x).drew
            rw [HSW.out] at hs4
            have HS4 := Lib.hid hs4
            clear hs4
            go_wp2_with fail
            go_roundg M0.length
            case measure => rw [G3.out, HM1.out]; simp
            case rel => exact ⟨M0, y :: M2, J, rfl, by rw [← e5]; simp; omega, HJ0.out, by rw [← HM.out, HM1.out]; simp, fun z hz => by
              rcases List.mem_cons.1 hz with rfl | hz
              · exact hlt2.out
              · exact HALL.out z hz, by have := HS4.out; simpa using this⟩
          · have hgt := Lib.hid (show lt K y x from (lt_left HYX2.out).2 (fun h => hc (HQ.out.2 h)))
            have HF := Lib.hid (show Srt K (M1 ++ x :: M2) from ins_done (by rw [HM.out]; exact HSR.out) HALL.out (by rw [HM1.out]; exact last_all (M2 := M2) (by rw [← HM1.out, HM.out]; exact HSR.out) hgt.out))
            have HFP := Lib.hid (show (M1 ++ x :: M2).Perm (A.take (k + 1)) by rw [HTK.out]; exact ins_perm HM.out HP.out)
            go_wp2_with fail
            go_region_held3 (fun w' => w'.cell? ⟨g, j, none⟩ = some (.int .i64 x) ∧ w'.cell? ⟨g, J, none⟩ = some (.int .i64 y) ∧ Cells2 g W0 D j J x y w')
              (first | exact ⟨HC2.out.cx, HC2.out.cy, HC2.out.below (Below.refl _ _).drew⟩ | assumption | exact keep_c2 (by assumption) (by assumption))
              ((refine (HCC.out _ (And.right (And.right (by assumption)))).mono ?_; rintro e w8 ⟨rfl, hb8⟩))
            rename_i hHeld
            have HC3 := Lib.hid hHeld.2.2
            clear hHeld hb8 cx cy fx fy HC2 HCC
            have HDD := Lib.hid (show D = P ++ M1 ++ x :: M2 ++ A.drop (k + 1) ++ S from HD.out)
            go_wp2_with fail
            go_roundg (b - a - (k + 1))
            case measure => rw [G2.out]; omega
            case rel => exact ⟨k + 1, i + 1, M1 ++ x :: M2, rfl, by omega, by omega, by omega, by go_num, HFP.out, HF.out, by have := HC3.out.st; rw [HDD.out] at this; simpa using this⟩
    · have hkA : A.length ≤ k := by have := HB.out; omega
      have hpp := HP.out
      have hss := HS.out
      rw [List.take_of_length_le hkA] at hpp
      rw [List.drop_eq_nil_of_le hkA] at hss
      have HPP := Lib.hid hpp
      have HSS := Lib.hid hss
      clear hpp hss hkA
      go_wp2_with fail
      go_end0
      exact ⟨M, HPP.out, HSR.out, rfl, by have := HSS.out; simpa using this⟩
end Go.Proofs.Ytlahmcbaiebapaa
