/- border.List. -/
import Derived.Test.YtehpfkmaikbjkaaBorderJ
import Derived.Test.YtehpfkmaikbjkaaMem2
import Derived.Deep.LoopGhost
import Derived.Deep.DeepMust
namespace Go.Proofs.Ytehpfkmaikbjkaa
open Go.ChangeShapes Go.WideShapes Go.ChangeAt Go.RowKit Go.Fl Go.Mem
set_option linter.unusedVariables false
def numN (zs : List Int) : List Int := zs.map fun z => numF z.toNat
theorem numN_length (zs : List Int) : (numN zs).length = zs.length := by simp [numN]
theorem numN_take (zs : List Int) (k : Nat) (h : k < zs.length) : numN (zs.take (k + 1)) = numN (zs.take k) ++ [numF (zs.getD k 0).toNat] := by
  unfold numN
  rw [List.take_add_one, List.map_append, List.getElem?_eq_getElem h, List.getD_eq_getElem?_getD, List.getElem?_eq_getElem h]; rfl
/-- the first word that is no number -/
theorem first_bad (zs : List Int) (n : Nat) : ∃ k, k ≤ n ∧ (∀ j, j < k → errF (zs.getD j 0).toNat = 0) ∧ (k < n → errF (zs.getD k 0).toNat ≠ 0) := by
  induction n with
  | zero => exact ⟨0, Nat.le_refl _, fun j h => by omega, fun h => by omega⟩
  | succ n ih =>
    obtain ⟨k, h1, h2, h3⟩ := ih
    by_cases hk : k < n
    · exact ⟨k, by omega, h2, fun _ => h3 hk⟩
    · obtain rfl : k = n := by omega
      by_cases he : errF (zs.getD k 0).toNat = 0
      · refine ⟨k + 1, Nat.le_refl _, fun j hj => ?_, fun h => by omega⟩
        by_cases hj2 : j < k
        · exact h2 j hj2
        · obtain rfl : j = k := by omega
          exact he
      · exact ⟨k, by omega, h2, fun _ => he⟩
theorem at_nat {zs : List Int} (hw : ∀ z ∈ zs, 0 ≤ z ∧ z < 18446744073709551616) (k : Nat) (h : k < zs.length) : ∃ b : Nat, zs.getD k 0 = (b : Int) ∧ b < 18446744073709551616 ∧ (zs.getD k 0).toNat = b := by
  have hm : zs.getD k 0 ∈ zs := by
    rw [List.getD_eq_getElem?_getD, List.getElem?_eq_getElem h]; exact List.getElem_mem h
  have := hw _ hm
  exact ⟨(zs.getD k 0).toNat, by omega, by omega, rfl⟩
def ListPost (zs : List Int) (k0 n : Nat) (W w' : World) (e : Ending) : Prop :=
  (k0 < n → e = .returned (.tuple #[.slice none 0 0, .int .i64 (errF (zs.getD k0 0).toNat)])) ∧ (k0 = n → ∃ a c, e = .returned (.tuple #[.slice a n c, .int .i64 0]) ∧ IntsAt .i64 w' a (numN zs)) ∧ Below W.heap.size W w'
set_option maxHeartbeats 1000000 in
theorem b_List (zs : List Int) (a : Option Addr) (n cap k0 : Nat) (hn : zs.length = n) (hl : n ≤ 17592186044415) (hw : ∀ z ∈ zs, 0 ≤ z ∧ z < 18446744073709551616) (h0 : k0 ≤ n) (h1 : ∀ j, j < k0 → errF (zs.getD j 0).toNat = 0) (h2 : k0 < n → errF (zs.getD k0 0).toNat ≠ 0) (W : World) (hz : IntsAt .u64 W a zs) :
    Calls Try.prog 34 #[.slice a n cap] W fun e w' => ListPost zs k0 n W w' e := by
  have HN := Lib.hid hn
  have HW := Lib.hid hw
  have H1 := Lib.hid h1
  have H2 := Lib.hid h2
  have HZ := Lib.hid hz
  clear hn hw h1 h2 hz
  go_enter Try.func34, Try.ntmps34
  go_wp2_with fail
  go_loopg [4, 11] n (fun gk v vi wx => ∃ (k : Nat) (a2 : Option Addr) (c2 : Nat), k ≤ k0 ∧ gk = n - k ∧ vi = .int .i64 k ∧ v = .slice a2 k c2 ∧ wx.ownsRow W.heap.size 3 1 (.slice a2 k c2) k (vints .i64 (numN (zs.take k))) ∧ Below W.heap.size W wx)
  case atStart => exact ⟨0, none, 0, Nat.zero_le _, rfl, rfl, rfl, World.ownsRow_nil _ _ _ _, Below.refl _ _⟩
  case round =>
    obtain ⟨k, a2, c2, hk, g2, rfl, rfl, hown, hb⟩ := hrel
    have G2 := Lib.hid g2
    have HB := Lib.hid hb
    have hB := hb.size
    clear g2 hb
    by_cases hlt : k < n
    · obtain ⟨x, rfl, hx, hc⟩ := (HZ.out.below HB.out) (by rw [HN.out]; omega)
      have hck := hc k (by rw [HN.out]; exact hlt)
      obtain ⟨b, hb1, hb2, hb3⟩ := at_nat HW.out k (by rw [HN.out]; exact hlt)
      rw [hb1] at hck
      have F := fun W => From_any b hb2 W
      obtain ⟨m, hm⟩ : ∃ m, m = numF b := ⟨_, rfl⟩
      obtain ⟨f, hf⟩ : ∃ f, f = errF b := ⟨_, rfl⟩
      rw [← hm, ← hf] at F
      have F := Lib.hid F
      have HM := Lib.hid hm
      have HF := Lib.hid hf
      have HB3 := Lib.hid hb3
      clear hc hm hf hb1 hb2 hb3
      by_cases hk0 : k < k0
      · have t1 : (f != 0) = false := by
          have := H1.out k hk0
          rw [HB3.out, ← HF.out] at this
          rw [this]; rfl
        go_wp2_with fail
        refine (F.out _).mono ?_
        rintro e w1 ⟨rfl, rfl⟩
        clear hck
        go_wp2_with (at_builtin; go_must (refine wpList_append_new rfl _ _ 38 rfl W.heap.size 3 (.int .i64 0) 1 8 Try.underlying38 (by kernel_rfl) rfl (by decide) _ _ _ rfl hown _ _ rfl rfl rfl (by omega) (by decide) hB ?_))
        intro g' cap' w' hown' hg hor hlt'
        have hb' : Below W.heap.size W w' := HB.out.grown hg hB (fun j hj => (hown.lt j hj).1)
        have e1 : vints .i64 (numN (zs.take k)) ++ #[Value.int .i64 m].toList = vints .i64 (numN (zs.take (k + 1))) := by
          rw [vints_snoc, numN_take _ _ (by rw [HN.out]; exact hlt), HB3.out, ← HM.out]
        rw [e1] at hown'
        have HO := Lib.hid hown'
        have HB' := Lib.hid hb'
        clear hown hown' hg hor hb' e1
        go_wp2
        go_roundg (n - (k + 1))
        case measure => rw [G2.out]; omega
        case rel => exact ⟨k + 1, _, _, hk0, rfl, by go_num, rfl, HO.out, HB'.out⟩
      · have hke : k = k0 := by omega
        have t1 : (f != 0) = true := by
          have := H2.out (by omega)
          rw [← hke, HB3.out, ← HF.out] at this
          rw [bne_iff_ne]; exact this
        have HKE := Lib.hid hke
        clear hke
        go_wp2_with fail
        refine (F.out _).mono ?_
        rintro e w1 ⟨rfl, rfl⟩
        go_wp2_with fail
        go_ret2
        exact ⟨fun _ => by rw [← HKE.out, HB3.out, ← HF.out]; rfl, fun h => by have := HKE.out; omega, HB.out⟩
    · have hke : k = n := by omega
      have hke2 : k0 = n := by omega
      have HKE := Lib.hid hke
      have HKE2 := Lib.hid hke2
      clear hke hke2
      go_wp2_with fail
      go_ret2
      refine ⟨fun h => by have := HKE2.out; omega, fun _ => ⟨a2, c2, by rw [← HKE.out]; rfl, ?_⟩, HB.out⟩
      have h3 := IntsAt.of_own hown (by rw [numN_length, List.length_take, HN.out, HKE.out, Nat.min_self])
      rw [HKE.out, ← HN.out, List.take_length] at h3
      exact h3
end Go.Proofs.Ytehpfkmaikbjkaa
