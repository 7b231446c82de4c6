/- merkle.filled. -/
import Derived.Test.YtdhaaeaacbnghaaVerify
import Derived.Test.YtdhaaeaacbnghaaOwn
import Derived.Deep.DeepMust
namespace Go.Proofs.Ytdhaaeaacbnghaa
open Go.ChangeShapes Go.WideShapes Go.ChangeAt Go.RowKit Go.Mem Go.Mk
set_option linter.unusedVariables false

def compl (z : Int) : Int := 18446744073709551615 - z
def fill (a b : List Int) : List Int := a ++ (b.drop a.length).map compl
theorem fill_length (a b : List Int) : (fill a b).length = max a.length b.length := by simp [fill]; omega
theorem fill_u64 (a b : List Int) (ha : U64s a) (hb : U64s b) : U64s (fill a b) := by
  intro z hz
  rcases List.mem_append.1 hz with h | h
  · exact ha z h
  · obtain ⟨y, hy, rfl⟩ := List.mem_map.1 h
    have := hb y (List.mem_of_mem_drop hy)
    unfold compl; omega
/-- A slice of words that the call has made. -/
def SlicePost (zs : List Int) (w : World) (e : Ending) (w' : World) : Prop := ∃ a cap, e = .returned (.slice a zs.length cap) ∧ zs.length ≤ cap ∧ IntsAt .u64 w' a zs ∧ Below w.heap.size w w'
theorem own_slice2 {w : World} {base e n : Nat} {k : IntKind} {v : Value} {zs : List Int} (h : w.ownsRow base e 1 v n (vints k zs)) : ∃ a cap, v = .slice a n cap ∧ n ≤ cap ∧ IntsAt k w a zs := by
  rcases h.2 with ⟨h1, h2⟩ | ⟨g, cap, cur, h1, h2, h3, h4, h5⟩
  · subst h1
    subst h2
    refine ⟨none, 0, rfl, Nat.le_refl _, fun hh => ?_⟩
    have := h.1
    rw [vints_length] at this
    omega
  · subst h1
    exact ⟨some ⟨g, 0, none⟩, cap, rfl, h4, IntsAt.of_own h (by have := h.1; rw [vints_length] at this; omega)⟩

set_option maxHeartbeats 4000000 in
theorem merkle_filled (la lb : List Int) (a b : Option Addr) (n m ca cb : Nat) (hn : la.length = n) (hm : lb.length = m) (h1 : n ≤ 8192) (h2 : m ≤ 8192) (ha : U64s la) (hb : U64s lb) (w : World) (hia : IntsAt .u64 w a la) (hib : IntsAt .u64 w b lb) :
    Calls Try.prog 95 #[.slice a n ca, .slice b m cb] w (SlicePost (fill la lb) w) := by
  have HN := Lib.hid hn
  have HM := Lib.hid hm
  have HUB := Lib.hid hb
  have HIA := Lib.hid hia
  have HIB := Lib.hid hib
  have hnil : w.ownsRow w.heap.size 22 1 (.slice none 0 0) 0 (vints .u64 []) := ⟨rfl, .inl ⟨rfl, rfl⟩⟩
  have HNIL := Lib.hid hnil
  clear hn hm ha hb hia hib hnil
  go_enter Try.func95, Try.ntmps95
  go_wp2_with (at_builtin; go_must (refine wpList_append_ints rfl _ _ 33 rfl w.heap.size 22 .u64 8 Try.underlying33 (by kernel_rfl) (.slice none 0 0) 0 [] rfl HNIL.out a n ca la rfl HN.out HIA.out (by unfold maxLen; omega) (by omega) (Nat.le_refl _) ?_))
  intro v0 w1 hown hgr hat
  have hb1 : Below w.heap.size w w1 := (Below.refl _ _).grown hgr (Nat.le_refl _) (fun k hk => by cases hk)
  have HOWN := Lib.hid hown
  clear hgr hat hown HNIL
  go_wp2
  obtain ⟨C, hC⟩ : ∃ C, C = fill la lb := ⟨_, rfl⟩
  have hCl : C.length = max n m := by rw [hC, fill_length, HN.out, HM.out]
  have hC0 : C.take n = la := by rw [hC, fill, List.take_left' HN.out]
  have hCg : ∀ k, n ≤ k → k < m → C.getD k 0 = compl (lb.getD k 0) := fun k h1 h2 => by
    have e : k - la.length < (lb.drop la.length).length := by rw [List.length_drop, HN.out, HM.out]; omega
    have e2 : k < lb.length := by rw [HM.out]; exact h2
    rw [hC, fill, List.getD_eq_getElem?_getD, List.getElem?_append_right (by rw [HN.out]; exact h1), List.getElem?_map, List.getElem?_drop, show la.length + (k - la.length) = k by rw [HN.out]; omega]
    simp [e2]
  have HCL := Lib.hid hCl
  have HC0 := Lib.hid hC0
  have HCG := Lib.hid hCg
  have HCF := Lib.hid hC
  clear hC hCl hC0 hCg
  go_loopg [5, 6] (m - n) (fun gk v vi wx => ∃ k : Nat, gk = m - k ∧ n ≤ k ∧ (k = n ∨ k ≤ m) ∧ vi = .int .i64 k ∧ wx.ownsRow w.heap.size 22 1 v k (vints .u64 (C.take k)) ∧ Below w.heap.size w wx)
  case atStart => exact ⟨n, rfl, Nat.le_refl _, Or.inl rfl, rfl, by rw [HC0.out]; exact HOWN.out, hb1⟩
  case round =>
    clear hb1 HOWN
    obtain ⟨k, hg, k1, k2, rfl, hown, hb1⟩ := hrel
    have HG := Lib.hid hg
    have HO := Lib.hid hown
    clear hg hown
    by_cases hlt : k < m
    · obtain ⟨x, rfl, hx, hc⟩ := (HIB.out.below hb1) (by rw [HM.out]; omega)
      have hcell := hc k (by rw [HM.out]; exact hlt)
      obtain ⟨z, hz, lz⟩ := (HUB.out.getD_in k).nat
      rw [hz] at hcell
      have hcg := HCG.out k k1 hlt
      rw [hz] at hcg
      have hx2 := W64.xor_max z lz
      obtain ⟨y, hy⟩ : ∃ y, y = 18446744073709551615 - z := ⟨_, rfl⟩
      rw [← hy] at hx2
      have hcg2 : C.getD k 0 = (y : Int) := by rw [hcg]; unfold compl; omega
      have htk : vints .u64 (C.take (k + 1)) = vints .u64 (C.take k) ++ [Value.int .u64 y] := by
        rw [take_snoc' C k 0 (by rw [HCL.out]; omega), hcg2]; simp [vints]
      have HTK := Lib.hid htk
      clear hc hcg hcg2 htk hz hy
      go_wp2_with (at_builtin; go_must (refine wpList_append_new rfl _ _ 33 rfl w.heap.size 22 (.int .u64 0) 1 8 Try.underlying33 (by kernel_rfl) rfl (by decide) _ _ _ rfl HO.out _ _ rfl rfl rfl (by omega) (by decide) hb1.size ?_))
      intro g' cap' w' hown' hg hor hlt'
      have hbn : Below w.heap.size w w' := hb1.grown hg hb1.size (fun j hj => (own_lt HO.out j hj).1)
      have ho : w'.ownsRow w.heap.size 22 1 (.slice (some ⟨g', 0, none⟩) (k + 1) cap') (k + 1) (vints .u64 (C.take (k + 1))) := by rw [HTK.out]; exact hown'
      have HO1 := Lib.hid ho
      clear hown' ho hg hor hb1
      go_wp2
      go_roundg (m - (k + 1))
      case measure => rw [HG.out]; omega
      case rel => exact ⟨k + 1, rfl, by omega, Or.inr (by omega), by go_num, HO1.out, hbn⟩
    · have ek : k = max n m := by omega
      have et : C.take k = C := List.take_of_length_le (by rw [HCL.out]; omega)
      have ho := HO.out
      rw [et] at ho
      obtain ⟨av, cv, rfl, hcv, hiv⟩ := own_slice2 ho
      have hl : C.length = k := by rw [HCL.out, ek]
      have HL := Lib.hid hl
      have HIV := Lib.hid hiv
      clear ek et ho hl hiv HO
      have hlt' : (m : Int) ≤ k := by omega
      go_wp2
      go_ret
      exact ⟨av, cv, by rw [← HCF.out, HL.out]; rfl, by rw [← HCF.out, HL.out]; exact hcv, by rw [← HCF.out]; exact HIV.out, hb1⟩
end Go.Proofs.Ytdhaaeaacbnghaa
