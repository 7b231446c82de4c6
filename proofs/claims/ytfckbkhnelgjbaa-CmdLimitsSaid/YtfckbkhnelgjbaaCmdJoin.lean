/- cmd.Join. -/
import Derived.Test.YtfckbkhnelgjbaaCmdCopy
import Derived.Test.YtfckbkhnelgjbaaOwn
import Derived.Deep.DeepMust
namespace Go.Proofs.Ytfckbkhnelgjbaa
open Go.ChangeShapes Go.WideShapes Go.ChangeAt Go.RowKit Go.Mem
set_option linter.unusedVariables false
/-- R leans on the blocks from lo up to hi alone -/
def Within (lo hi : Nat) (R : World → Prop) (w : World) : Prop := hi ≤ w.heap.size ∧ ∀ w2, w.heap.size ≤ w2.heap.size → (∀ g, lo ≤ g → g < hi → w2.heap[g]? = w.heap[g]?) → R w2
theorem Within.now {lo hi : Nat} {R : World → Prop} {w : World} (h : Within lo hi R w) : R w := h.2 w (Nat.le_refl _) fun _ _ _ => rfl
theorem Up.within {B : Nat} {R : World → Prop} {w : World} (h : Up B R w) : Within B w.heap.size R w := ⟨Nat.le_refl _, fun w2 hs hg => h w2 ⟨hs, hg⟩⟩
theorem Within.grown {lo hi : Nat} {R : World → Prop} {w w' : World} {row : Option Nat} (h : Within lo hi R w) (hg : w.grownBy w' row) (hr : ∀ g, row = some g → ¬ (lo ≤ g ∧ g < hi)) : Within lo hi R w' :=
  ⟨Nat.le_trans h.1 hg.size, fun w2 hs he => h.2 w2 (Nat.le_trans hg.size hs) fun g h1 h2 => (he g h1 h2).trans (hg.block g (Nat.lt_of_lt_of_le h2 h.1) (fun e => hr g e.symm ⟨h1, h2⟩))⟩
theorem Within.below {lo hi : Nat} {R : World → Prop} {w w' : World} (h : Within lo hi R w) (hb : Below w.heap.size w w') : Within lo hi R w' :=
  ⟨Nat.le_trans h.1 hb.size, fun w2 hs he => h.2 w2 (Nat.le_trans hb.size hs) fun g h1 h2 => (he g h1 h2).trans (hb.block g (Nat.lt_of_lt_of_le h2 h.1))⟩
/-- one element of a row of commands -/
def CmdCell (w : World) (B : Nat) (v : Value) (cs : List Value) (i : Nat) (y : CmdV) : Prop := ∃ a c lo hi, cs[i * 5]? = some (.int .i64 y.dod) ∧ cs[i * 5 + 1]? = some (.int .i64 y.n) ∧ cs[i * 5 + 2]? = some (.int .i64 y.gen) ∧ cs[i * 5 + 3]? = some (.int .i64 y.kind) ∧ cs[i * 5 + 4]? = some (.slice a y.comps.length c) ∧
  Within lo hi (fun w => SlAt 2 CompAt w a y.comps) w ∧ B ≤ lo ∧ (∀ g, v.ownBlock = some g → ¬ (lo ≤ g ∧ g < hi))
/-- a slice of commands that the call owns -/
def CmdsOwn (w : World) (B : Nat) (v : Value) (l : List CmdV) : Prop := ∃ cs, w.ownsRow B 27 5 v l.length cs ∧ ∀ i (h : i < l.length), CmdCell w B v cs i l[i]
theorem CmdsOwn.nil (w : World) (B : Nat) : CmdsOwn w B (.slice none 0 0) [] := ⟨[], World.ownsRow_nil _ _ _ _, fun i h => absurd h (by simp)⟩
theorem CmdsOwn.below {w w' : World} {B : Nat} {v : Value} {l : List CmdV} (h : CmdsOwn w B v l) (hb : Below w.heap.size w w') : CmdsOwn w' B v l := by
  obtain ⟨cs, h1, h2⟩ := h
  refine ⟨cs, own_below h1 hb, fun i hi => ?_⟩
  obtain ⟨a, c, lo, hi', e0, e1, e2, e3, e4, e5, e6, e7⟩ := h2 i hi
  exact ⟨a, c, lo, hi', e0, e1, e2, e3, e4, e5.below hb, e6, e7⟩
/-- one command more -/
theorem CmdsOwn.snoc {w w' : World} {B : Nat} {v v' : Value} {l : List CmdV} {y : CmdV} {a : Option Addr} {c : Nat} {cs : List Value} (hc : ∀ i (h : i < l.length), CmdCell w B v cs i l[i]) (hl : cs.length = l.length * 5)
    (ho : w'.ownsRow B 27 5 v' (l.length + 1) (cs ++ [.int .i64 y.dod, .int .i64 y.n, .int .i64 y.gen, .int .i64 y.kind, .slice a y.comps.length c])) (hg : w.grownBy w' v.ownBlock)
    (hv : ∀ g', v'.ownBlock = some g' → v.ownBlock = some g' ∨ w.heap.size ≤ g') {lo : Nat} (hw : Within lo w.heap.size (fun w => SlAt 2 CompAt w a y.comps) w) (hlo : B ≤ lo) (hvl : ∀ g, v.ownBlock = some g → g < lo) :
    CmdsOwn w' B v' (l ++ [y]) := by
  refine ⟨_, by simpa using ho, fun i hi => ?_⟩
  by_cases h : i < l.length
  · obtain ⟨a1, c1, lo1, hi1, e0, e1, e2, e3, e4, e5, e6, e7⟩ := hc i h
    have hh := e5.1
    rw [List.getElem_append_left h]
    refine ⟨a1, c1, lo1, hi1, ?_, ?_, ?_, ?_, ?_, e5.grown hg e7, e6, fun g' hg' => ?_⟩
    · rw [List.getElem?_append_left (by omega)]; exact e0
    · rw [List.getElem?_append_left (by omega)]; exact e1
    · rw [List.getElem?_append_left (by omega)]; exact e2
    · rw [List.getElem?_append_left (by omega)]; exact e3
    · rw [List.getElem?_append_left (by omega)]; exact e4
    · rcases hv g' hg' with h1 | h1
      · exact e7 g' h1
      · omega
  · have hi2 : i = l.length := by simp at hi; omega
    subst hi2
    rw [List.getElem_append_right (Nat.le_refl _)]
    simp only [Nat.sub_self, List.getElem_cons_zero]
    refine ⟨a, c, lo, w.heap.size, ?_, ?_, ?_, ?_, ?_, hw.grown hg (fun g hg' => by have := hvl g hg'; omega), hlo, fun g' hg' => ?_⟩
    · rw [List.getElem?_append_right (by omega), hl]; simp
    · rw [List.getElem?_append_right (by omega), hl]; simp
    · rw [List.getElem?_append_right (by omega), hl]; simp
    · rw [List.getElem?_append_right (by omega), hl]; simp
    · rw [List.getElem?_append_right (by omega), hl]; simp
    · rcases hv g' hg' with h1 | h1
      · have := hvl g' h1; omega
      · omega
/-- what is owned can be read -/
theorem CmdsOwn.at {w : World} {B : Nat} {a : Option Addr} {n c : Nat} {l : List CmdV} (h : CmdsOwn w B (.slice a n c) l) : SlAt 5 CmdAt w a l := by
  obtain ⟨cs, h1, h2⟩ := h
  intro h0
  obtain ⟨g, cap', hv, _, hlt⟩ := h1.form h0
  injection hv with hv
  subst hv
  refine ⟨_, rfl, hlt, fun i hi => ?_⟩
  obtain ⟨a1, c1, lo1, hi1, e0, e1, e2, e3, e4, e5, e6, e7⟩ := h2 i hi
  have cc : ∀ j u, cs[j]? = some u → w.cell? ⟨g, j, none⟩ = some u := fun j u hu => by rw [← add_zero_block]; exact h1.cells (g := g) rfl j u hu
  rw [add_zero_block]
  exact ⟨cc _ _ e0, cc _ _ e1, cc _ _ e2, cc _ _ e3, a1, c1, cc _ _ e4, e5.now⟩
def tot (l : List (List CmdV)) : Nat := (l.map List.length).sum
theorem tot_take (l : List (List CmdV)) (k : Nat) (h : k < l.length) : tot (l.take (k + 1)) = tot (l.take k) + l[k].length := by
  unfold tot
  rw [List.take_add_one, List.getElem?_eq_getElem h, List.map_append, List.sum_append]; simp
theorem tot_mono (l : List (List CmdV)) (k : Nat) : tot (l.take k) ≤ tot l := by
  unfold tot
  have := List.take_append_drop k l
  have e : l.map List.length = (l.take k).map List.length ++ (l.drop k).map List.length := by rw [← List.map_append, this]
  rw [e, List.sum_append]; omega
set_option maxHeartbeats 4000000 in
theorem join_large (l : List (List CmdV)) (a : Option Addr) (n cap : Nat) (hn : l.length = n) (hl : tot l ≤ 1048576) (h1 : n ≤ 1048576) (hb : 131072 < tot l) (W : World) (hz : SlAt 1 CmdsAt W a l) :
    Calls Try.prog 7 #[.slice a n cap] W fun e w' => e = .returned (.tuple #[.slice none 0 0, .int .i64 2]) ∧ W = w' := by
  have HN := Lib.hid hn
  have HZ := Lib.hid hz
  have HL := Lib.hid hl
  have HBG := Lib.hid hb
  clear hn hz hl hb
  go_enter Try.func7, Try.ntmps7
  go_wp2_with fail
  go_loopg [4, 6, 14] n (fun gk v4 v6 vi wx => ∃ k t : Nat, k ≤ n ∧ gk = n - k ∧ vi = .int .i64 k ∧ v4 = .int .i64 t ∧ t = tot (l.take k) ∧ t ≤ 131072 ∧ wx = W)
  case atStart => exact ⟨0, 0, Nat.zero_le _, rfl, rfl, rfl, rfl, by omega, rfl⟩
  case round =>
    obtain ⟨k, t, hk, g2, rfl, rfl, ht, htb, rfl⟩ := hrel
    have G2 := Lib.hid g2
    have HT := Lib.hid ht
    clear g2 ht
    by_cases hlt : k < n
    · obtain ⟨x, rfl, hx, hi⟩ := HZ.out (by rw [HN.out]; omega)
      obtain ⟨b, c, c0, _⟩ := hi k (by rw [HN.out]; exact hlt)
      rw [Nat.mul_one] at c0
      obtain ⟨m, hm⟩ : ∃ m, m = (l[k]'(by rw [HN.out]; exact hlt)).length := ⟨_, rfl⟩
      rw [← hm] at c0
      have hs : t + m = tot (l.take (k + 1)) := by rw [tot_take _ _ (by rw [HN.out]; exact hlt), HT.out, hm]
      have hs2 : t + m ≤ 1048576 := by have := tot_mono l (k + 1); have := HL.out; omega
      have HS := Lib.hid hs
      clear hi hm hs
      by_cases hbig : 131072 < t + m
      · go_wp2_with fail
        go_ret2
        exact ⟨rfl, rfl⟩
      · go_wp2_with fail
        go_roundg (n - (k + 1))
        case measure => rw [G2.out]; omega
        case rel => exact ⟨k + 1, t + m, hlt, rfl, by go_num, by go_num, HS.out, by omega, rfl⟩
    · exfalso
      have h2 := HT.out
      rw [show k = l.length by rw [HN.out]; omega, List.take_length] at h2
      have := HBG.out
      omega
end Go.Proofs.Ytfckbkhnelgjbaa
