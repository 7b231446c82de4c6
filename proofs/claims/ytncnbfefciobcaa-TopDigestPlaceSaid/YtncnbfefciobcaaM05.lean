/- Lemmas for the law TopDigestPlace: MerkleP5, MProof. No conditions. -/
import Derived.Test.YtncnbfefciobcaaM04
import Derived.Test.YtncnbfefciobcaaM03
/- The proof of a leaf, along the levels. -/
section
namespace Go.Mk
variable (T : Int → Int → Int)
def sibs : List (List Int) → Nat → List Int
  | [], _ => []
  | l :: ls, i => (if sib i < l.length then [l.getD (sib i) 0] else []) ++ sibs ls (i / 2)
theorem sibs_levs : ∀ (n : Nat) (l : List Int) (i : Nat), l.length = n → i < n → sibs (levs T l) i = prov T l i := by
  intro n
  induction n using Nat.strongRecOn with
  | _ n ih =>
    intro l i hl hi
    by_cases h : n ≤ 1
    · obtain rfl : i = 0 := by omega
      rw [levs_short T l (by omega), prov_one T l 0 (by omega)]
      simp [sibs, sib]; omega
    · rw [levs_long T l (by omega), prov_pair T n l i hl (by omega) hi]
      simp only [sibs]
      rw [ih (pair T l).length (by rw [pair_length]; omega) (pair T l) (i / 2) rfl (by rw [pair_length]; omega), hl]
theorem sibs_drop (ls : List (List Int)) (k i : Nat) (h : k < ls.length) : sibs (ls.drop k) i = (if sib i < (ls.getD k []).length then [(ls.getD k []).getD (sib i) 0] else []) ++ sibs (ls.drop (k + 1)) (i / 2) := by
  rw [List.drop_eq_getElem_cons h]
  simp only [sibs]
  have e : ls.getD k [] = ls[k] := by rw [List.getD_eq_getElem?_getD, List.getElem?_eq_getElem h]; rfl
  rw [e]
theorem sibs_end (ls : List (List Int)) (k i : Nat) (h : ls.length ≤ k) : sibs (ls.drop k) i = [] := by
  rw [List.drop_eq_nil_of_le h]; rfl
end Go.Mk
end
/- merkle.Proof. -/
section
namespace Go.Proofs.Ytncnbfefciobcaa
open Go.ChangeShapes Go.WideShapes Go.ChangeAt Go.RowKit Go.Mem Go.Mk
set_option linter.unusedVariables false

def ProofPost (ls : List Int) (w : World) (e : Ending) (w' : World) : Prop := ∃ a cap, e = .returned (.tuple #[.slice a ls.length cap, .int .i64 0]) ∧ ls.length ≤ cap ∧ IntsAt .u64 w' a ls ∧ Below w.heap.size w w'

/-- the same, and the row's room is small -/
def ProofPostC (ls : List Int) (w : World) (e : Ending) (w' : World) : Prop := ∃ a cap, e = .returned (.tuple #[.slice a ls.length cap, .int .i64 0]) ∧ ls.length ≤ cap ∧ cap ≤ 9223372036854775807 ∧ IntsAt .u64 w' a ls ∧ Below w.heap.size w w'
theorem LevAt.cells {w : World} {g T c : Nat} {ls : List (List Int)} (h : LevAt w (.slice (some ⟨g, 0, none⟩) T c) ls) (j : Nat) (hj : j < T) : ∃ a c, w.cell? ⟨g, j, none⟩ = some (.slice a (ls.getD j []).length c) ∧ (ls.getD j []).length ≤ c ∧ IntsAt .u64 w a (ls.getD j []) := by
  obtain ⟨g2, c2, e2, _, hg2, hlv⟩ := h
  injection e2 with e2 e3 _
  injection e2 with e2
  injection e2 with e2
  subst e2
  exact hlv j (by omega)
theorem merkle_Proof_long (a : Option Addr) (n cap : Nat) (i : Int) (h : 4096 < n) (hn : n ≤ 17592186044416) (w : World) :
    Calls Try.prog 12 #[.slice a n cap, .int .i64 i] w fun e w' => e = .returned (.tuple #[.slice none 0 0, .int .i64 2]) ∧ w = w' := by
  go_enter Try.func12, Try.ntmps12
  go_wp2
  go_ret2
  exact ⟨rfl, rfl⟩
theorem merkle_Proof_out (a : Option Addr) (n cap : Nat) (i : Int) (h : n ≤ 4096) (hi : i < 0 ∨ n ≤ i) (w : World) :
    Calls Try.prog 12 #[.slice a n cap, .int .i64 i] w fun e w' => e = .returned (.tuple #[.slice none 0 0, .int .i64 4]) ∧ w = w' := by
  rcases (show i < 0 ∨ (0 ≤ i ∧ n ≤ i) by omega) with q | ⟨q, q2⟩
  all_goals
    clear hi
    go_enter Try.func12, Try.ntmps12
    go_wp2
    go_ret2
    exact ⟨rfl, rfl⟩

set_option maxHeartbeats 8000000 in
set_option maxRecDepth 100000 in
theorem merkle_ProofC (l : List Int) (a : Option Addr) (n cap i : Nat) (hn : l.length = n) (h2 : n ≤ 4096) (hi : i < n) (hu : U64s l) (w : World) (hin : IntsAt .u64 w a l) :
    Calls Try.prog 12 #[.slice a n cap, .int .i64 i] w (ProofPostC (prov tieI l i) w) := by
  obtain ⟨T, hT⟩ : ∃ T, (levs tieI l).length = T := ⟨_, rfl⟩
  have hp := sibs_levs tieI n l i hn hi
  obtain ⟨P, hP⟩ : ∃ P, P = prov tieI l i := ⟨_, rfl⟩
  rw [← hP] at hp ⊢
  have tb : T ≤ 4097 := by have := levs_length tieI n l hn; omega
  have b1 : decide (n ≤ i) = false := by simp; omega
  have cl := merkle_levels l a n cap hn (by omega) (by omega) hu w hin
  obtain ⟨LS, hLS⟩ : ∃ LS, LS = levs tieI l := ⟨_, rfl⟩
  rw [← hLS] at hp hT cl
  have HT := Lib.hid hT
  have HP := Lib.hid hp
  have CL := Lib.hid cl
  clear hT hp cl hu hin hn hP
  go_enter Try.func12, Try.ntmps12
  go_wp2_with fail
  refine CL.out.mono ?_
  rintro e w1 ⟨v, rfl, hlev, hb1⟩
  have hnil : w1.ownsRow w1.heap.size 31 1 (.slice none 0 0) 0 (vints .u64 []) := ⟨rfl, .inl ⟨rfl, rfl⟩⟩
  obtain ⟨g, c, rfl, hc, hg, hrow⟩ := hlev.rowN T HT.out
  have HNIL := Lib.hid hnil
  have HLEV := Lib.hid hlev
  clear hrow hlev hnil
  go_wp2
  go_loopg [1, 6, 8, 9, 24] T (fun gk vi vr _ _ vk wx => ∃ (k i2 D : Nat) (done : List Int), gk = T - k ∧ k ≤ T ∧ vi = .int .i64 i2 ∧ i2 ≤ i ∧ vk = .int .i64 k ∧ D = done.length ∧ D ≤ k ∧ done ++ sibs (LS.drop k) i2 = P ∧ wx.ownsRow w1.heap.size 31 1 vr D (vints .u64 done) ∧ Below w1.heap.size w1 wx)
  case atStart => exact ⟨0, i, 0, [], rfl, Nat.zero_le _, rfl, Nat.le_refl _, rfl, rfl, Nat.le_refl _, HP.out, HNIL.out, Below.refl _ _⟩
  case round =>
    clear HNIL
    obtain ⟨k, i2, D, done, hg', k1, rfl, ii, rfl, hD, Dk, hsb, hown, hbw⟩ := hrel
    have HG := Lib.hid hg'
    have HD := Lib.hid hD
    obtain ⟨ar, cr, rfl, hcr, hrow⟩ := own_slice2 hown
    have HO := Lib.hid hown
    by_cases hlt : k < T
    · obtain ⟨al, lc, hc1, hlc, hil⟩ := (HLEV.out.below hbw).cells k hlt
      rw [sibs_drop LS k i2 (by rw [HT.out]; exact hlt)] at hsb
      obtain ⟨L, hL⟩ : ∃ L, L = LS.getD k [] := ⟨_, rfl⟩
      rw [← hL] at hc1 hlc hil hsb
      obtain ⟨N, hN⟩ : ∃ N, L.length = N := ⟨_, rfl⟩
      rw [hN] at hc1 hlc hsb
      have hx := bits_sib i2 (by omega)
      obtain ⟨s, hs⟩ : ∃ s, s = sib i2 := ⟨_, rfl⟩
      have hsb2 : s ≤ i2 + 1 := by rw [hs]; unfold sib; split <;> omega
      rw [← hs] at hx hsb
      obtain ⟨i3, hi3⟩ : ∃ i3, i3 = i2 / 2 := ⟨_, rfl⟩
      rw [← hi3] at hsb
      have ei : (i2 : Int) / 2 = i3 := by omega
      have eb : i3 ≤ i := by omega
      by_cases q : s < N
      · obtain ⟨x, rfl, hx1, hx2⟩ := hil (by omega)
        have hcell := hx2 s (by omega)
        obtain ⟨z, hz⟩ : ∃ z, z = L.getD s 0 := ⟨_, rfl⟩
        rw [← hz] at hcell hsb
        rw [if_pos q, ← List.append_assoc] at hsb
        have HSB := Lib.hid hsb
        clear hx2 hz hsb hil hi3 hs hrow hown hD hg' hL hLS
        go_wp2_with (at_builtin; go_must (refine wpList_append_new rfl _ _ 34 rfl w1.heap.size 31 (.int .u64 0) 1 8 Try.underlying34 (by kernel_rfl) rfl (by decide) _ _ _ rfl HO.out _ _ rfl rfl rfl (by omega) (by decide) hbw.size ?_))
        intro g' cap' w' hown' hg hor hlt'
        have hbn : Below w1.heap.size w1 w' := hbw.grown hg hbw.size (fun j hj => (own_lt HO.out j hj).1)
        have HA1 := Lib.hid (show w'.ownsRow w1.heap.size 31 1 (.slice (some ⟨g', 0, none⟩) (D + 1) cap') (D + 1) (vints .u64 (done ++ [z])) by simpa [vints] using hown')
        clear hown' hg hor hbw
        go_wp2
        go_roundg (T - (k + 1))
        case measure => rw [HG.out]; omega
        case rel => exact ⟨k + 1, i3, D + 1, done ++ [z], rfl, by omega, rfl, by omega, rfl, by rw [List.length_append, ← HD.out]; rfl, by omega, HSB.out, HA1.out, hbn⟩
      · rw [if_neg q, List.nil_append] at hsb
        have HSB := Lib.hid hsb
        clear hsb hil hi3 hs hrow hown hD hg' hL hLS
        go_wp2
        go_roundg (T - (k + 1))
        case measure => rw [HG.out]; omega
        case rel => exact ⟨k + 1, i3, D, done, rfl, by omega, rfl, by omega, rfl, HD.out, by omega, HSB.out, HO.out, hbw⟩
    · rw [sibs_end LS k i2 (by rw [HT.out]; omega), List.append_nil] at hsb
      subst hsb
      clear hown
      go_wp2
      go_ret2
      have hcm : cr ≤ 9223372036854775807 := by
        rcases HO.out.2 with ⟨h, h0⟩ | ⟨g2, cap2, cur2, k1, k2, k3, k4, k5, _⟩
        · injection h with h1 h2 h3; omega
        · injection k1 with h1 h2 h3; rw [h3]; exact k5
      rw [HD.out] at hcr ⊢
      exact ⟨ar, cr, rfl, hcr, hcm, hrow, bt hb1 hbw⟩
theorem merkle_Proof (l : List Int) (a : Option Addr) (n cap i : Nat) (hn : l.length = n) (h2 : n ≤ 4096) (hi : i < n) (hu : U64s l) (w : World) (hin : IntsAt .u64 w a l) :
    Calls Try.prog 12 #[.slice a n cap, .int .i64 i] w (ProofPost (prov tieI l i) w) := by
  refine (merkle_ProofC l a n cap i hn h2 hi hu w hin).mono ?_
  rintro e w' ⟨a2, c2, rfl, h3, _, h4, h5⟩
  exact ⟨a2, c2, rfl, h3, h4, h5⟩
end Go.Proofs.Ytncnbfefciobcaa
end
