/- The reference's Long: the floor of the root of a sum of squares. -/
import Derived.Test.YtehpfkmaikbjkaaPlus
import Derived.Test.YtehpfkmaikbjkaaMost
import Derived.Test.YtehpfkmaikbjkaaRoot
import Derived.Test.YtehpfkmaikbjkaaRegInv
import Derived.Test.YtehpfkmaikbjkaaMem2
import Derived.Shelf.Abstract
import Derived.Lib.MinMax
import Derived.Deep.LoopGhost
namespace Go.Proofs.Ytehpfkmaikbjkaa
open Go.ChangeShapes Go.WideShapes Go.ChangeAt Go.RowKit Go.Mem Go.Nb
set_option linter.unusedVariables false

/-- The sum of the squares. -/
def sumsq : List Int → Int
  | [] => 0
  | z :: r => sumsq r + z * z
theorem sq_bd (z c : Int) (h1 : -c ≤ z) (h2 : z ≤ c) : 0 ≤ z * z ∧ z * z ≤ c * c := by
  have e : z * z = (z.natAbs : Int) * z.natAbs := by
    rcases Int.natAbs_eq z with h | h
    · rw [← h]
    · conv => lhs; rw [h]
      rw [Int.neg_mul_neg]
  rw [e]
  have h3 : (z.natAbs : Int) ≤ c := by omega
  exact ⟨Int.mul_nonneg (by omega) (by omega), Int.mul_le_mul h3 h3 (by omega) (by omega)⟩
theorem sumsq_snoc (l : List Int) (z : Int) : sumsq (l ++ [z]) = sumsq l + z * z := by
  induction l with
  | nil => simp [sumsq]
  | cons a r ih => simp only [List.cons_append, sumsq, ih]; omega
theorem sumsq_bd : ∀ l : List Int, (∀ z ∈ l, -1099511627776 ≤ z ∧ z ≤ 1099511627776) → 0 ≤ sumsq l ∧ sumsq l ≤ l.length * 1208925819614629174706176
  | [], _ => by simp [sumsq]
  | z :: r, h => by
    have h1 := sumsq_bd r (fun x hx => h x (by simp [hx]))
    have h2 := sq_bd z 1099511627776 (h z (by simp)).1 (h z (by simp)).2
    simp only [sumsq, List.length_cons]
    omega
/-- The floor of the length of some numbers. -/
def long (l : List Int) : Int := (rt (sumsq l).toNat : Nat)
theorem long_bd (l : List Int) (h : ∀ z ∈ l, -1099511627776 ≤ z ∧ z ≤ 1099511627776) (hl : l.length ≤ 4) : 0 ≤ long l ∧ long l ≤ 2199023255552 := by
  have h1 := sumsq_bd l h
  unfold long
  obtain ⟨s1, s2⟩ := rt_spec (sumsq l).toNat
  refine ⟨by omega, ?_⟩
  have h2 : (sumsq l).toNat < 2199023255553 * 2199023255553 := by omega
  have := sq_lt (Nat.lt_of_le_of_lt s1 h2)
  omega

theorem pw8 : pw 8 = 1329227995784915872903807060280344576 := by decide +kernel
theorem nat_len8 {w : World} {ao : Option Addr} {len : Nat} {n : Int} (h : NatS w ao len n) (hn : n < 1329227995784915872903807060280344576) : len ≤ 8 := h.len_le 8 (by rw [pw8]; exact hn)
def NatM (w : World) (v : Value) (n : Int) : Prop := ∃ ao len cap, v = .slice ao len cap ∧ len ≤ cap ∧ NatS w ao len n
theorem NatM.mono {w w' : World} {v : Value} {n : Int} (h : NatM w v n) (hb : Below w.heap.size w w') : NatM w' v n := by
  obtain ⟨ao, len, cap, h1, h2, h3⟩ := h
  exact ⟨ao, len, cap, h1, h2, h3.mono hb⟩
/-- A variable with a natural number. -/
def VarM (w : World) (B : Nat) (n : Int) : Prop := ∃ v, w.heap[B]? = some (.cells #[v] 77 (0, 0)) ∧ NatM w v n
theorem VarM.mono {w w' : World} {B : Nat} {n : Int} (h : VarM w B n) (hb : Below w.heap.size w w') : VarM w' B n := by
  obtain ⟨v, h1, h2⟩ := h
  exact ⟨v, (hb.block B (lt_of_heap h1)).trans h1, h2.mono hb⟩
theorem NatM.put {w w2 : World} {u : Value} {n : Int} {X : Nat} {v : Value} {o : Value} (h : NatM w u n) (p : Put w w2 X 77 v) (hX : w.heap[X]? = some (.cells #[o] 77 (0, 0))) (ho : ∃ a l c, o = .slice a l c) : NatM w2 u n := by
  obtain ⟨ao, len, cap, e1, e2, zs, h1, h2, h3, h4, h5⟩ := h
  refine ⟨ao, len, cap, e1, e2, zs, h1, h2, h3, h4, ?_⟩
  rcases h5 with h5 | ⟨g, k1, k2, k3⟩
  · exact Or.inl h5
  · by_cases h0 : zs = []
    · exact Or.inl h0
    · have hg : g ≠ X := by
        intro e
        obtain ⟨a, l, c, rfl⟩ := ho
        have := k3 0 (List.length_pos_iff.2 h0)
        rw [e, cell_of_row w X 0 _ _ _ hX] at this
        simp at this
      refine Or.inr ⟨g, k1, by rw [p.size]; exact k2, fun j hj => ?_⟩
      exact (World.cell?_of_block (p.else_ g hg)).trans (k3 j hj)

/-- What the operations of 'sum = plus(sum, times(natOf(n), natOf(n)))' yield. -/
def FL (S n : Int) : Nat → Value → World → Prop
  | 0, v, w => NatM w v S
  | 1, v, _ => v = .int .i64 n
  | 2, v, w => NatM w v n
  | 3, v, _ => v = .int .i64 n
  | 4, v, w => NatM w v n
  | 5, v, w => NatM w v (n * n)
  | 6, v, w => NatM w v (S + n * n)
  | _, _, _ => True
theorem FL_mono (S n : Int) : Facts (FL S n) := ⟨by
  intro j v w w' h hb
  unfold FL at *
  split at h
  all_goals first | exact h | exact NatM.mono h hb | trivial⟩
/-- What the operations of the closure yield. -/
def FM (S n : Int) : Nat → Value → World → Prop
  | 0, v, _ => v = .int .i64 n
  | 1, v, w => NatM w v n
  | 2, v, _ => v = .int .i64 n
  | 3, v, w => NatM w v n
  | 4, v, w => NatM w v (n * n)
  | 5, v, w => NatM w v S
  | 6, v, _ => v = .bool (decide (n * n ≤ S))
  | _, _, _ => True
theorem FM_mono (S n : Int) : Facts (FM S n) := ⟨by
  intro j v w w' h hb
  unfold FM at *
  split at h
  all_goals first | exact h | exact NatM.mono h hb | trivial⟩
theorem l_8 {vs : List Value} (h : vs.length = 8) : ∃ a0 a1 a2 a3 a4 a5 a6 a7, vs = [a0, a1, a2, a3, a4, a5, a6, a7] := by
  match vs, h with
  | [a0, a1, a2, a3, a4, a5, a6, a7], _ => exact ⟨a0, a1, a2, a3, a4, a5, a6, a7, rfl⟩

set_option maxHeartbeats 2000000 in
theorem ref_Long1 (n S : Int) (B : Nat) (w : World) (h0 : 0 ≤ n) (h1 : n ≤ 4398046511104) (hv : VarM w B S) (hS : S ≤ 9671406556917033397649408) :
    Calls Try.prog 74 #[.int .i64 n, .pointer (some ⟨B, 0, none⟩)] w fun e w' => e = .returned (.bool (decide (n * n ≤ S))) ∧ Below w.heap.size w w' := by
  obtain ⟨u, hb0, hu⟩ := hv
  have eN := enters_of Try.func73 (by kernel_rfl) rfl
  have eT := enters_of Try.func72 (by kernel_rfl) rfl
  have eA := enters_of Try.func75 (by kernel_rfl) rfl
  have hnn := sq_bd n 4398046511104 (by omega) h1
  have hmx : max n 0 = n := by omega
  go_enter Try.func74, Try.ntmps74
  go_wp2_with fail
  refine wp_region_facts rfl 7 (by kernel_rfl) (FM S n) (FM_mono S n) ?_ ?_
  · refine ⟨?_, ?_, ?_, ?_, ?_, ?_, ?_, trivial⟩
    · intro vs w' F hb hd hF hl
      exact one_move _ rfl (Or.inl rfl) ⟨_, rfl, Below.refl _ _, (hF 0).trans (look_out _ 0 _ _ (by kernel_rfl))⟩
    · intro vs w' F hb hd hF hl
      have h := dep_of hd 0 (by kernel_rfl)
      obtain ⟨v0, v1, v2, v3, v4, v5, v6, v7, rfl⟩ := l_8 hl
      refine one_call _ _ rfl rfl eN #[.int .i64 n] (eval1 ((hF 4).trans h)) ?_
      refine (ref_natOf _ (by omega) _).mono ?_
      rintro e w2 ⟨ao, al, ac, rfl, g1, g2, g3⟩
      rw [hmx] at g2
      exact ⟨_, rfl, _, rfl, g3, ao, al, ac, rfl, g1, g2⟩
    · intro vs w' F hb hd hF hl
      exact one_move _ rfl (Or.inl rfl) ⟨_, rfl, Below.refl _ _, (hF 0).trans (look_out _ 0 _ _ (by kernel_rfl))⟩
    · intro vs w' F hb hd hF hl
      have h := dep_of hd 2 (by kernel_rfl)
      obtain ⟨v0, v1, v2, v3, v4, v5, v6, v7, rfl⟩ := l_8 hl
      refine one_call _ _ rfl rfl eN #[.int .i64 n] (eval1 ((hF 6).trans h)) ?_
      refine (ref_natOf _ (by omega) _).mono ?_
      rintro e w2 ⟨ao, al, ac, rfl, g1, g2, g3⟩
      rw [hmx] at g2
      exact ⟨_, rfl, _, rfl, g3, ao, al, ac, rfl, g1, g2⟩
    · intro vs w' F hb hd hF hl
      have ha := dep_of hd 1 (by kernel_rfl)
      have hb2 := dep_of hd 3 (by kernel_rfl)
      obtain ⟨v0, v1, v2, v3, v4, v5, v6, v7, rfl⟩ := l_8 hl
      obtain ⟨ao, al, ac, he1, he2, he3⟩ := ha
      obtain ⟨bo, bl, bc, hf1, hf2, hf3⟩ := hb2
      refine one_call _ _ rfl rfl eT #[.slice ao al ac, .slice bo bl bc] (eval2 ((hF 5).trans he1) ((hF 7).trans hf1)) ?_
      refine (ref_times _ _ _ _ _ _ _ _ _ he3 hf3 he2 hf2 (by have := nat_len8 he3 (by omega); omega) (by have := nat_len8 hf3 (by omega); omega)).mono ?_
      rintro e w2 ⟨co, cl, cc, rfl, g1, g2, g3⟩
      exact ⟨_, rfl, _, rfl, g3, co, cl, cc, rfl, g1, g2⟩
    · intro vs w' F hb hd hF hl
      exact one_load _ _ rfl rfl ⟨B, 0, none⟩ _ ((hF 1).trans (look_out _ 1 _ _ (by kernel_rfl))) (cell_of_row w' B 0 _ _ _ ((hb.block B (lt_of_heap hb0)).trans hb0)) (by kernel_rfl) ⟨_, rfl, Below.refl _ _, hu.mono hb⟩
    · intro vs w' F hb hd hF hl
      have ha := dep_of hd 4 (by kernel_rfl)
      have hb2 := dep_of hd 5 (by kernel_rfl)
      obtain ⟨v0, v1, v2, v3, v4, v5, v6, v7, rfl⟩ := l_8 hl
      obtain ⟨ao, al, ac, he1, he2, he3⟩ := ha
      obtain ⟨bo, bl, bc, hf1, hf2, hf3⟩ := hb2
      refine one_call _ _ rfl rfl eA #[.slice ao al ac, .slice bo bl bc] (eval2 ((hF 8).trans he1) ((hF 9).trans hf1)) ?_
      refine (ref_atMost _ _ _ _ _ _ _ _ _ he3 hf3 he2 hf2 (by have := nat_len8 he3 (by omega); omega) (by have := nat_len8 hf3 (by omega); omega)).mono ?_
      rintro e w2 ⟨rfl, g3⟩
      exact ⟨_, rfl, _, rfl, g3, rfl⟩
  · intro vs w' hl hb hI
    have h6 := hI 6 (by omega)
    obtain ⟨v0, v1, v2, v3, v4, v5, v6, v7, rfl⟩ := l_8 hl
    replace h6 : v6 = .bool (decide (n * n ≤ S)) := h6
    subst h6
    clear hI
    simp only [fillAll]
    go_wp2
    go_ret
    exact ⟨rfl, hb⟩

theorem sumsq_take (zs : List Int) (k : Nat) (h : k < zs.length) : sumsq (zs.take (k + 1)) = sumsq (zs.take k) + zs.getD k 0 * zs.getD k 0 := by
  rw [List.take_succ_eq_append_getElem h, sumsq_snoc, List.getD_eq_getElem?_getD, List.getElem?_eq_getElem h]; rfl
theorem long_of {zs : List Int} {r : Int} (hb : 0 ≤ sumsq zs ∧ sumsq zs ≤ 4835703278458516698824704) (h0 : 0 ≤ r) (h1 : r ≤ 4398046511104) (hyes : r = 0 ∨ decide (r * r ≤ sumsq zs) = true) (hno : 4398046511104 < r + 1 ∨ decide ((r + 1) * (r + 1) ≤ sumsq zs) = false) : r = long zs := by
  obtain ⟨r, rfl⟩ := Int.eq_ofNat_of_zero_le h0
  unfold long
  have e1 : (r : Int) * r = ((r * r : Nat) : Int) := by rw [Int.natCast_mul]
  have e2 : ((r : Int) + 1) * ((r : Int) + 1) = (((r + 1) * (r + 1) : Nat) : Int) := by rw [Int.natCast_mul]; rfl
  have q1 : r * r ≤ (sumsq zs).toNat := by
    rcases hyes with h | h
    · have : r = 0 := by omega
      subst this; omega
    · simp only [decide_eq_true_eq] at h
      rw [e1] at h; omega
  have q2 : (sumsq zs).toNat < (r + 1) * (r + 1) := by
    rcases hno with h | h
    · have : 4398046511104 * 4398046511104 ≤ r * r := Nat.mul_le_mul (by omega) (by omega)
      omega
    · simp only [decide_eq_false_iff_not] at h
      rw [e2] at h; omega
  rw [rt_unique _ r q1 q2]

set_option maxHeartbeats 4000000 in
set_option maxRecDepth 100000 in
theorem ref_Long (zs : List Int) (a : Option Addr) (n cap : Nat) (hl : zs.length = n) (hn : n ≤ 4) (hz : ∀ z ∈ zs, -1099511627776 ≤ z ∧ z ≤ 1099511627776) (w : World) (hr : IntsAt .i64 w a zs) :
    Calls Try.prog 28 #[.slice a n cap] w fun e w' => e = .returned (.int .i64 (long zs)) ∧ Below w.heap.size w w' := by
  have HL := Lib.hid hl
  have HZ := Lib.hid hz
  have HR := Lib.hid hr
  have HE := Lib.hid (enters_of Try.func74 (by kernel_rfl) rfl : ∀ args w, (callFunc 74 args).run Try.prog w = .ok (.enter 74 args) w)
  have eN := enters_of Try.func73 (by kernel_rfl) rfl
  have eT := enters_of Try.func72 (by kernel_rfl) rfl
  have eP := enters_of Try.func71 (by kernel_rfl) rfl
  have EN := Lib.hid eN
  have ET := Lib.hid eT
  have EP := Lib.hid eP
  clear hl hz hr eN eT eP
  go_enter Try.func28, Try.ntmps28
  go_wp2_with fail
  have hv0 : VarM (w.alloc (.cells #[.slice none 0 0] 77)) w.heap.size 0 := ⟨_, heap_alloc_new w _, none, 0, 0, rfl, Nat.le_refl _, [], rfl, rfl, Digs.nil, Or.inl rfl, Or.inl rfl⟩
  have HV0 := Lib.hid hv0
  have hb0 : Below w.heap.size w (w.alloc (.cells #[.slice none 0 0] 77)) := (Below.refl _ _).alloc (Nat.le_refl _) _
  clear hv0
  go_loopg [8] n (fun gk vi wx => ∃ k : Nat, k ≤ n ∧ gk = n - k ∧ vi = .int .i64 k ∧ VarM wx w.heap.size (sumsq (zs.take k)) ∧ Below w.heap.size w wx)
  case atStart => exact ⟨0, Nat.zero_le _, rfl, rfl, HV0.out, hb0⟩
  case round =>
    obtain ⟨k, kn, g2, rfl, hv, hb⟩ := hrel
    have G2 := Lib.hid g2
    clear g2 HV0 hb0
    by_cases hlt : k < n
    · obtain ⟨x, rfl, hx, hc⟩ := (HR.out.below hb) (by rw [HL.out]; omega)
      have hc0 := hc k (by rw [HL.out]; exact hlt)
      have hzk := HZ.out (zs.getD k 0) (by
        rw [List.getD_eq_getElem?_getD, List.getElem?_eq_getElem (by rw [HL.out]; exact hlt)]
        exact List.getElem_mem _)
      have hs1 := sumsq_take zs k (by rw [HL.out]; exact hlt)
      obtain ⟨z, hze⟩ : ∃ z, z = zs.getD k 0 := ⟨_, rfl⟩
      rw [← hze] at hc0 hzk hs1
      obtain ⟨y, hy⟩ : ∃ y, y = max z (-z) := ⟨_, rfl⟩
      have hmx : max z (-z) = y := hy.symm
      have hyb : 0 ≤ y ∧ y ≤ 1099511627776 := by omega
      have hyy : y * y = z * z := by
        rcases Int.le_total 0 z with h | h
        · rw [show y = z by omega]
        · rw [show y = -z by omega, Int.neg_mul_neg]
      have hyy2 := sq_bd y 1099511627776 (by omega) hyb.2
      rw [← hyy] at hs1
      have hsb := sumsq_bd (zs.take k) (fun q hq => HZ.out q (List.mem_of_mem_take hq))
      have hsl : (zs.take k).length ≤ 4 := by rw [List.length_take]; omega
      obtain ⟨S, hS⟩ : ∃ S, S = sumsq (zs.take k) := ⟨_, rfl⟩
      rw [← hS] at hv hs1 hsb
      have hsb2 : 0 ≤ S ∧ S ≤ 4835703278458516698824704 := by omega
      have hm1 : max y 0 = y := by omega
      have HS1 := Lib.hid hs1
      have HM1 := Lib.hid hm1
      obtain ⟨u, hb1, hu⟩ := hv
      have HB1 := Lib.hid hb1
      have HU := Lib.hid hu
      clear hc hze hy hyy hs1 hsb hsl hS hb1 hu hm1
      go_wp2_with fail
      refine wp_region_facts rfl 7 (by kernel_rfl) (FL S y) (FL_mono S y) ?_ ?_
      · refine ⟨?_, ?_, ?_, ?_, ?_, ?_, ?_, trivial⟩
        · intro vs w' F hb2 hd hF hl
          exact one_load _ _ rfl rfl ⟨w.heap.size, 0, none⟩ _ ((hF 3).trans (look_out _ 3 _ _ (by kernel_rfl))) (cell_of_row w' w.heap.size 0 _ _ _ ((hb2.block _ (lt_of_heap HB1.out)).trans HB1.out)) (by kernel_rfl) ⟨_, rfl, Below.refl _ _, HU.out.mono hb2⟩
        · intro vs w' F hb2 hd hF hl
          exact one_move _ rfl (Or.inl rfl) ⟨_, rfl, Below.refl _ _, (hF 5).trans (look_out _ 5 _ _ (by kernel_rfl))⟩
        · intro vs w' F hb2 hd hF hl
          have h := dep_of hd 1 (by kernel_rfl)
          obtain ⟨v0, v1, v2, v3, v4, v5, v6, v7, rfl⟩ := l_8 hl
          refine one_call _ _ rfl rfl EN.out #[.int .i64 y] (eval1 ((hF 17).trans h)) ?_
          refine (ref_natOf _ (by omega) _).mono ?_
          rintro e w2 ⟨ao, al, ac, rfl, g1, g2, g3⟩
          rw [HM1.out] at g2
          exact ⟨_, rfl, _, rfl, g3, ao, al, ac, rfl, g1, g2⟩
        · intro vs w' F hb2 hd hF hl
          exact one_move _ rfl (Or.inl rfl) ⟨_, rfl, Below.refl _ _, (hF 5).trans (look_out _ 5 _ _ (by kernel_rfl))⟩
        · intro vs w' F hb2 hd hF hl
          have h := dep_of hd 3 (by kernel_rfl)
          obtain ⟨v0, v1, v2, v3, v4, v5, v6, v7, rfl⟩ := l_8 hl
          refine one_call _ _ rfl rfl EN.out #[.int .i64 y] (eval1 ((hF 19).trans h)) ?_
          refine (ref_natOf _ (by omega) _).mono ?_
          rintro e w2 ⟨ao, al, ac, rfl, g1, g2, g3⟩
          rw [HM1.out] at g2
          exact ⟨_, rfl, _, rfl, g3, ao, al, ac, rfl, g1, g2⟩
        · intro vs w' F hb2 hd hF hl
          have ha := dep_of hd 2 (by kernel_rfl)
          have hb3 := dep_of hd 4 (by kernel_rfl)
          obtain ⟨v0, v1, v2, v3, v4, v5, v6, v7, rfl⟩ := l_8 hl
          obtain ⟨ao, al, ac, he1, he2, he3⟩ := ha
          obtain ⟨bo, bl, bc, hf1, hf2, hf3⟩ := hb3
          refine one_call _ _ rfl rfl ET.out #[.slice ao al ac, .slice bo bl bc] (eval2 ((hF 18).trans he1) ((hF 20).trans hf1)) ?_
          refine (ref_times _ _ _ _ _ _ _ _ _ he3 hf3 he2 hf2 (by have := nat_len8 he3 (by omega); omega) (by have := nat_len8 hf3 (by omega); omega)).mono ?_
          rintro e w2 ⟨co, cl, cc, rfl, g1, g2, g3⟩
          exact ⟨_, rfl, _, rfl, g3, co, cl, cc, rfl, g1, g2⟩
        · intro vs w' F hb2 hd hF hl
          have ha := dep_of hd 0 (by kernel_rfl)
          have hb3 := dep_of hd 5 (by kernel_rfl)
          obtain ⟨v0, v1, v2, v3, v4, v5, v6, v7, rfl⟩ := l_8 hl
          obtain ⟨ao, al, ac, he1, he2, he3⟩ := ha
          obtain ⟨bo, bl, bc, hf1, hf2, hf3⟩ := hb3
          refine one_call _ _ rfl rfl EP.out #[.slice ao al ac, .slice bo bl bc] (eval2 ((hF 16).trans he1) ((hF 21).trans hf1)) ?_
          refine (ref_plus _ _ _ _ _ _ _ _ _ he3 hf3 he2 hf2 (by have := nat_len8 he3 (by omega); omega) (by have := nat_len8 hf3 (by omega); omega)).mono ?_
          rintro e w2 ⟨co, cl, cc, rfl, g1, g2, g3⟩
          exact ⟨_, rfl, _, rfl, g3, co, cl, cc, rfl, g1, g2⟩
      · intro vs w' hl hb2 hI
        have h6 := hI 6 (by omega)
        obtain ⟨v0, v1, v2, v3, v4, v5, v6, v7, rfl⟩ := l_8 hl
        obtain ⟨co, cl, cc, h6, g1, g2⟩ := h6
        have hB1' := (hb2.block _ (lt_of_heap HB1.out)).trans HB1.out
        have hus : ∃ a l c, u = Value.slice a l c := by obtain ⟨a, l, c, h, _⟩ := HU.out; exact ⟨a, l, c, h⟩
        refine wpList_store_var rfl _ _ _ rfl w.heap.size _ ((eval_fill _ 3 _ _).trans (look_out _ 3 _ _ (by kernel_rfl))) ((eval_fill _ 22 _ _).trans h6) rfl rfl _ _ hB1' (by kernel_rfl) ?_
        intro W7 p
        have hbw7 : Below w.heap.size w W7 := hb.trans ((hb2.mono hb.size).trans (p.below (Nat.le_refl _)))
        have hv7 : VarM W7 w.heap.size (S + y * y) := ⟨_, p.here, NatM.put ⟨co, cl, cc, rfl, g1, g2⟩ p hB1' hus⟩
        have HV7 := Lib.hid hv7
        clear hv7 p hI g1 g2 hB1' hus hb hb2
        simp only [fillAll]
        go_wp2
        go_roundg (n - (k + 1))
        case measure => rw [G2.out]; omega
        case rel => exact ⟨k + 1, hlt, rfl, by go_num, by rw [HS1.out]; exact HV7.out, hbw7⟩
    · obtain rfl : k = n := by omega
      have htk : zs.take k = zs := List.take_of_length_le (by rw [HL.out]; exact Nat.le_refl _)
      rw [htk] at hv
      have hsb := sumsq_bd zs HZ.out
      have hsb2 : 0 ≤ sumsq zs ∧ sumsq zs ≤ 4835703278458516698824704 := by rw [HL.out] at hsb; omega
      have HSB := Lib.hid hsb2
      have HV := Lib.hid hv
      have hm := fun W (hbw : Below wr.heap.size wr W) => ref_most 74 #[.pointer (some ⟨w.heap.size, 0, none⟩)] (fun r => decide (r * r ≤ sumsq zs)) 4398046511104 W (by omega) (by omega) HE.out
        (fun r w1 h0 h1 hb1 => ref_Long1 r (sumsq zs) w.heap.size w1 h0 h1 ((HV.out.mono hbw).mono hb1) (by have := HSB.out; omega))
      have HM := Lib.hid hm
      clear htk hv hsb hsb2 hm
      go_wp2_with fail
      refine (HM.out _ (Below.refl _ _)).mono ?_
      rintro e w2 ⟨r, rfl, h0, h1, hyes, hno, hb1⟩
      have HR2 := Lib.hid (long_of HSB.out h0 h1 hyes hno)
      clear hyes hno h0 h1
      go_wp2
      go_ret
      exact ⟨ret_i HR2.out, bt hb hb1⟩
end Go.Proofs.Ytehpfkmaikbjkaa
