/- quat: sum, Back; the reference's four, quatOf, Turnless. -/
import Derived.Test.YtehpfkmaikbjkaaNum
import Derived.Test.YtehpfkmaikbjkaaMem2
import Derived.Test.YtehpfkmaikbjkaaOwn
import Derived.BigQuiet
import Derived.Deep.QuietTactic
import Derived.Deep.LoopGhost
import Derived.StillTailTactics
namespace Go.Proofs.Ytehpfkmaikbjkaa
open Go.ChangeShapes Go.WideShapes Go.ChangeAt Go.RowKit Go.Mem
set_option linter.unusedVariables false
/-- Numbers added one after the other. -/
def qsum (l : List Int) : Int := l.foldl (fun s n => lim (lim s + lim n)) 0
theorem qsum_snoc (l : List Int) (z : Int) : qsum (l ++ [z]) = lim (lim (qsum l) + lim z) := by simp [qsum, List.foldl_append]
theorem qsum_bd (l : List Int) : -1099511627776 ≤ qsum l ∧ qsum l ≤ 1099511627776 := by
  rcases List.eq_nil_or_concat l with rfl | ⟨s, z, rfl⟩
  · simp [qsum]
  · rw [List.concat_eq_append, qsum_snoc]; exact lim_bd _
theorem take_one {l : List Int} {k : Nat} (h : k < l.length) : l.take (k + 1) = l.take k ++ [l.getD k 0] := by
  rw [List.take_succ_eq_append_getElem h, List.getD_eq_getElem?_getD, List.getElem?_eq_getElem h]; rfl
theorem quat_sum (zs : List Int) (a : Option Addr) (n cap : Nat) (hl : zs.length = n) (hn : n ≤ 1000) (w : World) (hr : IntsAt .i64 w a zs) :
    Calls Try.prog 88 #[.slice a n cap] w fun e w' => e = .returned (.int .i64 (qsum zs)) ∧ w = w' := by
  have HL := Lib.hid hl
  have HR := Lib.hid hr
  clear hl hr
  go_enter Try.func88, Try.ntmps88
  go_wp2_with fail
  go_loop [3, 8] (fun vs vi => ∃ k : Nat, k ≤ n ∧ vi = .int .i64 k ∧ vs = .int .i64 (qsum (zs.take k))) (fun _ vi => n - (intOf vi).toNat)
  case atStart => exact ⟨0, Nat.zero_le _, rfl, rfl⟩
  case round =>
    obtain ⟨k, kn, rfl, rfl⟩ := hrel
    by_cases hlt : k < n
    · obtain ⟨x, rfl, hx, hc⟩ := HR.out (by rw [HL.out]; omega)
      have hc0 := hc k (by rw [HL.out]; exact hlt)
      have hs := qsum_snoc (zs.take k) (zs.getD k 0)
      rw [← take_one (by rw [HL.out]; exact hlt)] at hs
      obtain ⟨z, hz⟩ : ∃ z, z = zs.getD k 0 := ⟨_, rfl⟩
      rw [← hz] at hc0 hs
      obtain ⟨s, hse⟩ : ∃ s, s = qsum (zs.take k) := ⟨_, rfl⟩
      rw [← hse] at hs ⊢
      have HS := Lib.hid hs
      clear hc hs hz hse
      go_wp2_with (go_at_call 40; refine (fix_Add _ _ _).mono ?_; rintro e w' ⟨rfl, rfl⟩)
      go_round
      case rel => exact ⟨k + 1, hlt, by go_num, by rw [HS.out]⟩
      case measure => simp [intOf]; omega
    · obtain rfl : k = n := by omega
      have HT := Lib.hid (show zs.take k = zs from List.take_of_length_le (by rw [HL.out]; exact Nat.le_refl _))
      go_wp2
      go_ret
      exact ⟨ret_i (by first | rfl | rw [HT.out]), rfl⟩

/-- A row of four numbers. -/
def Four (t : TypeId) (w : World) (B : Nat) (a b c d : Int) : Prop := w.heap[B]? = some (.cells #[.int .i64 a, .int .i64 b, .int .i64 c, .int .i64 d] t (0, 0))
theorem Four.c0 {t : TypeId} {w : World} {B : Nat} {a b c d : Int} (h : Four t w B a b c d) : w.cell? ⟨B, 0, none⟩ = some (.int .i64 a) := by rw [cell_of_row w B 0 _ _ _ h]; rfl
theorem Four.c1 {t : TypeId} {w : World} {B : Nat} {a b c d : Int} (h : Four t w B a b c d) : w.cell? ⟨B, 1, none⟩ = some (.int .i64 b) := by rw [cell_of_row w B 1 _ _ _ h]; rfl
theorem Four.c2 {t : TypeId} {w : World} {B : Nat} {a b c d : Int} (h : Four t w B a b c d) : w.cell? ⟨B, 2, none⟩ = some (.int .i64 c) := by rw [cell_of_row w B 2 _ _ _ h]; rfl
theorem Four.c3 {t : TypeId} {w : World} {B : Nat} {a b c d : Int} (h : Four t w B a b c d) : w.cell? ⟨B, 3, none⟩ = some (.int .i64 d) := by rw [cell_of_row w B 3 _ _ _ h]; rfl
theorem Four.fr {t : TypeId} {w : World} {B : Nat} {a b c d : Int} (h : Four t w B a b c d) (i : Nat) : w.frozen? ⟨B, i, none⟩ = false := Mem.frozen_of_row h i
theorem Four.lt {t : TypeId} {w : World} {B : Nat} {a b c d : Int} (h : Four t w B a b c d) : B < w.heap.size := lt_of_heap h
theorem Four.mono {t : TypeId} {w w' : World} {B : Nat} {a b c d : Int} (h : Four t w B a b c d) (hb : Below w.heap.size w w') : Four t w' B a b c d := heap_below h hb
theorem Four.drewN {t : TypeId} {w : World} {B : Nat} {a b c d : Int} (h : Four t w B a b c d) (n : Nat) : Four t (w.drewN n) B a b c d := h
theorem four_new (t : TypeId) (w : World) (a b c d : Int) : Four t (w.alloc (.cells #[.int .i64 a, .int .i64 b, .int .i64 c, .int .i64 d] t)) w.heap.size a b c d := heap_alloc_new _ _
theorem four_new2 (t : TypeId) (w : World) (o : Obj) (a b c d : Int) : Four t ((w.alloc o).alloc (.cells #[.int .i64 a, .int .i64 b, .int .i64 c, .int .i64 d] t)) (w.heap.size + 1) a b c d := by
  have := four_new t (w.alloc o) a b c d
  rw [World.size_alloc] at this; exact this
theorem Four.alloc {t : TypeId} {w : World} {B : Nat} {a b c d : Int} (h : Four t w B a b c d) (o : Obj) : Four t (w.alloc o) B a b c d := (Below.heap_alloc _ _ _ h.lt).trans h
theorem Four.put {t : TypeId} {w : World} {B : Nat} {a b c d : Int} (h : Four t w B a b c d) (p q r s : Int) :
    Four t ((((w.setCell ⟨B, 0, none⟩ (.int .i64 p)).setCell ⟨B, 1, none⟩ (.int .i64 q)).setCell ⟨B, 2, none⟩ (.int .i64 r)).setCell ⟨B, 3, none⟩ (.int .i64 s)) B p q r s :=
  heap_set (heap_set (heap_set (heap_set h 0 _) 1 _) 2 _) 3 _
theorem put4_below {W w : World} {b B : Nat} (hb : Below b W w) (hB : b ≤ B) (p q r s : Value) : Below b W ((((w.setCell ⟨B, 0, none⟩ p).setCell ⟨B, 1, none⟩ q).setCell ⟨B, 2, none⟩ r).setCell ⟨B, 3, none⟩ s) :=
  (((hb.setCell hB _).setCell hB _).setCell hB _).setCell hB _
set_option maxRecDepth 100000 in
theorem ref_four (a b c d : Int) (w : World) : Calls Try.prog 89 #[.agg #[.int .i64 a, .int .i64 b, .int .i64 c, .int .i64 d]] w fun e w' => e = .returned (.agg #[.int .i64 a, .int .i64 b, .int .i64 c, .int .i64 d]) ∧ Below w.heap.size w w' := by
  go_enter Try.func89, Try.ntmps89
  go_wp2
  exact bodyPost_ret (v := .agg #[.int .i64 a, .int .i64 b, .int .i64 c, .int .i64 d]) (results_cell_row Try.results89 _ _ (w.heap.size + 1) _ #[.int .i64 a, .int .i64 b, .int .i64 c, .int .i64 d] _ _ rfl (four_new2 _ _ _ _ _ _ _) Try.underlying89 rfl (by kernel_rfl)) rfl ⟨rfl, ((Below.refl _ _).alloc (Nat.le_refl _) _).alloc (by simp) _⟩
set_option maxHeartbeats 1000000 in
set_option maxRecDepth 100000 in
theorem quat_Back (a b c d : Int) (w : World) : Calls Try.prog 55 #[.agg #[.int .i64 a, .int .i64 b, .int .i64 c, .int .i64 d]] w fun e w' => e = .returned (.agg #[.int .i64 (lim a), .int .i64 (-lim b), .int .i64 (-lim c), .int .i64 (-lim d)]) ∧ Below w.heap.size w w' := by
  have h1 := lim_bd a
  have h2 := lim_bd b
  have h3 := lim_bd c
  have h4 := lim_bd d
  go_enter Try.func55, Try.ntmps55
  go_wp2_with fail
  obtain ⟨W0, hW0⟩ : ∃ W0, W0 = (w.alloc (.cells #[.int .i64 a, .int .i64 b, .int .i64 c, .int .i64 d] 62)).alloc (.cells #[.int .i64 0, .int .i64 0, .int .i64 0, .int .i64 0] 62) := ⟨_, rfl⟩
  have f1 : Four 62 W0.drew w.heap.size a b c d := by rw [hW0]; exact (four_new _ w a b c d).alloc _
  have f2 : Four 62 W0.drew (w.heap.size + 1) 0 0 0 0 := by rw [hW0]; exact four_new2 _ w _ 0 0 0 0
  have hB : Below w.heap.size w W0.drew := by rw [hW0]; exact (((Below.refl _ _).alloc (Nat.le_refl _) _).alloc (by simp) _).drew
  rw [← hW0]
  clear hW0
  refine wp_region_still_tail 16 (by kernel_rfl) (by kernel_rfl) ?_
  simp only [List.take_succ_cons, List.take_zero, List.drop_succ_cons, List.drop_zero]
  change wpStill _ _ W0.drew (fun a' => wpList _ _ _ _ a' W0.drew) _ _
  generalize W0.drew = w2 at *
  have a0 := f1.c0
  have a1 := f1.c1
  have a2 := f1.c2
  have a3 := f1.c3
  have b0 := f2.c0
  have b1 := f2.c1
  have b2 := f2.c2
  have b3 := f2.c3
  have g0 := f2.fr 0
  have g1 := f2.fr 1
  have g2 := f2.fr 2
  have g3 := f2.fr 3
  have F2 := Lib.hid f2
  clear f1 f2
  repeat (first | still_step | (still_call ((fix_Clamp _ _).mono fun _ _ h => ⟨h.1, h.2.symm⟩)))
  refine wpStill_nil ?_
  go_wp2
  exact bodyPost_ret (v := .agg #[.int .i64 (lim a), .int .i64 (-lim b), .int .i64 (-lim c), .int .i64 (-lim d)]) (results_cell_row Try.results55 _ _ (w.heap.size + 1) _ #[.int .i64 (lim a), .int .i64 (-lim b), .int .i64 (-lim c), .int .i64 (-lim d)] _ _ rfl (F2.out.put _ _ _ _) Try.underlying62 rfl (by kernel_rfl)) rfl ⟨rfl, put4_below hB (by omega) _ _ _ _⟩
set_option maxHeartbeats 1000000 in
set_option maxRecDepth 100000 in
theorem ref_Turnless (a b c d : Int) (w : World) : Calls Try.prog 56 #[.agg #[.int .i64 a, .int .i64 b, .int .i64 c, .int .i64 d]] w fun e w' => e = .returned (.agg #[.int .i64 (lim a), .int .i64 (-lim b), .int .i64 (-lim c), .int .i64 (-lim d)]) ∧ Below w.heap.size w w' := by
  have h1 := lim_bd a
  have h2 := lim_bd b
  have h3 := lim_bd c
  have h4 := lim_bd d
  go_enter Try.func56, Try.ntmps56
  go_wp2_with fail
  obtain ⟨W0, hW0⟩ : ∃ W0, W0 = (w.alloc (.cells #[.int .i64 a, .int .i64 b, .int .i64 c, .int .i64 d] 62)).alloc (.cells #[.int .i64 0, .int .i64 0, .int .i64 0, .int .i64 0] 62) := ⟨_, rfl⟩
  have f1 : Four 62 W0.drew w.heap.size a b c d := by rw [hW0]; exact (four_new _ w a b c d).alloc _
  have f2 : Four 62 W0.drew (w.heap.size + 1) 0 0 0 0 := by rw [hW0]; exact four_new2 _ w _ 0 0 0 0
  have hB : Below w.heap.size w W0.drew := by rw [hW0]; exact (((Below.refl _ _).alloc (Nat.le_refl _) _).alloc (by simp) _).drew
  rw [← hW0]
  clear hW0
  refine wp_region_still_tail 16 (by kernel_rfl) (by kernel_rfl) ?_
  simp only [List.take_succ_cons, List.take_zero, List.drop_succ_cons, List.drop_zero]
  change wpStill _ _ W0.drew (fun a' => wpList _ _ _ _ a' W0.drew) _ _
  generalize W0.drew = w2 at *
  have a0 := f1.c0
  have a1 := f1.c1
  have a2 := f1.c2
  have a3 := f1.c3
  have b0 := f2.c0
  have b1 := f2.c1
  have b2 := f2.c2
  have b3 := f2.c3
  have g0 := f2.fr 0
  have g1 := f2.fr 1
  have g2 := f2.fr 2
  have g3 := f2.fr 3
  have F2 := Lib.hid f2
  clear f1 f2
  repeat (first | still_step | (still_call ((ref_Limit _ _).mono fun _ _ h => ⟨h.1, h.2.symm⟩)))
  refine wpStill_nil ?_
  go_wp2
  exact bodyPost_ret (v := .agg #[.int .i64 (lim a), .int .i64 (-lim b), .int .i64 (-lim c), .int .i64 (-lim d)]) (results_cell_row Try.results56 _ _ (w.heap.size + 1) _ #[.int .i64 (lim a), .int .i64 (-lim b), .int .i64 (-lim c), .int .i64 (-lim d)] _ _ rfl (F2.out.put _ _ _ _) Try.underlying62 rfl (by kernel_rfl)) rfl ⟨rfl, put4_below hB (by omega) _ _ _ _⟩
set_option maxHeartbeats 1000000 in
set_option maxRecDepth 100000 in
theorem ref_quatOf (zs : List Int) (g cap : Nat) (hl : zs.length = 4) (w : World) (hr : IntsAt .i64 w (some ⟨g, 0, none⟩) zs) : Calls Try.prog 90 #[.slice (some ⟨g, 0, none⟩) 4 cap] w fun e w' => e = .returned (.agg #[.int .i64 (zs.getD 0 0), .int .i64 (zs.getD 1 0), .int .i64 (zs.getD 2 0), .int .i64 (zs.getD 3 0)]) ∧ Below w.heap.size w w' := by
  obtain ⟨x, hx1, hx, hc⟩ := hr (by omega)
  obtain rfl : (⟨g, 0, none⟩ : Addr) = x := by injection hx1
  have c0 := hc 0 (by omega)
  have c1 := hc 1 (by omega)
  have c2 := hc 2 (by omega)
  have c3 := hc 3 (by omega)
  obtain ⟨p, hp⟩ : ∃ p, p = zs.getD 0 0 := ⟨_, rfl⟩
  obtain ⟨q, hq⟩ : ∃ p, p = zs.getD 1 0 := ⟨_, rfl⟩
  obtain ⟨r, hr⟩ : ∃ p, p = zs.getD 2 0 := ⟨_, rfl⟩
  obtain ⟨s, hs⟩ : ∃ p, p = zs.getD 3 0 := ⟨_, rfl⟩
  rw [← hp] at c0 ⊢
  rw [← hq] at c1 ⊢
  rw [← hr] at c2 ⊢
  rw [← hs] at c3 ⊢
  replace c0 : w.cell? ⟨g, 0, none⟩ = some (.int .i64 p) := c0
  replace c1 : w.cell? ⟨g, 1, none⟩ = some (.int .i64 q) := c1
  replace c2 : w.cell? ⟨g, 2, none⟩ = some (.int .i64 r) := c2
  replace c3 : w.cell? ⟨g, 3, none⟩ = some (.int .i64 s) := c3
  have lg := World.block_lt_of_cell? _ _ c0
  clear hc hp hq hr hs hl hx hx1
  go_enter Try.func90, Try.ntmps90
  go_wp2_with fail
  go_region
  go_wp2
  exact bodyPost_ret (v := .agg #[.int .i64 p, .int .i64 q, .int .i64 r, .int .i64 s]) (results_cell_row Try.results90 _ _ w.heap.size _ #[.int .i64 p, .int .i64 q, .int .i64 r, .int .i64 s] _ _ rfl (four_new 62 w p q r s) Try.underlying62 rfl (by kernel_rfl)) rfl ⟨rfl, ((Below.refl _ _).alloc (Nat.le_refl _) _).drew⟩
end Go.Proofs.Ytehpfkmaikbjkaa
