/- Entities compared; slices.Equal of a list of entities with itself. -/
import Derived.Test.YtlahmcbaiebapaaSlotL
import Derived.BigQuiet
namespace Go.Proofs.Ytlahmcbaiebapaa
open Go.ChangeShapes Go.WideShapes Go.ChangeAt Go.RowKit Go.Mem Go.Sp Go.Slt
set_option linter.unusedVariables false
theorem ent_same (a b c d : Int) (w : World) : (Op.equalIn 10000 55 (.agg #[.int .i64 a, .int .i64 b]) (.agg #[.int .i64 c, .int .i64 d])).run Try.prog w = .ok (decide (a = c) && decide (b = d)) w := by
  have u3 := Try.underlying3
  have a3 := Try.isAgg3
  have z3 := Try.sizeOf3
  rw [show (10000 : Nat) = 9999 + 1 from rfl, Op.equalIn]
  simp only [Sem.run_bind, run_underlying Try.underlying55, Result.andThen_ok]
  go_simp
  by_cases h1 : a = c
  · by_cases h2 : b = d
    · subst h1 h2; simp
    · simp [h1, h2]
  · simp [h1]
theorem ent_neq (a b c d : Int) (w : World) : (binOp .neq 55 (.agg #[.int .i64 a, .int .i64 b]) (.agg #[.int .i64 c, .int .i64 d])).run Try.prog w = .ok (.bool (!(decide (a = c) && decide (b = d)))) w := by
  have h := ent_same a b c d
  simp [binOp, Op.equal, Op.maxDepth, h]
theorem ent_eql (a b c d : Int) (w : World) : (binOp .eql 55 (.agg #[.int .i64 a, .int .i64 b]) (.agg #[.int .i64 c, .int .i64 d])).run Try.prog w = .ok (.bool (decide (a = c) && decide (b = d))) w := by
  have h := ent_same a b c d
  simp [binOp, Op.equal, Op.maxDepth, h]
theorem ent_guard (o : BinOp) (x y : Operand) (u v : Array Value) (w : World) : (eqGuard o 55 x y (.agg u) (.agg v)).run Try.prog w = .ok () w := by
  have h : Try.prog.eqGuardType Try.prog.depth 55 = false := by kernel_rfl
  cases o <;> simp [eqGuard, h]

set_option maxRecDepth 100000 in
set_option maxHeartbeats 4000000 in
theorem eq_ents (a b : Option Addr) (ca cb n : Nat) (E : List (Int × Int)) (hn : E.length = n) (h1 : n ≤ 1048576) (w : World) (ha : EntsAt w a E) (hb : EntsAt w b E) :
    Calls Try.prog 41 #[.slice a n ca, .slice b n cb] w fun e w' => e = .returned (.bool true) ∧ Below w.heap.size w w' := by
  have hne : ((n : Int) != (n : Int)) = false := by simp
  have HN := Lib.hid hn
  have HA := Lib.hid ha
  have HB := Lib.hid hb
  have q1 := ent_neq
  have q2 := ent_guard
  clear hn ha hb
  go_enter Try.func41, Try.ntmps41
  go_wp2_with fail
  go_loopg [5, 13] n (fun gk _ vi wx => ∃ k : Nat, k ≤ n ∧ gk = n - k ∧ vi = .int .i64 k ∧ Below w.heap.size w wx)
  case atStart => exact ⟨0, by omega, rfl, rfl, Below.refl _ _⟩
  case round =>
    obtain ⟨k, g1, g2, rfl, hbw⟩ := hrel
    have G2 := Lib.hid g2
    clear g2
    by_cases hlt : k < n
    · obtain ⟨x, rfl, hx, hcx⟩ := HA.out (by rw [HN.out]; omega)
      obtain ⟨y, rfl, hy, hcy⟩ := HB.out (by rw [HN.out]; omega)
      obtain ⟨cx0, cx1⟩ := hcx k (by rw [HN.out]; exact hlt)
      obtain ⟨cy0, cy1⟩ := hcy k (by rw [HN.out]; exact hlt)
      obtain ⟨p, hp⟩ : ∃ p, p = (E.getD k (0, 0)).1 := ⟨_, rfl⟩
      obtain ⟨q, hq⟩ : ∃ q, q = (E.getD k (0, 0)).2 := ⟨_, rfl⟩
      rw [← hp] at cx0 cy0
      rw [← hq] at cx1 cy1
      have cx0 := (hbw.cell (by rw [block_of_add]; exact hx)).trans cx0
      have cx1 := (hbw.cell (by rw [block_of_add]; exact hx)).trans cx1
      have cy0 := (hbw.cell (by rw [block_of_add]; exact hy)).trans cy0
      have cy1 := (hbw.cell (by rw [block_of_add]; exact hy)).trans cy1
      rw [add_next] at cx1 cy1
      have i1 : (0 : Int) ≤ (k : Int) := by omega
      have i2 : (k : Int) < (n : Int) := by omega
      have r1 := q1 p q p q
      rw [show (!(decide (p = p) && decide (q = q))) = false by simp] at r1
      have r2 := q2 .neq
      clear hcx hcy hp hq q1 q2
      go_wp2_with fail
      go_quiet (fail)
      go_wp2_with fail
      go_roundg (n - (k + 1))
      case measure => rw [G2.out]; omega
      case rel => exact ⟨k + 1, by omega, rfl, by go_num, below_drewN hbw _⟩
    · obtain rfl : k = n := by omega
      go_wp2_with fail
      go_ret
      exact ⟨rfl, hbw⟩
end Go.Proofs.Ytlahmcbaiebapaa
