/- tourlaw1.queueBegun: the fact about package queue holds. -/
import Derived.Test.YtdhaaeaacbnghaaQStS
namespace Go.Proofs.Ytdhaaeaacbnghaa.Q
open Go.ChangeShapes Go.WideShapes Go.ChangeAt Go.RowKit Go.Mem Go.Qp Qstring
set_option linter.unusedVariables false
def sA : ByteArray := ⟨#[97]⟩
def sB : ByteArray := ⟨#[98]⟩
def two : List QItem := [] ++ [(⟨.string ⟨#[98]⟩, 2, 0⟩ : QItem)] ++ [⟨.string ⟨#[97]⟩, 1, 1⟩]
theorem two_tk : tk dI two two.length = 1 := by decide
set_option maxRecDepth 100000 in
theorem begun (w : World) : Calls Try.prog 81 #[] w fun e w' => e = .returned (.bool true) ∧ Below w.heap.size w w' := by
  obtain ⟨W0, hW0⟩ : ∃ W0, W0 = w.alloc (.cells #[.slice none 0 0, .int .i64 0] 134) := ⟨_, rfl⟩
  have hs0 := st_new w
  have hb0 : Below w.heap.size w W0 := by rw [hW0]; exact (Below.refl _ _).alloc (Nat.le_refl _) _
  have hz : w.heap.size ≤ W0.heap.size := hb0.size
  rw [← hW0] at hs0
  obtain ⟨D, hD⟩ : ∃ D, D = w.heap.size := ⟨_, rfl⟩
  rw [← hD] at hs0 hb0 hz ⊢
  have HS0 := Lib.hid hs0
  have HW0 := Lib.hid hW0
  have HD := Lib.hid hD
  clear hs0 hW0 hD
  go_enter Try.func81, Try.ntmps81
  go_wp2_with fail
  rw [← HW0.out, ← HD.out]
  refine (st_Put W0 D D 0 _ _ 2 [] [] (by decide) (by decide) hz HS0.out).mono ?_
  rintro e w1 ⟨rfl, v1, H1, s1, g1, o1⟩
  have b1 : Below D w w1 := hb0.trans (g1.below hz (fun k hk => by injection hk with hk; omega) (fun k hk => by cases hk))
  have HS1 := Lib.hid s1
  have O1 : Hid (∀ b, v1.ownBlock = some b → D ≤ b) := Lib.hid (fun b hb => (o1 b hb).elim (fun h => by cases h) (Nat.le_trans hz))
  have hz1 : D ≤ w1.heap.size := Nat.le_trans hz g1.size
  clear HS0 s1 g1 o1 hb0
  go_wp2_with fail
  refine (st_Put w1 D D 1 _ _ 1 H1 _ (by decide) (by decide) hz1 HS1.out).mono ?_
  rintro e w2 ⟨rfl, v2, H2, s2, g2, o2⟩
  have b2 : Below D w w2 := b1.trans (g2.below hz1 (fun k hk => by injection hk with hk; omega) (fun k hk => O1.out k hk))
  have O2 : Hid (∀ b, v2.ownBlock = some b → D ≤ b) := Lib.hid (fun b hb => (o2 b hb).elim (O1.out b) (Nat.le_trans hz1))
  have hz2 : D ≤ w2.heap.size := Nat.le_trans hz1 g2.size
  have HS2 : Hid (St w2 D D v2 H2 two 2) := Lib.hid s2
  clear HS1 s2 g2 o2 b1 O1
  have ct := st_Take w2 D D 2 v2 H2 two (by decide) (by decide) HS2.out
  unfold StTake at ct
  rw [two_tk, show (g dI two 1).v = Value.string ⟨#[97]⟩ from rfl, show (g dI two 1).r = 1 from rfl] at ct
  have CT := Lib.hid ct
  clear ct
  go_wp2_with fail
  refine CT.out.mono ?_
  rintro e w3 ⟨rfl, v3, H3, s3, g3, _⟩
  have b3 : Below D w w3 := b2.trans (g3.below hz2 (fun k hk => by injection hk with hk; omega) (fun k hk => O2.out k hk))
  have cl := st_Len w3 D D 2 v3 H3 _ s3
  rw [show (((delAt two 1).length : Nat) : Int) = 1 from rfl] at cl
  have CL := Lib.hid cl
  clear cl s3 g3 b2 O2 CT HS2
  go_wp2_with fail
  refine CL.out.mono ?_
  rintro e w4 ⟨rfl, rfl⟩
  go_wp2_with fail
  go_ret
  exact ⟨rfl, b3⟩
end Go.Proofs.Ytdhaaeaacbnghaa.Q
