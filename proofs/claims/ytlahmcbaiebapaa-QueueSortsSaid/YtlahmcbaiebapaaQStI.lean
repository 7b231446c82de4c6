/- queue.Queue[int]: Put and Take, with the items in the order in which they came. -/
import Derived.Test.YtlahmcbaiebapaaQPutI
import Derived.Test.YtlahmcbaiebapaaQTakeI
namespace Go.Proofs.Ytlahmcbaiebapaa.Qint
open Go.ChangeShapes Go.WideShapes Go.ChangeAt Go.RowKit Go.Mem Go.Qp
set_option linter.unusedVariables false
/-- A queue, and the items in the order in which they came. -/
def St (w : World) (D q : Nat) (v : Value) (H M : List QItem) (n : Nat) : Prop := QU w D q v H n ∧ QI dI H M n
def StPut (w : World) (D q n : Nat) (v : Value) (M : List QItem) (x : QItem) (e : Ending) (w' : World) : Prop :=
  e = .returned (.int .i64 0) ∧ ∃ v' H2, St w' D q v' H2 (M ++ [x]) (n + 1) ∧ Gr2 w w' (some q) v.ownBlock ∧ (∀ b, v'.ownBlock = some b → v.ownBlock = some b ∨ w.heap.size ≤ b)
theorem st_Put (w : World) (D q n : Nat) (v : Value) (z : Int) (r : Int) (H M : List QItem) (hl : M.length < 4096) (hn : n < 4611686018427387904) (hD : D ≤ w.heap.size) (hw : St w D q v H M n) :
    Calls Try.prog 95 #[.pointer (some ⟨q, 0, none⟩), .int .i64 z, .int .i64 r] w (StPut w D q n v M ⟨.int .i64 z, r, n⟩) := by
  refine (q_Put w D q n v z r H (by rw [hw.2.len]; exact hl) hn hD hw.1 hw.2.heap).mono ?_
  rintro e w' ⟨he, v', H2, h1, h2, h3, h4, h5⟩
  exact ⟨he, v', H2, ⟨h1, put_perm dI hw.2 _ H2 h2 h3 rfl⟩, h4, h5⟩
def delAt (M : List QItem) (k : Nat) : List QItem := M.take k ++ M.drop (k + 1)
def StTake (w : World) (D q n : Nat) (v : Value) (M : List QItem) (e : Ending) (w' : World) : Prop :=
  e = .returned (.tuple #[(g dI M (tk dI M M.length)).v, .int .i64 (g dI M (tk dI M M.length)).r, .int .i64 0]) ∧ ∃ v' H2, St w' D q v' H2 (delAt M (tk dI M M.length)) n ∧ Gr2 w w' (some q) v.ownBlock ∧ (∀ b, v'.ownBlock = some b → v.ownBlock = some b ∨ w.heap.size ≤ b)
theorem st_Take (w : World) (D q n : Nat) (v : Value) (H M : List QItem) (hl : M.length ≤ 4096) (h0 : 0 < M.length) (hw : St w D q v H M n) :
    Calls Try.prog 97 #[.pointer (some ⟨q, 0, none⟩)] w (StTake w D q n v M) := by
  have h0' : 0 < H.length := by rw [hw.2.len]; exact h0
  refine (q_Take w D q n v H (by rw [hw.2.len]; exact hl) h0' hw.1 hw.2.heap).mono ?_
  rintro e w' ⟨he, v', H2, h1, h2, h3, h4, h5⟩
  rw [first_eq dI hw.2 h0'] at he
  exact ⟨he, v', H2, ⟨h1, take_perm dI hw.2 h0' H2 h2 h3⟩, h4, h5⟩
theorem st_Len (w : World) (D q n : Nat) (v : Value) (H M : List QItem) (hw : St w D q v H M n) :
    Calls Try.prog 96 #[.pointer (some ⟨q, 0, none⟩)] w fun e w' => e = .returned (.int .i64 M.length) ∧ w = w' := by
  have := q_Len w D q n v H hw.1
  rw [hw.2.len] at this
  exact this
/-- A queue begins empty. -/
theorem st_new (w : World) : St (w.alloc (.cells #[.slice none 0 0, .int .i64 0] 149)) w.heap.size w.heap.size (.slice none 0 0) [] [] 0 :=
  ⟨⟨heap_alloc_new w _, ⟨by simp [cellsQ], .inl ⟨rfl, rfl⟩⟩, Nat.le_refl _, fun x hx => by cases hx⟩, ⟨List.Perm.refl _, fun i _ hi => by simp at hi, List.Pairwise.nil, fun x hx => by cases hx⟩⟩
end Go.Proofs.Ytlahmcbaiebapaa.Qint
