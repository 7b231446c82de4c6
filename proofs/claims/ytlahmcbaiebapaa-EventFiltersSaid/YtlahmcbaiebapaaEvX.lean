/- What the law's last two loops read. -/
import Derived.Test.YtlahmcbaiebapaaEvK
import Derived.Test.YtlahmcbaiebapaaEvH
import Derived.Test.YtlahmcbaiebapaaRegLk
namespace Go.Proofs.Ytlahmcbaiebapaa
open Go.ChangeShapes Go.WideShapes Go.ChangeAt Go.RowKit Go.Mem Go.Slt Go.Maps
set_option linter.unusedVariables false
theorem ct_cells {w : World} {x : Addr} {l : List (Int × Int)} (h : SlAt 2 CtAt w (some x) l) (i : Nat) (hi : i < l.length) : ∃ xb xo, x = ⟨xb, xo, none⟩ ∧ CellsK w xb (xo + i * 2) [.int .i64 l[i].1, .int .i64 l[i].2] := by
  obtain ⟨y, hy, hb, hc⟩ := h (by omega)
  injection hy with hy
  subst hy
  obtain ⟨xb, xo, sp⟩ := x
  have hsp : sp = none := by
    obtain ⟨f0, _⟩ := hc 0 (by omega)
    simpa [Addr.add] using World.cell?_spot f0
  obtain ⟨e0, e1⟩ := hc i hi
  subst hsp
  rw [Addr.add_lit] at e0 e1
  refine ⟨xb, xo, rfl, fun j v hv => ?_⟩
  match j with
  | 0 => cases hv; exact e0
  | 1 => cases hv; exact e1
  | j + 2 => simp at hv
theorem ctsOf_wf (l : List EvV) (hw : ∀ y ∈ l, EvWf y) : ∀ k, k ≤ l.length → ∀ y ∈ ctsOf (l.take k), (Lit.int .i64 y.1).wf = true
  | 0, _ => fun y hy => (by simp [ctsOf] at hy)
  | k + 1, h => by
    intro y hy
    rw [ctsOf_succ l k (by omega)] at hy
    rcases ctAdd_mem hy with e | hy
    · rw [e]; exact (hw _ (List.getElem_mem _)).1
    · exact ctsOf_wf l hw k (by omega) y hy
theorem ctsOf_wfA (l : List EvV) (hw : ∀ y ∈ l, EvWf y) : ∀ y ∈ ctsOf l, (Lit.int .i64 y.1).wf = true := fun y hy => ctsOf_wf l hw l.length (Nat.le_refl _) y (by rw [List.take_length]; exact hy)
theorem evsOf_wfA (l : List EvV) (hw : ∀ y ∈ l, EvWf y) : ∀ y ∈ evsOf l, EvWf y := fun y hy => evsOf_wf l hw l.length (Nat.le_refl _) y (by rw [List.take_length]; exact hy)
theorem ctsOf_lt (l : List EvV) (i : Nat) (h : i + 1 < (ctsOf l).length) : ((ctsOf l)[i]).1 < ((ctsOf l)[i + 1]).1 := by
  have h1 := (ctsOf_ok l l.length (Nat.le_refl _)).1
  rw [List.take_length] at h1
  exact List.pairwise_iff_getElem.1 h1 i (i + 1) (by omega) h (by omega)
theorem evsOf_lt (l : List EvV) (i : Nat) (h : i + 1 < (evsOf l).length) : ordE ((evsOf l)[i]) ((evsOf l)[i + 1]) < 0 := by
  have h1 := (evsOf_ok l l.length (Nat.le_refl _)).1
  rw [List.take_length] at h1
  exact List.pairwise_iff_getElem.1 h1 i (i + 1) (by omega) h (by omega)
theorem ct_at {D z : DataW Value} {L : List (Int × Int)} (h : MRel D z (ctE L)) (i : Nat) (hi : i < L.length) : D.atKey (.int .i64 L[i].1) z = .held (.int .i64 L[i].2) := h.at_ (.int .i64 L[i].1, .int .i64 L[i].2) (List.mem_map.2 ⟨L[i], List.getElem_mem _, rfl⟩)
theorem ev_at {D z : DataW Value} {L : List EvV} (h : MRel D z (evE L)) (i : Nat) (hi : i < L.length) : D.atKey (lk L[i]) z = .held (evA L[i]) := h.at_ (lk L[i], evA L[i]) (List.mem_map.2 ⟨L[i], List.getElem_mem _, rfl⟩)
end Go.Proofs.Ytlahmcbaiebapaa
