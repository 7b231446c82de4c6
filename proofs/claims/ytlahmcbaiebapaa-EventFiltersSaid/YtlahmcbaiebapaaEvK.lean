/- The map of the last events: keyed by events. -/
import Derived.Test.YtlahmcbaiebapaaEvM
namespace Go.Proofs.Ytlahmcbaiebapaa
open Go.ChangeShapes Go.WideShapes Go.ChangeAt Go.RowKit Go.Mem Go.Slt Go.Maps
set_option linter.unusedVariables false
theorem laidEv : laidOutB Try.prog = true := by kernel_rfl
theorem keyEv : Keyed Try.prog 99 := Keyed.of_law (deep_law_laid laidEv (m := 9) (by decide) (of_decide_eq_true (by kernel_rfl)) (by kernel_rfl) (by kernel_rfl))
def EvWf (y : EvV) : Prop := (Lit.int .i64 y.s).wf = true ∧ (Lit.int .i64 y.n).wf = true ∧ (Lit.int .i64 y.g).wf = true
def kv (y : EvV) : Value := .agg #[.int .i64 y.s, .int .i64 y.n, .int .i64 y.g, .int .i64 0]
noncomputable def lk (y : EvV) : Lit := (keyOf Try.prog 99 (kv y)).getD (.bool false)
theorem key_lk {y : EvV} (h : EvWf y) : keyOf Try.prog 99 (kv y) = some (lk y) := by
  obtain ⟨h0, h1, h2⟩ := h
  have h3 : (Lit.int .i64 0).wf = true := by decide
  have hk : Try.prog.keyType 99 = true := by kernel_rfl
  obtain ⟨d, hd⟩ : ∃ d, Try.prog.types.size + 1 = d + 1 + 1 + 1 := ⟨Try.prog.types.size - 2, by kernel_rfl⟩
  have hc : Try.prog.cellsOf 99 = 4 := by kernel_rfl
  have hc2 : Try.prog.cellsOf 55 = 2 := by kernel_rfl
  have hc1 : Try.prog.cellsOf 3 = 1 := by kernel_rfl
  have hsome : ∃ l, keyOf Try.prog 99 (kv y) = some l := by
    unfold keyOf
    rw [hd]
    simp [Try.underlying99, Try.underlying55, Try.underlying3, kv, hk, Value.formed, Value.cells, Program.keyLits, hc, hc1, hc2, h0, h1, h2, h3]
    rw [if_pos (by intro i hi; rcases i with _ | _ | i <;> first | (simp; done) | omega)]
    exact ⟨_, rfl⟩
  obtain ⟨l, hl⟩ := hsome
  unfold lk
  rw [hl]; rfl
theorem lk_same {x y : EvV} (h : ordE x y = 0) : lk x = lk y := by
  obtain ⟨h1, h2, h3⟩ := (ordE_spec x y).2.1 h
  unfold lk kv
  rw [h1, h2, h3]
attribute [irreducible] lk
set_option maxRecDepth 100000 in
theorem lk_inj {x y : EvV} (hx : EvWf x) (hy : EvWf y) (h : lk x = lk y) : ordE x y = 0 := by
  have h1 := key_lk hx
  rw [h] at h1
  have h2 := keyEv.inj h1 (key_lk hy)
  unfold kv at h2
  injection h2 with h2
  have h3 := Array.toList_inj.2 h2
  simp at h3
  exact (ordE_spec x y).2.2 h3
noncomputable def evE (L : List EvV) : List (Lit × Value) := L.map fun y => (lk y, evA y)
theorem rise_ev {L : List EvV} (e : EvV) (h : EvsOk L) : RiseG (fun y : EvV => ordE y e) L := by
  refine List.Pairwise.imp (fun {a b} hab h0 => ?_) h
  change 0 ≤ ordE a e at h0
  change 0 < ordE b e
  by_cases h1 : ordE b e < 0
  · have := ordE_trans hab h1; omega
  · by_cases h2 : ordE b e = 0
    · have := (ordE_same h2).2.1 hab; omega
    · omega
theorem ordE_self (e : EvV) : ordE e e = 0 := (ordE_spec e e).2.2 ⟨rfl, rfl, rfl⟩
theorem ev_put {D z : DataW Value} {L : List EvV} (e : EvV) (hL : EvsOk L) (hw : ∀ y ∈ L, EvWf y) (he : EvWf e) (h : MRel D z (evE L)) : MRel (D.put (lk e) (.held (evA e))) z (evE (evAdd L e)) := by
  have hS := rise_ev e hL
  have hlen := insG_len2 (fun y : EvV => ordE y e) (fun _ => e) e L hS
  have hmem := insG_mem (fun y : EvV => ordE y e) (fun _ => e) e (ordE_self e) (fun x hx => ordE_self e) L hS
  have key : (∃ p ∈ evE L, p.1 = lk e) ↔ ∃ x ∈ L, ordE x e = 0 := by
    unfold evE
    constructor
    · rintro ⟨p, hp, q⟩
      obtain ⟨x, hx, rfl⟩ := List.mem_map.1 hp
      exact ⟨x, hx, lk_inj (hw x hx) he q⟩
    · rintro ⟨x, hx, q⟩
      exact ⟨_, List.mem_map.2 ⟨x, hx, rfl⟩, lk_same q⟩
  refine h.put (keyEv.key (key_lk he)) _ (fun hh => ?_) (fun hh => ?_) (fun p => ?_)
  · unfold evE evAdd; rw [List.length_map, List.length_map]; exact hlen.1 (key.1 hh)
  · unfold evE evAdd; rw [List.length_map, List.length_map]; exact hlen.2 (fun q => hh (key.2 q))
  · unfold evE evAdd
    constructor
    · intro hp
      obtain ⟨y, hy, rfl⟩ := List.mem_map.1 hp
      rcases (hmem y).1 hy with ⟨h1, h2⟩ | ⟨x, h1, h2, rfl⟩ | ⟨h1, rfl⟩
      · right
        exact ⟨fun q => h1 (lk_inj (hw y h2) he q), List.mem_map.2 ⟨y, h2, rfl⟩⟩
      · left; rfl
      · left; rfl
    · rintro (rfl | ⟨h1, h2⟩)
      · refine List.mem_map.2 ⟨e, (hmem e).2 ?_, rfl⟩
        by_cases hh : ∃ x ∈ L, ordE x e = 0
        · obtain ⟨x, hx, h0⟩ := hh
          exact .inr (.inl ⟨x, hx, h0, rfl⟩)
        · exact .inr (.inr ⟨hh, rfl⟩)
      · obtain ⟨x, hx, rfl⟩ := List.mem_map.1 h2
        exact List.mem_map.2 ⟨x, (hmem x).2 (.inl ⟨fun q => h1 (lk_same q), hx⟩), rfl⟩
theorem evsOf_wf (l : List EvV) (hw : ∀ y ∈ l, EvWf y) : ∀ k, k ≤ l.length → ∀ y ∈ evsOf (l.take k), EvWf y
  | 0, _ => fun y hy => (by simp [evsOf] at hy)
  | k + 1, h => by
    intro y hy
    rw [evsOf_succ l k (by omega)] at hy
    rcases evAdd_mem hy with rfl | hy
    · exact hw _ (List.getElem_mem _)
    · exact evsOf_wf l hw k (by omega) y hy
end Go.Proofs.Ytlahmcbaiebapaa
