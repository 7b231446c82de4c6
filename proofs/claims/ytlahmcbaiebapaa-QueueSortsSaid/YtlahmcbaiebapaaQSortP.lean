/- A queue that sorts: the law of its rounds (plain). -/
import Derived.Test.YtlahmcbaiebapaaQueueM
import Derived.Test.YtlahmcbaiebapaaStabB
import Derived.Test.YtlahmcbaiebapaaMem2
namespace Go.Qs
open Go.Qp Go.Sb Go.Mem
/-- The number of an element. -/
def kOf (L : List Int) (x : Int) : Int := L.getD x.toNat 0
def items (L : List Int) (k : Nat) : List QItem := (List.range k).map fun (j : Nat) => (⟨.int .i64 (j : Int), kOf L (j : Int), (j : Int)⟩ : QItem)
theorem items_len (L : List Int) (k : Nat) : (items L k).length = k := by simp [items]
theorem items_snoc (L : List Int) (k : Nat) : items L (k + 1) = items L k ++ [⟨.int .i64 (k : Int), L.getD k 0, (k : Int)⟩] := by
  unfold items kOf
  rw [List.range_succ, List.map_append]; simp
/-- The rounds' state: what came out, what is left. -/
structure Rs (K : Int → Int) (n : Nat) (O : List Int) (M : List QItem) : Prop where
  good : ∀ x ∈ M, x.v = .int .i64 x.c ∧ x.r = K x.c
  rise : M.Pairwise fun x y => x.c < y.c
  srt : Srt K O
  bef : ∀ o ∈ O, ∀ x ∈ M, lt K o x.c
  perm : (O ++ M.map (·.c)).Perm (iotaF 0 n)
theorem go_start (L : List Int) (n : Nat) : Rs (kOf L) n [] (items L n) := by
  refine ⟨?_, ?_, List.Pairwise.nil, fun o ho => (List.not_mem_nil ho).elim, ?_⟩
  · intro x hx
    obtain ⟨i, _, rfl⟩ := List.mem_map.1 hx
    exact ⟨rfl, rfl⟩
  · unfold items
    rw [List.pairwise_map]
    exact List.pairwise_lt_range.imp fun h => Int.ofNat_lt.2 h
  · have : ([] ++ (items L n).map (·.c)) = iotaF 0 n := by
      unfold items iotaF
      rw [List.nil_append, List.map_map]
      refine List.map_congr_left fun i _ => ?_
      show ((i : Nat) : Int) = _
      simp
    rw [this]
theorem go_step {K : Int → Int} {n : Nat} {O : List Int} {M : List QItem} (h : Rs K n O M) (h0 : 0 < M.length) :
    (g dI M (tk dI M M.length)).v = .int .i64 (g dI M (tk dI M M.length)).c ∧
    Rs K n (O ++ [(g dI M (tk dI M M.length)).c]) (M.take (tk dI M M.length) ++ M.drop (tk dI M M.length + 1)) := by
  have hk := tk_lt dI M M.length h0
  obtain ⟨k, hke⟩ : ∃ k, k = tk dI M M.length := ⟨_, rfl⟩
  have hle := fun j hj => tk_le dI h.rise j hj
  rw [← hke] at hk hle ⊢
  have hx := h.good _ (g_mem dI M k hk)
  have hp := del_perm dI M k hk
  have hsub : (M.take k ++ M.drop (k + 1)).Sublist M := by
    have h1 : (M.drop (k + 1)).Sublist (M.drop k) := by
      rw [← List.drop_drop]; exact List.drop_sublist _ _
    have := (List.Sublist.refl (M.take k)).append h1
    rwa [List.take_append_drop] at this
  have hmin : ∀ y ∈ M.take k ++ M.drop (k + 1), lt K (g dI M k).c y.c := by
    intro y hy
    have hyM := hsub.mem hy
    obtain ⟨j, hj, ej⟩ := mem_g dI hyM
    have l1 := hle j hj
    have hne : (g dI M k).c ≠ y.c := by
      have hnd : ((g dI M k :: (M.take k ++ M.drop (k + 1))).map (·.c)).Nodup := by
        have h1 : (M.map (·.c)).Nodup := by
          rw [List.Nodup, List.pairwise_map]
          exact h.rise.imp fun h => by show ¬ (_ = _); omega
        exact ((hp.map _).nodup_iff).1 h1
      rw [List.map_cons, List.nodup_cons] at hnd
      intro e
      exact hnd.1 (List.mem_map.2 ⟨y, hy, e.symm⟩)
    rw [ej] at l1
    unfold Qp.le at l1
    unfold Sb.lt
    rw [hx.2, (h.good y hyM).2] at l1
    by_cases hjk : j = k
    · exact absurd (by rw [← ej, hjk]) hne
    · rcases l1 with l1 | ⟨l1, l2⟩
      · exact .inl l1
      · exact .inr ⟨l1, by omega⟩
  refine ⟨hx.1, fun y hy => h.good y (hsub.mem hy), h.rise.sublist hsub, ?_, ?_, ?_⟩
  · exact srt_append h.srt (List.pairwise_singleton _ _) fun o ho y hy => by
      rw [List.mem_singleton.1 hy]; exact h.bef o ho _ (g_mem dI M k hk)
  · intro o ho y hy
    rcases List.mem_append.1 ho with ho | ho
    · exact h.bef o ho y (hsub.mem hy)
    · rw [List.mem_singleton.1 ho]; exact hmin y hy
  · refine List.Perm.trans ?_ h.perm
    rw [List.append_assoc]
    refine List.Perm.append_left O ?_
    have := (hp.map (·.c)).symm
    rwa [List.map_cons] at this
theorem go_end {K : Int → Int} {n : Nat} {O : List Int} {M : List QItem} (h : Rs K n O M) (h0 : M.length = 0) : Srt K O ∧ O.Perm (iotaF 0 n) := by
  have hM : M = [] := List.eq_nil_of_length_eq_zero h0
  subst hM
  exact ⟨h.srt, by have := h.perm; rwa [List.map_nil, List.append_nil] at this⟩
end Go.Qs
