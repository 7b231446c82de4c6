/- What the bound of the second form gives. -/
import Derived.Test.YtlahmcbaiebapaaRows
namespace Go.Proofs.Ytlahmcbaiebapaa.Bulk
theorem one_le {H : Type} (d : DataW H) : 1 ≤ Rows.uptoBulk d := by
  cases d with
  | lit l => cases l <;> simp [Rows.uptoBulk]
  | nil => simp [Rows.uptoBulk]
  | ptr d => simp [Rows.uptoBulk]
  | slice elems spare => simp [Rows.uptoBulk]
  | agg parts => simp [Rows.uptoBulk]
  | iface t d => simp [Rows.uptoBulk]
  | map entries => simp [Rows.uptoBulk]
  | held h => simp [Rows.uptoBulk]
theorem mem {H : Type} {d : DataW H} {l : List (DataW H)} (h : d ∈ l) : Rows.uptoBulk d ≤ Rows.uptoBulkAll l := by
  induction l with
  | nil => cases h
  | cons x r ih =>
    simp only [Rows.uptoBulkAll]
    rcases List.mem_cons.1 h with e | e
    · subst e; omega
    · have := ih e; omega
theorem len {H : Type} (l : List (DataW H)) : l.length ≤ Rows.uptoBulkAll l := by
  induction l with
  | nil => simp
  | cons x r ih => have := one_le x; simp only [Rows.uptoBulkAll, List.length_cons]; omega
theorem slice {H : Type} {elems spare l : List (DataW H)} (h : DataW.slice elems spare ∈ l) (hk : Rows.uptoSmall H l = true) : elems.length + spare.length ≤ 1048576 := by
  have h1 := mem h
  have h2 := of_decide_eq_true hk
  have h3 := len elems
  have h4 := len spare
  simp only [Rows.uptoBulk] at h1
  omega
theorem nth {H : Type} {elems spare l : List (DataW H)} (i : Nat) (hk : Rows.uptoSmall H l = true) (h : l[i]? = some (.slice elems spare)) : elems.length + spare.length ≤ 1048576 :=
  slice (List.mem_of_getElem? h) hk
theorem string {H : Type} {b : List UInt8} {l : List (DataW H)} (h : DataW.lit (.string b) ∈ l) (hk : Rows.uptoSmall H l = true) : b.length ≤ 1048576 := by
  have h1 := mem h
  have h2 := of_decide_eq_true hk
  simp only [Rows.uptoBulk] at h1
  omega
end Go.Proofs.Ytlahmcbaiebapaa.Bulk
