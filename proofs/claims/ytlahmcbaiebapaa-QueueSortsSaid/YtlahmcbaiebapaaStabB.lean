/- A stable sort by merging in place: blocks (plain). -/
import Derived.Test.YtlahmcbaiebapaaStabP
namespace Go.Sb
set_option linter.unusedVariables false
set_option linter.unusedSimpArgs false
def iotaF (lo k : Nat) : List Int := (List.range k).map fun i => ((lo + i : Nat) : Int)
theorem iota_len (lo k : Nat) : (iotaF lo k).length = k := by simp [iotaF]
theorem iota_mem {lo k : Nat} {x : Int} (h : x ∈ iotaF lo k) : (lo : Int) ≤ x ∧ x < ((lo + k : Nat) : Int) := by
  obtain ⟨i, hi, rfl⟩ := List.mem_map.1 h
  have := List.mem_range.1 hi
  omega
theorem iota_app (lo a b : Nat) : iotaF lo (a + b) = iotaF lo a ++ iotaF (lo + a) b := by
  unfold iotaF
  rw [List.range_add, List.map_append, List.map_map]
  congr 1
  refine List.map_congr_left fun i _ => ?_
  simp [Nat.add_assoc]
theorem iota_rise (lo k : Nat) : (iotaF lo k).Pairwise (· < ·) := by
  unfold iotaF
  rw [List.pairwise_map]
  exact List.pairwise_lt_range.imp fun h => by omega
/-- A block of numbers from lo on, sorted. -/
def Blk (K : Int → Int) (lo : Nat) (B : List Int) : Prop := Srt K B ∧ B.Perm (iotaF lo B.length)
def Blks (K : Int → Int) (bs : Nat) : Nat → List (List Int) → Prop
  | _, [] => True
  | lo, B :: Bs => B.length = bs ∧ Blk K lo B ∧ Blks K bs (lo + bs) Bs
theorem blks_snoc {K : Int → Int} {bs : Nat} {B : List Int} : ∀ {Bs : List (List Int)} {lo : Nat}, Blks K bs lo Bs → B.length = bs → Blk K (lo + Bs.flatten.length) B → Blks K bs lo (Bs ++ [B])
  | [], lo, _, hl, hb => ⟨hl, by simpa using hb, trivial⟩
  | C :: Bs, lo, ⟨h1, h2, h3⟩, hl, hb => by
    refine ⟨h1, h2, blks_snoc h3 hl ?_⟩
    have e : lo + (C :: Bs).flatten.length = lo + bs + Bs.flatten.length := by simp [h1]; omega
    rw [e] at hb; exact hb
theorem Blk.mem {K : Int → Int} {lo : Nat} {B : List Int} (h : Blk K lo B) {x : Int} (hx : x ∈ B) : (lo : Int) ≤ x ∧ x < ((lo + B.length : Nat) : Int) := iota_mem (h.2.mem_iff.1 hx)
theorem Blk.ix {K : Int → Int} {lo : Nat} {A B : List Int} (h : Blk K lo A) (h2 : Blk K (lo + A.length) B) : Ix A B := fun x hx y hy => by
  have := h.mem hx; have := h2.mem hy; omega
theorem Blk.merged {K : Int → Int} {lo : Nat} {A B M : List Int} (h : Blk K lo A) (h2 : Blk K (lo + A.length) B) (hm : Merged K A B M) : Blk K lo M := by
  refine ⟨hm.srt, ?_⟩
  rw [hm.len, iota_app]
  exact hm.perm.trans (h.2.append h2.2)
theorem blk_nil (K : Int → Int) (lo : Nat) : Blk K lo [] := ⟨List.Pairwise.nil, by simp [iotaF]⟩
/-- The state of the sort: whole blocks, and what is left. -/
structure Lay (K : Int → Int) (bs n : Nat) (D : List Int) (Bs : List (List Int)) (T : List Int) : Prop where
  eq : D = Bs.flatten ++ T
  len : D.length = n
  bl : Blks K bs 0 Bs
  tl : T.length < bs
  tb : Blk K Bs.flatten.length T
/-- While a pass merges: pairs that are done, blocks that are not. -/
structure Lay2 (K : Int → Int) (bs n a : Nat) (D : List Int) (Ds Rs : List (List Int)) (T : List Int) : Prop where
  eq : D = Ds.flatten ++ Rs.flatten ++ T
  len : D.length = n
  bd : Blks K (2 * bs) 0 Ds
  br : Blks K bs a Rs
  ha : Ds.flatten.length = a
  tl : T.length < bs
  tb : Blk K (a + Rs.flatten.length) T
theorem Lay.start {K : Int → Int} {bs n : Nat} {D T : List Int} {Bs : List (List Int)} (h : Lay K bs n D Bs T) : Lay2 K bs n 0 D [] Bs T :=
  ⟨by simpa using h.eq, h.len, trivial, h.bl, rfl, h.tl, by simpa using h.tb⟩
/-- Two blocks more. -/
theorem Lay2.two {K : Int → Int} {bs n a : Nat} {D T : List Int} {Ds Rs : List (List Int)} (h : Lay2 K bs n a D Ds Rs T) (hn : a + 2 * bs ≤ n) : ∃ R1 R2 Rs', Rs = R1 :: R2 :: Rs' ∧ R1.length = bs ∧ R2.length = bs ∧ Blk K a R1 ∧ Blk K (a + R1.length) R2 ∧ D = Ds.flatten ++ R1 ++ R2 ++ (Rs'.flatten ++ T) := by
  have h1 := congrArg List.length h.eq
  have h2 := h.len; have h3 := h.ha; have h4 := h.tl
  match Rs, h with
  | [], h => simp only [List.flatten_cons, List.flatten_nil, List.flatten_append, List.length_append, List.length_nil, List.append_nil] at h1; omega
  | [R], h => have := h.br.1; simp only [List.flatten_cons, List.flatten_nil, List.flatten_append, List.length_append, List.length_nil, List.append_nil] at h1; omega
  | R1 :: R2 :: Rs', h => exact ⟨R1, R2, Rs', rfl, h.br.1, h.br.2.2.1, h.br.2.1, by rw [h.br.1]; exact h.br.2.2.2.1, by rw [h.eq]; simp⟩
theorem Lay2.step {K : Int → Int} {bs n a : Nat} {D T R1 R2 M : List Int} {Ds Rs' : List (List Int)} (h : Lay2 K bs n a D Ds (R1 :: R2 :: Rs') T) (hm : Merged K R1 R2 M) : Lay2 K bs n (a + 2 * bs) (Ds.flatten ++ M ++ (Rs'.flatten ++ T)) (Ds ++ [M]) Rs' T := by
  have l1 := h.br.1; have l2 := h.br.2.2.1; have l3 := hm.len
  have b1 : Blk K a M := h.br.2.1.merged (by rw [l1]; exact h.br.2.2.2.1) hm
  refine ⟨by simp, ?_, blks_snoc h.bd (by omega) (by rw [h.ha, Nat.zero_add]; exact b1), ?_, by rw [List.flatten_append, List.length_append, h.ha]; simp; omega, h.tl, ?_⟩
  · have := congrArg List.length h.eq
    have := h.len
    simp only [List.flatten_cons, List.flatten_nil, List.flatten_append, List.length_append, List.length_nil, List.append_nil] at *; omega
  · have := h.br.2.2.2.2
    rwa [show a + bs + bs = a + 2 * bs by omega] at this
  · have := h.tb
    rwa [show a + (R1 :: R2 :: Rs').flatten.length = a + 2 * bs + Rs'.flatten.length by simp only [List.flatten_cons, List.flatten_nil, List.flatten_append, List.length_append, List.length_nil, List.append_nil]; omega] at this
/-- A pass has no two blocks more: one block is left, or none. -/
theorem Lay2.rest {K : Int → Int} {bs n a : Nat} {D T : List Int} {Ds Rs : List (List Int)} (h : Lay2 K bs n a D Ds Rs T) (hn : ¬ a + 2 * bs ≤ n) :
    (∃ R, Rs = [R] ∧ R.length = bs ∧ Blk K a R ∧ Blk K (a + R.length) T ∧ D = Ds.flatten ++ R ++ T ++ [] ∧ a + bs + T.length = n) ∨ (Lay K (2 * bs) n D Ds T ∧ n < a + bs) := by
  have h1 := congrArg List.length h.eq
  have h2 := h.len; have h3 := h.ha; have h4 := h.tl
  match Rs, h with
  | [], h => exact .inr ⟨⟨by rw [h.eq]; simp, h.len, h.bd, by omega, by have := h.tb; rw [h3]; simpa using this⟩, by simp only [List.flatten_cons, List.flatten_nil, List.flatten_append, List.length_append, List.length_nil, List.append_nil] at h1; omega⟩
  | [R], h => exact .inl ⟨R, rfl, h.br.1, h.br.2.1, by have := h.tb; simpa using this, by rw [h.eq]; simp, by have := h.br.1; simp only [List.flatten_cons, List.flatten_nil, List.flatten_append, List.length_append, List.length_nil, List.append_nil] at h1; omega⟩
  | R1 :: R2 :: Rs', h => have := h.br.1; have := h.br.2.2.1; simp only [List.flatten_cons, List.flatten_nil, List.flatten_append, List.length_append, List.length_nil, List.append_nil] at h1; omega
theorem Lay2.last {K : Int → Int} {bs n a : Nat} {D T R M : List Int} {Ds : List (List Int)} (h : Lay2 K bs n a D Ds [R] T) (hm : Merged K R T M) : Lay K (2 * bs) n (Ds.flatten ++ M ++ []) Ds M := by
  have l1 := h.br.1; have l3 := hm.len; have l4 := h.tl
  have b1 : Blk K a M := h.br.2.1.merged (by have := h.tb; simpa using this) hm
  refine ⟨by simp, ?_, h.bd, by omega, by rw [h.ha]; exact b1⟩
  have := congrArg List.length h.eq
  have := h.len
  simp only [List.flatten_cons, List.flatten_nil, List.flatten_append, List.length_append, List.length_nil, List.append_nil] at *; omega
/-- In the end one block is left. -/
theorem Lay.done {K : Int → Int} {bs n : Nat} {D T : List Int} {Bs : List (List Int)} (h : Lay K bs n D Bs T) (hn : n ≤ bs) : Srt K D ∧ D.Perm (iotaF 0 n) := by
  have h1 := congrArg List.length h.eq
  have h2 := h.len; have h4 := h.tl
  match Bs, h with
  | [], h =>
    have e : D = T := by rw [h.eq]; simp
    have := h.tb
    rw [← e] at this
    rw [← h2]
    exact ⟨this.1, by simpa using this.2⟩
  | [B], h =>
    have l := h.bl.1
    simp only [List.flatten_cons, List.flatten_nil, List.flatten_append, List.length_append, List.length_nil, List.append_nil] at h1
    have ht : T = [] := List.eq_nil_of_length_eq_zero (by omega)
    have e : D = B := by rw [h.eq, ht]; simp
    have := h.bl.2.1
    rw [← e] at this
    rw [← h2]
    exact this
  | B :: C :: Bs', h =>
    have l := h.bl.1; have l2 := h.bl.2.2.1
    simp only [List.flatten_cons, List.flatten_nil, List.flatten_append, List.length_append, List.length_nil, List.append_nil] at h1
    omega
end Go.Sb
