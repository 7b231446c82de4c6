/- Plain laws: what plan.Right says yes to is what the reference's Divided says yes to. -/
import Derived.Test.YtembjokbhbdoeaaPlanDivP
namespace Go.Proofs.Ytembjokbhbdoeaa
open Go.RowKit Go.Mem
set_option linter.unusedVariables false
theorem perm_of_sub : ∀ (R l : List Int), R.Nodup → (∀ x ∈ R, x ∈ l) → ∃ l', l.Perm (R ++ l')
  | [], l, _, _ => ⟨l, by simp⟩
  | a :: R, l, hn, hs => by
    obtain ⟨h1, h2⟩ := List.nodup_cons.1 hn
    obtain ⟨l', hp⟩ := perm_of_sub R (l.erase a) h2 (fun x hx => (List.mem_erase_of_ne (fun (e : x = a) => h1 (by rw [← e]; exact hx))).2 (hs x (List.mem_cons_of_mem _ hx)))
    exact ⟨l', (List.perm_cons_erase (hs a List.mem_cons_self)).trans (List.Perm.cons a hp)⟩
def rangeI (m : Nat) : List Int := (List.range m).map fun (i : Nat) => (i : Int)
theorem rangeI_len (m : Nat) : (rangeI m).length = m := by unfold rangeI; simp
theorem rangeI_mem (m : Nat) (z : Int) : z ∈ rangeI m ↔ 0 ≤ z ∧ z < m := by
  unfold rangeI
  rw [List.mem_map]
  constructor
  · rintro ⟨i, hi, rfl⟩
    have := List.mem_range.1 hi
    omega
  · intro h
    exact ⟨z.toNat, List.mem_range.2 (by omega), by omega⟩
theorem rangeI_nodup (m : Nat) : (rangeI m).Nodup := by
  unfold rangeI
  exact List.Pairwise.map _ (fun a b h => by omega) (List.nodup_range (n := m))
theorem pigeon1 (m : Nat) (l : List Int) (hl : l.length = m) (hn : l.Nodup) (hr : ∀ z ∈ l, 0 ≤ z ∧ z < m) (i : Nat) (hi : i < m) : (i : Int) ∈ l := by
  obtain ⟨l', hp⟩ := perm_of_sub l (rangeI m) hn (fun x hx => (rangeI_mem m x).2 (hr x hx))
  have hlen := hp.length_eq
  rw [rangeI_len, List.length_append] at hlen
  have : l' = [] := List.eq_nil_of_length_eq_zero (by omega)
  rw [this, List.append_nil] at hp
  exact hp.subset ((rangeI_mem m i).2 (by omega))
theorem pigeon2 (m : Nat) (l : List Int) (hl : l.length = m) (h : ∀ i : Nat, i < m → (i : Int) ∈ l) : l.Nodup ∧ ∀ z ∈ l, 0 ≤ z ∧ z < m := by
  obtain ⟨l', hp⟩ := perm_of_sub (rangeI m) l (rangeI_nodup m) (fun x hx => by
    have := (rangeI_mem m x).1 hx
    have := h x.toNat (by omega)
    rwa [show ((x.toNat : Nat) : Int) = x by omega] at this)
  have hlen := hp.length_eq
  rw [List.length_append, rangeI_len] at hlen
  have : l' = [] := List.eq_nil_of_length_eq_zero (by omega)
  rw [this, List.append_nil] at hp
  exact ⟨hp.nodup_iff.2 (rangeI_nodup m), fun z hz => (rangeI_mem m z).1 (hp.subset hz)⟩
theorem distN_nodup : ∀ l : List Int, l.Nodup → distN l = l.length
  | [], _ => rfl
  | k :: r, h => by
    obtain ⟨h1, h2⟩ := List.nodup_cons.1 h
    rw [distN_cons, if_neg h1, distN_nodup r h2, List.length_cons]
theorem keysE_len (E : List (Int × Int)) : (keysE E).length = E.length := by unfold keysE; simp
theorem keysE_cons (k d : Int) (E : List (Int × Int)) : keysE ((k, d) :: E) = k :: keysE E := rfl
theorem mem_rowE (d : Int) (x : List Int) : ∀ E z, z ∈ keysE (rowE d x E) ↔ z ∈ x ∨ z ∈ keysE E := by
  induction x with
  | nil => intro E z; simp [rowE_nil]
  | cons k r ih =>
    intro E z
    rw [rowE_cons, ih, keysE_cons, List.mem_cons, List.mem_cons]
    constructor
    · rintro (h | h | h)
      · exact Or.inl (Or.inr h)
      · exact Or.inl (Or.inl h)
      · exact Or.inr h
    · rintro ((h | h) | h)
      · exact Or.inr (Or.inl h)
      · exact Or.inl h
      · exact Or.inr (Or.inr h)
theorem nodup_rowE (d : Int) (x : List Int) : ∀ E, (keysE (rowE d x E)).Nodup → (keysE E).Nodup := by
  induction x with
  | nil => intro E h; exact h
  | cons k r ih => intro E h; exact (List.nodup_cons.1 (ih _ h)).2
theorem nodup_rowsE (ls : List (List Int)) : ∀ d E, (keysE (rowsE d ls E)).Nodup → (keysE E).Nodup := by
  induction ls with
  | nil => intro d E h; exact h
  | cons x rs ih => intro d E h; exact nodup_rowE _ _ _ (ih _ _ h)
theorem mem_rowsE (ls : List (List Int)) : ∀ d E z, z ∈ keysE (rowsE d ls E) ↔ (∃ x ∈ ls, z ∈ x) ∨ z ∈ keysE E := by
  induction ls with
  | nil => intro d E z; simp [rowsE_nil]
  | cons x rs ih =>
    intro d E z
    rw [rowsE_cons, ih, mem_rowE]
    constructor
    · rintro (⟨y, hy, hz⟩ | h | h)
      · exact Or.inl ⟨y, List.mem_cons_of_mem _ hy, hz⟩
      · exact Or.inl ⟨x, List.mem_cons_self, h⟩
      · exact Or.inr h
    · rintro (⟨y, hy, hz⟩ | h)
      · rcases List.mem_cons.1 hy with rfl | hy
        · exact Or.inr (Or.inl hz)
        · exact Or.inl ⟨y, hy, hz⟩
      · exact Or.inr (Or.inr h)
/-- the row of marks tells the same as the entries -/
structure Inv (m : Nat) (at_ : List Int) (E : List (Int × Int)) : Prop where
  len : at_.length = m
  nodup : (keysE E).Nodup
  range : ∀ z ∈ keysE E, 0 ≤ z ∧ z < m
  yes : ∀ k : Nat, k < m → (k : Int) ∈ keysE E → at_.getD k 0 = look E k + 1 ∧ 0 ≤ look E k
  no : ∀ k : Nat, k < m → ¬ (k : Int) ∈ keysE E → at_.getD k 0 = 0
theorem Inv.start (m : Nat) : Inv m (List.replicate m 0) [] :=
  ⟨by simp, List.nodup_nil, fun z h => (by cases h), fun k hk h => (by cases h), fun k hk h => by rw [List.getD_eq_getElem?_getD, List.getElem?_replicate]; simp [hk]⟩
theorem getD_setI (l : List Int) (x : Int) (i j : Nat) (h : i < l.length) : (l.set i x).getD j 0 = if j = i then x else l.getD j 0 := by
  rw [List.getD_eq_getElem?_getD, List.getD_eq_getElem?_getD]
  by_cases e : j = i
  · subst e; simp [h]
  · rw [if_neg e, List.getElem?_set_ne (fun h => e h.symm)]
theorem Inv.put {m : Nat} {at_ : List Int} {E : List (Int × Int)} (h : Inv m at_ E) (k d : Nat) (hk : k < m) (hn : ¬ (k : Int) ∈ keysE E) : Inv m (at_.set k ((d : Int) + 1)) (((k : Int), (d : Int)) :: E) := by
  refine ⟨by rw [List.length_set]; exact h.len, ?_, ?_, ?_, ?_⟩
  · rw [keysE_cons]; exact List.nodup_cons.2 ⟨hn, h.nodup⟩
  · intro z hz
    rw [keysE_cons] at hz
    rcases List.mem_cons.1 hz with rfl | hz
    · omega
    · exact h.range z hz
  · intro q hq hqm
    rw [getD_setI _ _ _ _ (by rw [h.len]; exact hk), look_cons]
    by_cases e : q = k
    · subst e; rw [if_pos rfl, if_pos rfl]; omega
    · rw [if_neg e, if_neg (by omega)]
      rw [keysE_cons] at hqm
      rcases List.mem_cons.1 hqm with h2 | h2
      · omega
      · exact h.yes q hq h2
  · intro q hq hqm
    rw [keysE_cons] at hqm
    have h1 : ¬ (q : Int) ∈ keysE E := fun h2 => hqm (List.mem_cons_of_mem _ h2)
    have h2 : q ≠ k := fun e => hqm (by rw [e]; exact List.mem_cons_self)
    rw [getD_setI _ _ _ _ (by rw [h.len]; exact hk), if_neg h2]
    exact h.no q hq h1
def StrF : Int → List Int → Prop
  | _, [] => True
  | p, k :: r => p < k ∧ StrF k r
def SortF : Int → List Int → Prop
  | _, [] => True
  | p, k :: r => p ≤ k ∧ SortF k r
theorem sorted_cons (k k2 : Int) (r : List Int) : SortedL (k :: k2 :: r) ↔ k ≤ k2 ∧ SortedL (k2 :: r) := by
  constructor
  · intro h
    refine ⟨h 0 (by simp), fun j hj => ?_⟩
    exact h (j + 1) (by simp at hj ⊢; omega)
  · rintro ⟨h1, h2⟩ j hj
    cases j with
    | zero => exact h1
    | succ j => exact h2 j (by simp at hj ⊢; omega)
theorem strF_sorted : ∀ (x : List Int) (p : Int), StrF p x → SortedL (p :: x)
  | [], p, _ => fun j hj => by simp at hj
  | k :: r, p, h => (sorted_cons p k r).2 ⟨by have := h.1; omega, strF_sorted r k h.2⟩
theorem sorted_tail (k : Int) (r : List Int) (h : SortedL (k :: r)) : SortedL r := fun j hj => h (j + 1) (by simp; omega)
theorem sorted_sortF : ∀ (x : List Int) (k : Int), SortedL (k :: x) → SortF k x
  | [], k, _ => trivial
  | k2 :: r, k, h => ⟨((sorted_cons k k2 r).1 h).1, sorted_sortF r k2 ((sorted_cons k k2 r).1 h).2⟩
theorem fillRow_ok (m d : Nat) (x : List Int) : ∀ prev at_ a E, Inv m at_ E → fillRow m d prev x at_ = some a → Inv m a (rowE d x E) ∧ StrF prev x := by
  induction x with
  | nil => intro prev at_ a E hi h; injection h with h; subst h; exact ⟨hi, trivial⟩
  | cons k r ih =>
    intro prev at_ a E hi h
    rw [fillRow_cons] at h
    split at h
    · cases h
    · rename_i hc
      have hk0 : 0 ≤ k := by omega
      obtain ⟨kn, rfl⟩ : ∃ kn : Nat, k = kn := ⟨k.toNat, by omega⟩
      rw [Int.toNat_natCast] at h hc
      have hkm : kn < m := by omega
      have hnm : ¬ (kn : Int) ∈ keysE E := fun hm => by
        have := hi.yes kn hkm hm
        omega
      have := ih _ _ _ _ (hi.put kn d hkm hnm) h
      exact ⟨this.1, by omega, this.2⟩
theorem fillRow_some (m d : Nat) (x : List Int) : ∀ (prev : Int) at_ E, Inv m at_ E → (keysE (rowE d x E)).Nodup → (∀ z ∈ keysE (rowE d x E), 0 ≤ z ∧ z < m) → SortF prev x → (prev = -1 ∨ prev ∈ keysE E) → ∃ a, fillRow m d prev x at_ = some a := by
  induction x with
  | nil => intro prev at_ E hi _ _ _ _; exact ⟨_, rfl⟩
  | cons k r ih =>
    intro prev at_ E hi hn hr hs hp
    rw [rowE_cons] at hn hr
    have hkr := hr k ((mem_rowE _ _ _ _).2 (Or.inr List.mem_cons_self))
    have hnc := nodup_rowE _ _ _ hn
    rw [keysE_cons] at hnc
    obtain ⟨hkn, _⟩ := List.nodup_cons.1 hnc
    obtain ⟨kn, rfl⟩ : ∃ kn : Nat, k = kn := ⟨k.toNat, by omega⟩
    have hz := hi.no kn (by omega) hkn
    have hpk : ¬ (kn : Int) ≤ prev := by
      have h1 := hs.1
      intro h2
      rcases hp with hp | hp
      · omega
      · have : (kn : Int) = prev := by omega
        exact hkn (this ▸ hp)
    rw [fillRow_cons, if_neg (by rw [Int.toNat_natCast, hz]; omega), Int.toNat_natCast]
    exact ih _ _ _ (hi.put kn d (by omega) hkn) hn hr hs.2 (Or.inr List.mem_cons_self)
theorem sub_rowsE (ls : List (List Int)) (d : Nat) (E : List (Int × Int)) (z : Int) (h : z ∈ keysE E) : z ∈ keysE (rowsE d ls E) := (mem_rowsE _ _ _ _).2 (Or.inr h)
theorem fillRows_ok (m : Nat) (ls : List (List Int)) : ∀ d at_ a E, Inv m at_ E → fillRows m d ls at_ = some a → Inv m a (rowsE d ls E) ∧ ∀ x ∈ ls, SortedL x := by
  induction ls with
  | nil => intro d at_ a E hi h; injection h with h; subst h; exact ⟨hi, fun x hx => by cases hx⟩
  | cons x rs ih =>
    intro d at_ a E hi h
    rw [fillRows_cons] at h
    cases hx : fillRow m d (-1) x at_ with
    | none => rw [hx] at h; cases h
    | some b =>
      rw [hx] at h
      obtain ⟨h1, h2⟩ := fillRow_ok m d x _ _ _ E hi hx
      obtain ⟨h3, h4⟩ := ih (d + 1) b a _ h1 h
      refine ⟨h3, fun y hy => ?_⟩
      rcases List.mem_cons.1 hy with rfl | hy
      · exact sorted_tail _ _ (strF_sorted _ _ h2)
      · exact h4 y hy
theorem sortF_start (x : List Int) (h : SortedL x) (hr : ∀ z ∈ x, 0 ≤ z) : SortF (-1) x := by
  cases x with
  | nil => trivial
  | cons k r => exact ⟨by have := hr k List.mem_cons_self; omega, sorted_sortF r k h⟩
theorem fillRows_some (m : Nat) (ls : List (List Int)) : ∀ d at_ E, Inv m at_ E → (keysE (rowsE d ls E)).Nodup → (∀ z ∈ keysE (rowsE d ls E), 0 ≤ z ∧ z < m) → (∀ x ∈ ls, SortedL x) → ∃ a, fillRows m d ls at_ = some a := by
  induction ls with
  | nil => intro d at_ E hi _ _ _; exact ⟨_, rfl⟩
  | cons x rs ih =>
    intro d at_ E hi hn hr hs
    rw [rowsE_cons] at hn hr
    obtain ⟨b, hb⟩ := fillRow_some m d x (-1) at_ E hi (nodup_rowsE _ _ _ hn) (fun z hz => hr z (sub_rowsE _ _ _ _ hz)) (sortF_start x (hs x List.mem_cons_self) (fun z hz => (hr z (sub_rowsE _ _ _ _ ((mem_rowE _ _ _ _).2 (Or.inl hz)))).1)) (Or.inl rfl)
    obtain ⟨a, ha⟩ := ih (d + 1) b _ (fillRow_ok m d x _ _ _ E hi hb).1 hn hr (fun y hy => hs y (List.mem_cons_of_mem _ hy))
    exact ⟨a, by rw [fillRows_cons, hb]; exact ha⟩
theorem meetB_comm (x y : List Int) : meetB x y = meetB y x := by
  rw [Bool.eq_iff_iff, meetB_iff, meetB_iff]
  exact ⟨fun ⟨k, a, b⟩ => ⟨k, b, a⟩, fun ⟨k, a, b⟩ => ⟨k, b, a⟩⟩
theorem confB_comm (y z : SysV) : confB y z = confB z y := by
  unfold confB
  rw [meetB_comm y.writes z.writes, meetB_comm y.writes z.reads, meetB_comm y.reads z.writes]
  cases meetB z.writes y.writes <;> cases meetB z.reads y.writes <;> cases meetB z.writes y.reads <;> rfl
theorem right_div (l : List SysV) (m : Nat) (ls : List (List Int)) : RightS l m ls ↔ DivS l m ls := by
  have hlen : (keysE (rowsE 0 ls [])).length = lens ls := by rw [keysE_len, rowsE_len]; simp
  constructor
  · rintro ⟨at_, hf, hT, hc⟩
    obtain ⟨hi, hs⟩ := fillRows_ok m ls 0 _ _ [] (Inv.start m) hf
    have hall := pigeon1 m _ (hlen.trans hT) hi.nodup hi.range
    refine ⟨hs, hT, by rw [distN_nodup _ hi.nodup, hlen, hT], fun i him => ⟨hall i him, fun j hj hcf => ?_⟩⟩
    have h1 := hc i j hj him (by rw [confB_comm]; exact hcf)
    have h2 := hi.yes i him (hall i him)
    have h3 := hi.yes j (by omega) (hall j (by omega))
    omega
  · rintro ⟨hs, hT, _, hc⟩
    obtain ⟨hn, hr⟩ := pigeon2 m _ (hlen.trans hT) (fun i hi => (hc i hi).1)
    obtain ⟨a, ha⟩ := fillRows_some m ls 0 _ [] (Inv.start m) hn hr hs
    obtain ⟨hi, _⟩ := fillRows_ok m ls 0 _ _ [] (Inv.start m) ha
    refine ⟨a, ha, hT, fun i j hj him hcf => ?_⟩
    have h1 := (hc i him).2 j hj (by rw [confB_comm]; exact hcf)
    have h2 := hi.yes i him (hc i him).1
    have h3 := hi.yes j (by omega) (hc j (by omega)).1
    omega
end Go.Proofs.Ytembjokbhbdoeaa
