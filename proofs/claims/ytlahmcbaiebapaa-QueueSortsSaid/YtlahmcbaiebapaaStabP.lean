/- A stable sort by merging in place: the plain laws. -/
import Derived.WalkKit
namespace Go.Sb
set_option linter.unusedVariables false
set_option linter.unusedSimpArgs false
set_option linter.unnecessarySimpa false
def lt (K : Int → Int) (x y : Int) : Prop := K x < K y ∨ (K x = K y ∧ x < y)
theorem lt_trans {K : Int → Int} {x y z : Int} (h : lt K x y) (h2 : lt K y z) : lt K x z := by unfold lt at *; omega
theorem lt_irrefl {K : Int → Int} {x : Int} (h : lt K x x) : False := by unfold lt at h; omega
theorem lt_asymm {K : Int → Int} {x y : Int} (h : lt K x y) (h2 : lt K y x) : False := by unfold lt at *; omega
theorem lt_right {K : Int → Int} {x y : Int} (h : x < y) : lt K y x ↔ K y < K x := by unfold lt; omega
theorem lt_left {K : Int → Int} {x y : Int} (h : x < y) : lt K x y ↔ ¬ K y < K x := by unfold lt; omega
def Srt (K : Int → Int) (l : List Int) : Prop := l.Pairwise (lt K)
theorem srt_uniq {K : Int → Int} : ∀ {l l2 : List Int}, Srt K l → Srt K l2 → l.Perm l2 → l = l2
  | [], l2, _, _, hp => (List.nil_perm.1 hp).symm
  | x :: t, [], _, _, hp => (List.cons_ne_nil _ _ (List.perm_nil.1 hp)).elim
  | x :: t, y :: t2, h1, h2, hp => by
    have e : x = y := by
      rcases Classical.em (x = y) with e | e
      · exact e
      · have hx : x ∈ t2 := by
          have := hp.mem_iff.1 (List.mem_cons_self (a := x) (l := t))
          rcases List.mem_cons.1 this with h | h
          · exact absurd h e
          · exact h
        have hy : y ∈ t := by
          have := hp.mem_iff.2 (List.mem_cons_self (a := y) (l := t2))
          rcases List.mem_cons.1 this with h | h
          · exact absurd h.symm e
          · exact h
        exact (lt_asymm (List.rel_of_pairwise_cons h1 hy) (List.rel_of_pairwise_cons h2 hx)).elim
    subst e
    rw [srt_uniq (List.Pairwise.of_cons h1) (List.Pairwise.of_cons h2) ((List.perm_cons x).1 hp)]

/-! Two places changed for each other. -/
theorem swap_app (L Q R : List Int) (u v : Int) : ((L ++ u :: (Q ++ v :: R)).set L.length v).set (L.length + 1 + Q.length) u = L ++ v :: (Q ++ u :: R) := by
  rw [List.set_append_right _ _ (Nat.le_refl _), Nat.sub_self, List.set_cons_zero, List.set_append_right _ _ (by omega), show L.length + 1 + Q.length - L.length = Q.length + 1 by omega, List.set_cons_succ, List.set_append_right _ _ (Nat.le_refl _), Nat.sub_self, List.set_cons_zero]
theorem swap_app2 (L Q R : List Int) (u v : Int) : ((L ++ u :: (Q ++ v :: R)).set (L.length + 1 + Q.length) u).set L.length v = L ++ v :: (Q ++ u :: R) := by
  rw [List.set_append_right _ _ (show L.length ≤ L.length + 1 + Q.length by omega), show L.length + 1 + Q.length - L.length = Q.length + 1 by omega, List.set_cons_succ, List.set_append_right _ _ (Nat.le_refl _), Nat.sub_self, List.set_cons_zero, List.set_append_right _ _ (Nat.le_refl _), Nat.sub_self, List.set_cons_zero]
theorem getD_at (L R : List Int) (u : Int) (k : Nat) (h : L.length = k) : (L ++ u :: R).getD k 0 = u := by
  subst h
  rw [List.getD_eq_getElem?_getD, List.getElem?_append_right (Nat.le_refl _)]
  simp

/-! One pair of neighbours changed for each other, told by lists. -/
theorem near_swap {D L R : List Int} {u v : Int} {k : Nat} (hD : D = L ++ u :: v :: R) (hk : L.length = k) : D.getD k 0 = u ∧ D.getD (k + 1) 0 = v ∧ (D.set k v).set (k + 1) u = L ++ v :: u :: R ∧ (D.set (k + 1) u).set k v = L ++ v :: u :: R ∧ k + 1 < D.length := by
  subst hk; subst hD
  refine ⟨getD_at _ _ _ _ rfl, ?_, swap_app L [] R u v, swap_app2 L [] R u v, by simp⟩
  have := getD_at (L ++ [u]) R v (L.length + 1) (by simp)
  simpa using this
theorem far_swap {D L Q R : List Int} {u v : Int} {k m : Nat} (hD : D = L ++ u :: (Q ++ v :: R)) (hk : L.length = k) (hm : k + 1 + Q.length = m) : D.getD k 0 = u ∧ D.getD m 0 = v ∧ (D.set k v).set m u = L ++ v :: (Q ++ u :: R) ∧ m < D.length := by
  subst hk; subst hm; subst hD
  refine ⟨getD_at _ _ _ _ rfl, ?_, swap_app L Q R u v, by simp; omega⟩
  have := getD_at (L ++ u :: Q) R v (L.length + 1 + Q.length) (by simp; omega)
  simpa using this

/-! Two ranges changed for each other, element by element. -/
def mixR (P X Q Y S : List Int) (i : Nat) : List Int := P ++ Y.take i ++ X.drop i ++ Q ++ X.take i ++ Y.drop i ++ S
theorem mix_zero (P X Q Y S : List Int) : mixR P X Q Y S 0 = P ++ X ++ Q ++ Y ++ S := by simp [mixR]
theorem mix_all (P X Q Y S : List Int) (n : Nat) (hx : X.length = n) (hy : Y.length = n) : mixR P X Q Y S n = P ++ Y ++ Q ++ X ++ S := by
  unfold mixR
  rw [List.take_of_length_le (by omega), List.drop_eq_nil_of_le (by omega), List.take_of_length_le (by omega), List.drop_eq_nil_of_le (by omega)]
  simp
theorem mix_step (P X Q Y S : List Int) (n i a b : Nat) (hx : X.length = n) (hy : Y.length = n) (hi : i < n) (ha : P.length = a) (hb : a + n + Q.length = b) :
    ∃ u v, (mixR P X Q Y S i).getD (a + i) 0 = u ∧ (mixR P X Q Y S i).getD (b + i) 0 = v ∧ ((mixR P X Q Y S i).set (a + i) v).set (b + i) u = mixR P X Q Y S (i + 1) ∧ b + i < (mixR P X Q Y S i).length ∧ a + i < (mixR P X Q Y S i).length := by
  have h1 : X.drop i = X[i] :: X.drop (i + 1) := List.drop_eq_getElem_cons (by omega)
  have h2 : Y.drop i = Y[i] :: Y.drop (i + 1) := List.drop_eq_getElem_cons (by omega)
  have e : mixR P X Q Y S i = (P ++ Y.take i) ++ X[i] :: ((X.drop (i + 1) ++ Q ++ X.take i) ++ Y[i] :: (Y.drop (i + 1) ++ S)) := by
    unfold mixR; rw [h1, h2]; simp only [List.append_assoc, List.cons_append]
  have hl : (P ++ Y.take i).length = a + i := by simp; omega
  have hm : a + i + 1 + (X.drop (i + 1) ++ Q ++ X.take i).length = b + i := by simp; omega
  obtain ⟨q1, q2, q3, q4⟩ := far_swap e hl hm
  refine ⟨_, _, q1, q2, ?_, q4, by have := q4; omega⟩
  rw [q3]
  unfold mixR
  rw [List.take_succ_eq_append_getElem (show i < X.length by omega), List.take_succ_eq_append_getElem (show i < Y.length by omega)]
  simp only [List.append_assoc, List.cons_append, List.nil_append]

/-! Rotation. -/
theorem rot_left {P X Y S : List Int} {i j : Nat} (hx : X.length = i) (hy : Y.length = j) (h : j < i) :
    ∃ X1 X2, X = X1 ++ X2 ∧ X1.length = j ∧ X2.length = i - j := ⟨X.take j, X.drop j, (List.take_append_drop j X).symm, by simp; omega, by simp; omega⟩
theorem rot_right {X Y : List Int} {i j : Nat} (hx : X.length = i) (hy : Y.length = j) (h : i < j) :
    ∃ Y1 Y2, Y = Y1 ++ Y2 ∧ Y1.length = j - i ∧ Y2.length = i := ⟨Y.take (j - i), Y.drop (j - i), (List.take_append_drop _ Y).symm, by simp; omega, by simp; omega⟩

/-! Merging. -/
def Before (K : Int → Int) (A B : List Int) : Prop := ∀ x ∈ A, ∀ y ∈ B, lt K x y
theorem srt_append {K : Int → Int} {A B : List Int} (ha : Srt K A) (hb : Srt K B) (h : Before K A B) : Srt K (A ++ B) := List.pairwise_append.2 ⟨ha, hb, h⟩
theorem srt_left {K : Int → Int} {A B : List Int} (h : Srt K (A ++ B)) : Srt K A := (List.pairwise_append.1 h).1
theorem srt_right {K : Int → Int} {A B : List Int} (h : Srt K (A ++ B)) : Srt K B := (List.pairwise_append.1 h).2.1
theorem srt_before {K : Int → Int} {A B : List Int} (h : Srt K (A ++ B)) : Before K A B := (List.pairwise_append.1 h).2.2
theorem Before.perm {K : Int → Int} {A B A2 B2 : List Int} (h : Before K A B) (ha : A2.Perm A) (hb : B2.Perm B) : Before K A2 B2 := fun x hx y hy => h x (ha.mem_iff.1 hx) y (hb.mem_iff.1 hy)
/-- The elements of A come, as numbers, ahead of those of B. -/
def Ix (A B : List Int) : Prop := ∀ x ∈ A, ∀ y ∈ B, x < y
/-- What a merge makes of two sorted runs. -/
structure Merged (K : Int → Int) (A B M : List Int) : Prop where
  perm : M.Perm (A ++ B)
  srt : Srt K M
theorem Merged.len {K : Int → Int} {A B M : List Int} (h : Merged K A B M) : M.length = A.length + B.length := by rw [h.perm.length_eq, List.length_append]
theorem Merged.of_two {K : Int → Int} {A1 A2 B1 B2 M1 M2 : List Int} (h1 : Merged K A1 B1 M1) (h2 : Merged K A2 B2 M2) (ha : Srt K (A1 ++ A2)) (hb : Srt K (B1 ++ B2)) (h12 : Before K A1 B2) (h21 : Before K B1 A2) : Merged K (A1 ++ A2) (B1 ++ B2) (M1 ++ M2) := by
  refine ⟨(h1.perm.append h2.perm).trans ?_, srt_append h1.srt h2.srt ?_⟩
  · rw [List.append_assoc, List.append_assoc]
    refine List.Perm.append_left A1 ?_
    rw [← List.append_assoc, ← List.append_assoc]
    exact List.Perm.append_right B2 List.perm_append_comm
  · intro x hx y hy
    have hx' := h1.perm.mem_iff.1 hx
    have hy' := h2.perm.mem_iff.1 hy
    rcases List.mem_append.1 hx' with a | a <;> rcases List.mem_append.1 hy' with b | b
    · exact srt_before ha x a y b
    · exact h12 x a y b
    · exact h21 x a y b
    · exact srt_before hb x a y b
theorem merged_nil_right {K : Int → Int} {A : List Int} (h : Srt K A) : Merged K A [] A := ⟨by simp, h⟩
theorem merged_nil_left {K : Int → Int} {B : List Int} (h : Srt K B) : Merged K [] B B := ⟨by simp, h⟩
/-- One element goes into a run behind it. -/
theorem merged_one {K : Int → Int} {x : Int} {B1 B2 : List Int} (hb : Srt K (B1 ++ B2)) (h1 : ∀ y ∈ B1, lt K y x) (h2 : ∀ y ∈ B2, lt K x y) : Merged K [x] (B1 ++ B2) (B1 ++ x :: B2) := by
  refine ⟨List.perm_middle, srt_append (srt_left hb) (List.pairwise_cons.2 ⟨h2, srt_right hb⟩) ?_⟩
  intro y hy z hz
  rcases List.mem_cons.1 hz with rfl | hz
  · exact h1 y hy
  · exact srt_before hb y hy z hz
theorem merged_last {K : Int → Int} {x : Int} {A1 A2 : List Int} (ha : Srt K (A1 ++ A2)) (h1 : ∀ y ∈ A1, lt K y x) (h2 : ∀ y ∈ A2, lt K x y) : Merged K (A1 ++ A2) [x] (A1 ++ x :: A2) :=
  ⟨(merged_one ha h1 h2).perm.trans (List.perm_append_comm (l₁ := [x]) (l₂ := A1 ++ A2)), (merged_one ha h1 h2).srt⟩

/-! Runs by place. -/
theorem getD_mem {l : List Int} {i : Nat} (h : i < l.length) : l.getD i 0 ∈ l := by
  rw [List.getD_eq_getElem?_getD, List.getElem?_eq_getElem h]; exact List.getElem_mem h
theorem srt_getD {K : Int → Int} {l : List Int} (h : Srt K l) {i j : Nat} (hij : i < j) (hj : j < l.length) : lt K (l.getD i 0) (l.getD j 0) := by
  have := List.pairwise_iff_getElem.1 h i j (by omega) hj hij
  rw [List.getD_eq_getElem?_getD, List.getD_eq_getElem?_getD, List.getElem?_eq_getElem hj, List.getElem?_eq_getElem (by omega)]
  exact this
theorem getD_app_left {A B : List Int} {i : Nat} (h : i < A.length) : (A ++ B).getD i 0 = A.getD i 0 := by
  rw [List.getD_eq_getElem?_getD, List.getD_eq_getElem?_getD, List.getElem?_append_left h]
theorem getD_app_right {A B : List Int} {i : Nat} (h : A.length ≤ i) : (A ++ B).getD i 0 = B.getD (i - A.length) 0 := by
  rw [List.getD_eq_getElem?_getD, List.getD_eq_getElem?_getD, List.getElem?_append_right h]
/-- Where the runs A and B stand in a row. -/
structure Runs (K : Int → Int) (D P A B S : List Int) (a m b : Nat) : Prop where
  eq : D = P ++ A ++ B ++ S
  ha : P.length = a
  hm : a + A.length = m
  hb : m + B.length = b
  sa : Srt K A
  sb : Srt K B
  ix : Ix A B
namespace Runs
variable {K : Int → Int} {D P A B S : List Int} {a m b : Nat}
theorem left (h : Runs K D P A B S a m b) {c : Nat} (h1 : a ≤ c) (h2 : c < m) : D.getD c 0 = A.getD (c - a) 0 := by
  have := h.ha; have := h.hm
  rw [h.eq, List.append_assoc, List.append_assoc, getD_app_right (by omega), getD_app_left (by omega), h.ha]
theorem right (h : Runs K D P A B S a m b) {c : Nat} (h1 : m ≤ c) (h2 : c < b) : D.getD c 0 = B.getD (c - m) 0 := by
  have := h.ha; have := h.hm; have := h.hb
  rw [h.eq, List.append_assoc, getD_app_right (by simp; omega), getD_app_left (by simp; omega)]
  congr 1
  simp; omega
theorem len (h : Runs K D P A B S a m b) : b ≤ D.length := by
  have := h.ha; have := h.hm; have := h.hb
  rw [h.eq]; simp; omega
theorem ixlt (h : Runs K D P A B S a m b) {c d : Nat} (h1 : a ≤ c) (h2 : c < m) (h3 : m ≤ d) (h4 : d < b) : D.getD c 0 < D.getD d 0 := by
  have := h.hm; have := h.hb
  rw [h.left h1 h2, h.right h3 h4]
  exact h.ix _ (getD_mem (by omega)) _ (getD_mem (by omega))
theorem mono_l (h : Runs K D P A B S a m b) {c d : Nat} (h1 : a ≤ c) (h2 : c < d) (h3 : d < m) : lt K (D.getD c 0) (D.getD d 0) := by
  have := h.hm
  rw [h.left h1 (by omega), h.left (by omega) h3]
  exact srt_getD h.sa (by omega) (by omega)
theorem mono_r (h : Runs K D P A B S a m b) {c d : Nat} (h1 : m ≤ c) (h2 : c < d) (h3 : d < b) : lt K (D.getD c 0) (D.getD d 0) := by
  have := h.hb
  rw [h.right h1 (by omega), h.right (by omega) h3]
  exact srt_getD h.sb (by omega) (by omega)
/-- The element at d of the second run, held against that at c of the first: smaller just where its key is. -/
theorem cmp (h : Runs K D P A B S a m b) {c d : Nat} (h1 : a ≤ c) (h2 : c < m) (h3 : m ≤ d) (h4 : d < b) : (lt K (D.getD d 0) (D.getD c 0) ↔ K (D.getD d 0) < K (D.getD c 0)) ∧ (lt K (D.getD c 0) (D.getD d 0) ↔ ¬ K (D.getD d 0) < K (D.getD c 0)) :=
  ⟨lt_right (h.ixlt h1 h2 h3 h4), lt_left (h.ixlt h1 h2 h3 h4)⟩
/-- Cut at 'start' and 'stop': what the search has found. -/
theorem cut (h : Runs K D P A B S a m b) {start stop : Nat} (s1 : a ≤ start) (s2 : start ≤ m) (e1 : m ≤ stop) (e2 : stop ≤ b)
    (hlo : start = a ∨ stop = b ∨ lt K (D.getD (start - 1) 0) (D.getD stop 0)) (hhi : start = m ∨ stop = m ∨ lt K (D.getD (stop - 1) 0) (D.getD start 0)) :
    ∃ A1 A2 B1 B2, A = A1 ++ A2 ∧ B = B1 ++ B2 ∧ a + A1.length = start ∧ m + B1.length = stop ∧ Before K A1 B2 ∧ Before K B1 A2 := by
  have hm := h.hm
  have hb := h.hb
  refine ⟨A.take (start - a), A.drop (start - a), B.take (stop - m), B.drop (stop - m), (List.take_append_drop _ _).symm, (List.take_append_drop _ _).symm, by simp; omega, by simp; omega, ?_, ?_⟩
  · intro x hx y hy
    obtain ⟨i, hi, rfl⟩ := List.getElem_of_mem hx
    obtain ⟨j, hj, rfl⟩ := List.getElem_of_mem hy
    simp at hi hj
    have ex : (A.take (start - a))[i]'(by simpa using hi) = D.getD (a + i) 0 := by
      rw [h.left (by omega) (by omega), List.getElem_take, show a + i - a = i by omega, List.getD_eq_getElem?_getD, List.getElem?_eq_getElem (by omega)]; rfl
    have ey : (B.drop (stop - m))[j]'(by simpa using hj) = D.getD (stop + j) 0 := by
      rw [h.right (by omega) (by omega), List.getElem_drop, show stop + j - m = stop - m + j by omega, List.getD_eq_getElem?_getD, List.getElem?_eq_getElem (by omega)]; rfl
    rw [ex, ey]
    rcases hlo with e | e | e
    · omega
    · omega
    · have q1 : lt K (D.getD (a + i) 0) (D.getD stop 0) := by
        by_cases e1 : a + i = start - 1
        · rw [e1]; exact e
        · exact lt_trans (h.mono_l (by omega) (by omega) (by omega)) e
      by_cases e2 : j = 0
      · subst e2; exact q1
      · exact lt_trans q1 (h.mono_r (by omega) (by omega) (by omega))
  · intro x hx y hy
    obtain ⟨i, hi, rfl⟩ := List.getElem_of_mem hx
    obtain ⟨j, hj, rfl⟩ := List.getElem_of_mem hy
    simp at hi hj
    have ex : (B.take (stop - m))[i]'(by simpa using hi) = D.getD (m + i) 0 := by
      rw [h.right (by omega) (by omega), List.getElem_take, show m + i - m = i by omega, List.getD_eq_getElem?_getD, List.getElem?_eq_getElem (by omega)]; rfl
    have ey : (A.drop (start - a))[j]'(by simpa using hj) = D.getD (start + j) 0 := by
      rw [h.left (by omega) (by omega), List.getElem_drop, show start + j - a = start - a + j by omega, List.getD_eq_getElem?_getD, List.getElem?_eq_getElem (by omega)]; rfl
    rw [ex, ey]
    rcases hhi with e | e | e
    · omega
    · omega
    · have q1 : lt K (D.getD (m + i) 0) (D.getD start 0) := by
        by_cases e1 : m + i = stop - 1
        · rw [e1]; exact e
        · exact lt_trans (h.mono_r (by omega) (by omega) (by omega)) e
      by_cases e2 : j = 0
      · subst e2; exact q1
      · exact lt_trans q1 (h.mono_l (by omega) (by omega) (by omega))
end Runs
end Go.Sb
