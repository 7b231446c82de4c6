/- The reference's Proved. -/
import Derived.Test.YtdhaaeaacbnghaaMRoot
namespace Go.Proofs.Ytdhaaeaacbnghaa
open Go.ChangeShapes Go.WideShapes Go.ChangeAt Go.RowKit Go.Mem Go.Mk
set_option linter.unusedVariables false

def OwnPost (P : List Int) (D : Nat) (w : World) (e : Ending) (w' : World) : Prop := ∃ v, e = .returned v ∧ w'.ownsRow w.heap.size 22 1 v D (vints .u64 P) ∧ Below w.heap.size w w'
theorem keepB {w w1 w2 : World} {B : Nat} (h : Below B w w1) (hb : Below w1.heap.size w1 w2) (hB : B ≤ w.heap.size := by exact Nat.le_refl _) : Below B w w2 := h.trans (hb.mono (Nat.le_trans hB h.size))
theorem keepA {w w1 : World} {B : Nat} (h : Below B w w1) (o : Obj) (hB : B ≤ w.heap.size := by exact Nat.le_refl _) : Below B w (w1.alloc o) := h.alloc (Nat.le_trans hB h.size) o
theorem keepG {w w8 w9 w1 : World} {o : Obj} {B e size n : Nat} {v : Value} {xs : List Value} (h : Below B w (w9.alloc o)) (hown : w8.ownsRow B e size v n xs) (hb : Below w8.heap.size w8 w9) (hg : (w9.alloc o).grownBy w1 v.ownBlock) (hB : B ≤ w.heap.size := by exact Nat.le_refl _) : Below B w w1 :=
  h.grown hg (Nat.le_trans hB h.size) (fun j hj => (own_lt hown j hj).1)
theorem own_lower {w : World} {base base2 e size n : Nat} {v : Value} {xs : List Value} (h : w.ownsRow base e size v n xs) (hb : base2 ≤ base) : w.ownsRow base2 e size v n xs := own_base h fun g hg => Nat.le_trans hb (own_lt h g hg).1
def OwnLow (P : List Int) (D B : Nat) (w : World) (e : Ending) (w' : World) : Prop := ∃ v, e = .returned v ∧ w'.ownsRow B 22 1 v D (vints .u64 P) ∧ Below w.heap.size w w'
theorem OwnPost.low {P : List Int} {D B : Nat} {w w' : World} {e : Ending} (h : OwnPost P D w e w') (hB : B ≤ w.heap.size) : OwnLow P D B w e w' := by
  obtain ⟨v, h1, h2, h3⟩ := h
  exact ⟨v, h1, own_lower h2 hB, h3⟩
theorem prov_len (T : Int → Int → Int) : ∀ (n : Nat) (l : List Int) (i : Nat), l.length = n → 1 ≤ n → i < n → ∀ m, n ≤ m → (prov T l i).length ≤ m := by
  intro n
  induction n using Nat.strongRecOn with
  | _ n ih =>
    intro l i hl h1 hi m hm
    by_cases h : n = 1
    · subst h; rw [prov_one T l i hl]; simp
    · obtain ⟨s1, s2⟩ := hf_spec n (by omega)
      have s3 := hf_pos n
      rw [prov_two T l i (by omega), hl]
      split
      · rename_i q
        have := ih (hf n) s1 (l.take (hf n)) i (by simp; omega) s3 q (hf n) (Nat.le_refl _)
        simp; omega
      · rename_i q
        have := ih (n - hf n) (by omega) (l.drop (hf n)) (i - hf n) (by simp; omega) (by omega) (by omega) (n - hf n) (Nat.le_refl _)
        simp; omega

set_option maxHeartbeats 8000000 in
set_option maxRecDepth 100000 in
theorem ref_Proved : ∀ (n : Nat) (l : List Int) (a : Option Addr) (cap i : Nat) (w : World), l.length = n → 1 ≤ n → n ≤ 4096 → i < n → n ≤ cap → cap ≤ 9223372036854775807 → U64s l → IntsAt .u64 w a l →
    Calls Try.prog 80 #[.slice a n cap, .int .i64 i] w (OwnPost (prov tieI l i) (prov tieI l i).length w) := by
  intro n
  induction n using Nat.strongRecOn with
  | _ n ih =>
    intro l a cap i w hl h1 h2 hi hc hc2 hu hin
    by_cases h0 : n = 1
    · subst h0
      rw [prov_one tieI l i hl]
      clear ih hu hin
      go_enter Try.func80, Try.ntmps80
      go_wp2
      go_ret
      exact ⟨_, rfl, ⟨rfl, .inl ⟨rfl, rfl⟩⟩, Below.refl _ _⟩
    · obtain ⟨x, rfl, hx, hcell⟩ := hin (by omega)
      obtain ⟨s1, s2⟩ := hf_spec n (by omega)
      have s3 := hf_pos n
      have ht := prov_two tieI l i (by omega)
      rw [hl] at ht
      have hh := ref_half n (by omega) (by omega)
      obtain ⟨k, hk⟩ : ∃ k, k = hf n := ⟨_, rfl⟩
      rw [← hk] at s1 s2 s3 ht hh
      have HH := Lib.hid hh
      have HI := Lib.hid hin
      have z1 : k ≤ cap := by omega
      have z2 : k ≤ n := by omega
      have z3 : ¬ cap = k := by omega
      by_cases q : i < k
      · rw [if_pos q] at ht
        obtain ⟨P, hP⟩ : ∃ P, P = prov tieI (l.take k) i := ⟨_, rfl⟩
        obtain ⟨D, hD⟩ : ∃ D, P.length = D := ⟨_, rfl⟩
        obtain ⟨B, hB, lB⟩ := (top_in (l.drop k) (hu.drop k)).nat
        rw [← hP, hB] at ht
        rw [ht, List.length_append, hD]
        have cp : ∀ w' : World, Below w.heap.size w w' → Calls Try.prog 80 #[.slice (some x) k cap, .int .i64 i] w' (OwnLow P D w.heap.size w') := fun w' h => by
          rw [← hD, hP]; exact (ih k s1 (l.take k) (some x) cap i w' (by simp; omega) s3 (by omega) q z1 hc2 (hu.take k) ((hin.below h).take k)).mono fun _ _ p => p.low h.size
        have ct : ∀ w' : World, Below w.heap.size w w' → Calls Try.prog 78 #[.slice (some (x.add k)) (n - k) (cap - k)] w' fun e w2 => e = .returned (.int .u64 B) ∧ Below w'.heap.size w' w2 := fun w' h => by
          have h' := (hin.below h).cut k cap (by omega)
          rw [if_neg (by omega)] at h'
          rw [← hB]; exact ref_Top (n - k) (l.drop k) (some (x.add k)) (cap - k) w' (by simp; omega) (by omega) (by omega) (by omega) (hu.drop k) h'
        have CP := Lib.hid cp
        have CT := Lib.hid ct
        have hDb : D ≤ 4096 := by rw [← hD, hP]; exact prov_len tieI k (l.take k) i (by simp; omega) s3 q 4096 (by omega)
        have e1 : vints .u64 (P ++ [(B : Int)]) = vints .u64 P ++ [Value.int .u64 B] := by simp [vints]
        have E1 := Lib.hid e1
        clear ih hu hin hcell hh ht hP hB hD cp ct hk e1
        go_enter Try.func80, Try.ntmps80
        go_wp2_with (go_at_call 97; refine (HH.out _).mono ?_; rintro e w1 ⟨rfl, rfl⟩)
        obtain ⟨i0, hi0, hz0, hz1, hz2⟩ := info_parts (show (Try.prog.info? 22).map (fun i => (i.zero, i.size, i.bytes)) = some (some (.int .u64 0), 1, 8) by kernel_rfl)
        go_region_held3 (fun w' => Below w.heap.size w w')
          (first | exact (Below.refl _ _).drew | exact keepB (by assumption) (by assumption) | exact keepA (by assumption) _ | exact keepG (by assumption) hown8 hb9 hgrow)
          (first
            | (go_at_call 80; (with_reducible refine (CP.out _ (by assumption)).mono ?_); rintro e w8 ⟨v8, rfl, hown8, hb8⟩)
            | (go_at_call 78; (with_reducible refine (CT.out _ (by assumption)).mono ?_); rintro e w9 ⟨rfl, hb9⟩)
            | (refine step_append_lies _ (by rfl) _ _ _ (by rfl) w.heap.size 22 i0 _ 1 8 Try.underlying33 hi0 hz0 hz1 hz2 rfl (by omega) v8 D (vints .u64 P) (by rfl) ((own_below hown8 hb9).alloc _) ⟨w9.heap.size, 0, none⟩ 1 1 [.int .u64 B] (by rfl) (by rfl) (World.news_of_block (cs := #[.int .u64 B]) (t := 22) (fr := (0, 0)) (heap_alloc_new w9 _)) (by simp [Value.oneCell']) (by omega) (by unfold maxLen; omega) (by omega) (by have hz := (keepB (B := w.heap.size) (keepB (B := w.heap.size) (Below.refl w.heap.size w).drew hb8) hb9).size; simp; omega) (w9.heap.size + 1) (by simp) ?_; intro gg cap1 w1 hown1 hgrow hat hlt))
        go_wp2
        go_ret
        exact ⟨_, rfl, by rw [E1.out]; exact hown1, by assumption⟩
      · rw [if_neg q] at ht
        obtain ⟨P, hP⟩ : ∃ P, P = prov tieI (l.drop k) (i - k) := ⟨_, rfl⟩
        obtain ⟨D, hD⟩ : ∃ D, P.length = D := ⟨_, rfl⟩
        obtain ⟨B, hB, lB⟩ := (top_in (l.take k) (hu.take k)).nat
        rw [← hP, hB] at ht
        rw [ht, List.length_append, hD]
        have cp : ∀ w' : World, Below w.heap.size w w' → Calls Try.prog 80 #[.slice (some (x.add k)) (n - k) (cap - k), .int .i64 ((i : Int) - k)] w' (OwnLow P D w.heap.size w') := fun w' h => by
          rw [← hD, hP]; have h' := (hin.below h).cut k cap (by omega)
          rw [if_neg (by omega)] at h'
          rw [show (i : Int) - k = ((i - k : Nat) : Int) by omega]
          exact (ih (n - k) (by omega) (l.drop k) (some (x.add k)) (cap - k) (i - k) w' (by simp; omega) (by omega) (by omega) (by omega) (by omega) (by omega) (hu.drop k) h').mono fun _ _ p => p.low h.size
        have ct : ∀ w' : World, Below w.heap.size w w' → Calls Try.prog 78 #[.slice (some x) k cap] w' fun e w2 => e = .returned (.int .u64 B) ∧ Below w'.heap.size w' w2 := fun w' h => by
          rw [← hB]; exact ref_Top k (l.take k) (some x) cap w' (by simp; omega) (by omega) hc2 (by omega) (hu.take k) ((hin.below h).take k)
        have CP := Lib.hid cp
        have CT := Lib.hid ct
        have hDb : D ≤ 4096 := by rw [← hD, hP]; exact prov_len tieI (n - k) (l.drop k) (i - k) (by simp; omega) (by omega) (by omega) 4096 (by omega)
        have e1 : vints .u64 (P ++ [(B : Int)]) = vints .u64 P ++ [Value.int .u64 B] := by simp [vints]
        have E1 := Lib.hid e1
        have z4 : (k : Int) ≤ i := by omega
        have z5 : IntKind.i64.wrap ((i : Int) - k) = (i : Int) - k := by rw [IntKind.wrap_i64]; omega
        clear ih hu hin hcell hh ht hP hB hD cp ct hk e1
        go_enter Try.func80, Try.ntmps80
        go_wp2_with (go_at_call 97; refine (HH.out _).mono ?_; rintro e w1 ⟨rfl, rfl⟩)
        obtain ⟨i0, hi0, hz0, hz1, hz2⟩ := info_parts (show (Try.prog.info? 22).map (fun i => (i.zero, i.size, i.bytes)) = some (some (.int .u64 0), 1, 8) by kernel_rfl)
        go_region_held3 (fun w' => Below w.heap.size w w')
          (first | exact (Below.refl _ _).drew | exact keepB (by assumption) (by assumption) | exact keepA (by assumption) _ | exact keepG (by assumption) hown8 hb9 hgrow)
          (first
            | (go_at_call 80; (with_reducible refine (CP.out _ (by assumption)).mono ?_); rintro e w8 ⟨v8, rfl, hown8, hb8⟩)
            | (go_at_call 78; (with_reducible refine (CT.out _ (by assumption)).mono ?_); rintro e w9 ⟨rfl, hb9⟩)
            | (refine step_append_lies _ (by rfl) _ _ _ (by rfl) w.heap.size 22 i0 _ 1 8 Try.underlying33 hi0 hz0 hz1 hz2 rfl (by omega) v8 D (vints .u64 P) (by rfl) ((own_below hown8 hb9).alloc _) ⟨w9.heap.size, 0, none⟩ 1 1 [.int .u64 B] (by rfl) (by rfl) (World.news_of_block (cs := #[.int .u64 B]) (t := 22) (fr := (0, 0)) (heap_alloc_new w9 _)) (by simp [Value.oneCell']) (by omega) (by unfold maxLen; omega) (by omega) (by have hz := (keepB (B := w.heap.size) (keepB (B := w.heap.size) (Below.refl w.heap.size w).drew hb8) hb9).size; simp; omega) (w9.heap.size + 1) (by simp) ?_; intro gg cap1 w1 hown1 hgrow hat hlt))
        go_wp2
        go_ret
        exact ⟨_, rfl, by rw [E1.out]; exact hown1, by assumption⟩
end Go.Proofs.Ytdhaaeaacbnghaa
