/- Slots: Alive, Free, Gens, and the room's. -/
import Derived.Test.YtlahmcbaiebapaaSlotM
import Derived.Test.YtlahmcbaiebapaaCloneI
import Derived.BigQuiet
namespace Go.Proofs.Ytlahmcbaiebapaa
open Go.ChangeShapes Go.WideShapes Go.ChangeAt Go.RowKit Go.Mem Go.Sp Go.Slt
set_option linter.unusedVariables false
variable {w w' : World} {D s r : Nat} {vg vu vf vb vh : Value} {G : List Int} {B : List Bool} {U F : List Nat}
theorem add_zero_at (g i : Nat) : (Addr.mk g 0 none).add i = ⟨g, i, none⟩ := by unfold Addr.add; split <;> simp_all
theorem sets_HasN (A : List Nat) (a : Option Addr) (n c : Nat) (hn : A.length = n) (h1 : n ≤ 17592186044416) (ha : Words A) (i : Int) (hi : i ≤ 9223372036854775807) (w : World) (hz : SetAt w a A) (k : Nat) :
    Calls Try.prog 21 #[.slice a n c, .int .i64 i] (w.drewN k) fun e w' => e = .returned (.bool (decide (0 ≤ i) && bit A i.toNat)) ∧ w' = w.drewN k :=
  (sets_Has A a n c hn h1 ha i hi (w.drewN k) hz).mono fun _ _ ⟨h, h2⟩ => ⟨h, h2.symm⟩
theorem vints_cell {w : World} {base e n : Nat} {a : Option Addr} {cap : Nat} {L : List Int} (h : w.ownsRow base e 1 (.slice a n cap) L.length (vints .i64 L)) (i : Nat) (hi : i < L.length) : ∃ g, a = some ⟨g, 0, none⟩ ∧ n = L.length ∧ L.length ≤ cap ∧ g < w.heap.size ∧ base ≤ g ∧ w.cell? ⟨g, i, none⟩ = some (.int .i64 (L.getD i 0)) ∧ w.frozen? ⟨g, i, none⟩ = false := by
  rcases h.2 with ⟨h1, h2⟩ | ⟨g, cap', cur, h1, h2, h3, h4, h5⟩
  · omega
  · injection h1 with e1 e2 e3
    subst e1
    exact ⟨g, rfl, e2, by omega, lt_of_heap h3, h2, (by have := h.cells (g := g) rfl i _ (vints_get .i64 L i hi); rwa [add_zero_at] at this), Mem.frozen_of_row h3 i⟩

set_option maxRecDepth 100000 in
set_option maxHeartbeats 4000000 in
theorem sl_Alive (h : Sl w D s vg vu vf G B U F) (si : SI G B U F) (N g : Int) (hN : N ≤ 9223372036854775807) :
    Calls Try.prog 37 #[.pointer (some ⟨s, 0, none⟩), .agg #[.int .i64 N, .int .i64 g]] w fun e w' => e = .returned (.bool (alive G B N g)) ∧ Below w.heap.size w w' := by
  have hb0 : Below w.heap.size w (w.alloc (.cells #[.int .i64 N, .int .i64 g] 55)) := (Below.refl _ _).alloc (Nat.le_refl _) _
  have h0 := h.below hb0
  have bx := heap_alloc_new w (.cells #[.int .i64 N, .int .i64 g] 55)
  have x0 := cell_of_row _ _ 0 _ _ _ bx
  have x1 := cell_of_row _ _ 1 _ _ _ bx
  simp only [List.getElem?_toArray, List.getElem?_cons_zero, List.getElem?_cons_succ] at x0 x1
  obtain ⟨au, cu, rfl⟩ := own_slice h.used
  obtain ⟨ag, cg, rfl⟩ := own_slice h.gens
  have c0 := h0.c0
  have c1 := h0.c1
  have CH := sets_HasN U au U.length cu rfl (by have := si.cu.1; omega) si.cu.2.1 N hN _ h0.su
  rw [si.used] at CH
  by_cases ha : 0 ≤ N ∧ B.getD N.toNat false = true
  · obtain ⟨n, rfl⟩ : ∃ n : Nat, N = (n : Int) := ⟨N.toNat, by omega⟩
    rw [Int.toNat_natCast] at ha CH
    have hn : n < G.length := by
      rw [← si.len]
      rcases Nat.lt_or_ge n B.length with q | q
      · exact q
      · rw [getD_over q] at ha; cases ha.2
    have hal : alive G B (n : Int) g = decide (G.getD n 0 = g) := by unfold alive; rw [Int.toNat_natCast, ha.2, decide_eq_true ha.1]; rfl
    rw [ha.2, decide_eq_true ha.1] at CH
    obtain ⟨gg, rfl, _, _, _, _, cc, _⟩ := vints_cell h0.gens n hn
    obtain ⟨q, hq⟩ : ∃ q, q = G.getD n 0 := ⟨_, rfl⟩
    rw [hal, ← hq]
    rw [← hq] at cc
    obtain ⟨m, hm⟩ : ∃ m, m = G.length := ⟨_, rfl⟩
    rw [← hm] at c0 hn
    have i1 : (0 : Int) ≤ (n : Int) := by omega
    have i2 : (n : Int) < (m : Int) := by omega
    have HCH := Lib.hid CH
    have HB0 := Lib.hid hb0
    clear h h0 si hb0 bx CH ha hal hq hm
    go_enter Try.func37, Try.ntmps37
    go_wp2_with fail
    go_quiet ((go_at_call 21; exact Calls.quiet_of_same (HCH.out _)))
    go_wp2_with fail
    go_ret
    exact ⟨rfl, below_drewN HB0.out _⟩
  · have hal : alive G B N g = false := by
      unfold alive
      by_cases h1 : 0 ≤ N
      · have : B.getD N.toNat false = false := Bool.eq_false_iff.2 (fun h2 => ha ⟨h1, h2⟩)
        rw [this]; simp
      · rw [decide_eq_false h1]; rfl
    have hf : (decide (0 ≤ N) && B.getD N.toNat false) = false := by
      rw [Bool.and_eq_false_iff]
      by_cases h1 : 0 ≤ N
      · exact .inr (Bool.eq_false_iff.2 (fun h2 => ha ⟨h1, h2⟩))
      · exact .inl (decide_eq_false h1)
    rw [hal]
    rw [hf] at CH
    have HCH := Lib.hid CH
    have HB0 := Lib.hid hb0
    clear h h0 si hb0 bx CH ha hal hf
    go_enter Try.func37, Try.ntmps37
    go_wp2_with fail
    go_quiet ((go_at_call 21; exact Calls.quiet_of_same (HCH.out _)))
    go_wp2_with fail
    go_ret
    exact ⟨rfl, below_drewN HB0.out _⟩
theorem vbools_cell {w : World} {base e n : Nat} {a : Option Addr} {cap : Nat} {L : List Bool} (h : w.ownsRow base e 1 (.slice a n cap) L.length (vbools L)) (i : Nat) (hi : i < L.length) : ∃ g, a = some ⟨g, 0, none⟩ ∧ n = L.length ∧ L.length ≤ cap ∧ g < w.heap.size ∧ base ≤ g ∧ w.cell? ⟨g, i, none⟩ = some (.bool (L.getD i false)) ∧ w.frozen? ⟨g, i, none⟩ = false := by
  rcases h.2 with ⟨h1, h2⟩ | ⟨g, cap', cur, h1, h2, h3, h4, h5⟩
  · omega
  · injection h1 with e1 e2 e3
    subst e1
    exact ⟨g, rfl, e2, by omega, lt_of_heap h3, h2, (by have := h.cells (g := g) rfl i _ (vbools_get L i hi); rwa [add_zero_at] at this), Mem.frozen_of_row h3 i⟩

set_option maxRecDepth 100000 in
set_option maxHeartbeats 4000000 in
theorem rm_Alive (h : Rm w D r vg vb G B) (hl : B.length = G.length) (N g : Int) :
    Calls Try.prog 38 #[.pointer (some ⟨r, 0, none⟩), .agg #[.int .i64 N, .int .i64 g]] w fun e w' => e = .returned (.bool (alive G B N g)) ∧ Below w.heap.size w w' := by
  have hb0 : Below w.heap.size w (w.alloc (.cells #[.int .i64 N, .int .i64 g] 55)) := (Below.refl _ _).alloc (Nat.le_refl _) _
  have h0 := h.below hb0
  have bx := heap_alloc_new w (.cells #[.int .i64 N, .int .i64 g] 55)
  have x0 := cell_of_row _ _ 0 _ _ _ bx
  have x1 := cell_of_row _ _ 1 _ _ _ bx
  simp only [List.getElem?_toArray, List.getElem?_cons_zero, List.getElem?_cons_succ] at x0 x1
  obtain ⟨ab, cb, rfl⟩ := own_slice h.used
  obtain ⟨ag, cg, rfl⟩ := own_slice h.gens
  have c0 := h0.c0
  have c1 := h0.c1
  have HB0 := Lib.hid hb0
  by_cases h1 : 0 ≤ N
  · obtain ⟨n, rfl⟩ : ∃ n : Nat, N = (n : Int) := ⟨N.toNat, by omega⟩
    have d0 : decide ((0 : Int) ≤ (n : Int)) = true := decide_eq_true h1
    by_cases h2 : n < B.length
    · obtain ⟨gb, rfl, _, _, _, _, cc, _⟩ := vbools_cell h0.used n h2
      obtain ⟨gg, rfl, _, _, _, _, cg2, _⟩ := vints_cell h0.gens n (by omega)
      obtain ⟨m, hm⟩ : ∃ m, m = G.length := ⟨_, rfl⟩
      rw [hl, ← hm] at c1 h2
      rw [← hm] at c0
      have i1 : (0 : Int) ≤ (n : Int) := by omega
      have i2 : (n : Int) < (m : Int) := by omega
      have d1 : decide (n < m) = true := decide_eq_true h2
      cases hb : B.getD n false
      · rw [hb] at cc
        have hal : alive G B (n : Int) g = false := by unfold alive; rw [Int.toNat_natCast, hb]; simp
        rw [hal]
        clear h h0 hb0 bx hm hb hal hl
        go_enter Try.func38, Try.ntmps38
        go_wp2_with fail
        go_quiet (fail)
        go_wp2_with fail
        go_ret
        exact ⟨rfl, below_drewN HB0.out _⟩
      · rw [hb] at cc
        obtain ⟨q, hq⟩ : ∃ q, q = G.getD n 0 := ⟨_, rfl⟩
        have hal : alive G B (n : Int) g = decide (q = g) := by unfold alive; rw [Int.toNat_natCast, hb, decide_eq_true h1, ← hq]; rfl
        rw [hal]
        rw [← hq] at cg2
        clear h h0 hb0 bx hm hb hal hl hq
        go_enter Try.func38, Try.ntmps38
        go_wp2_with fail
        go_quiet (fail)
        go_wp2_with fail
        go_ret
        exact ⟨rfl, below_drewN HB0.out _⟩
    · have hal : alive G B (n : Int) g = false := by unfold alive; rw [Int.toNat_natCast, getD_over (by omega)]; simp
      rw [hal]
      obtain ⟨m, hm⟩ : ∃ m, m = B.length := ⟨_, rfl⟩
      rw [← hm] at c1 h2
      have d1 : decide (n < m) = false := decide_eq_false h2
      clear h h0 hb0 bx hm hal hl
      go_enter Try.func38, Try.ntmps38
      go_wp2_with fail
      go_quiet (fail)
      go_wp2_with fail
      go_ret
      exact ⟨rfl, below_drewN HB0.out _⟩
  · have hal : alive G B N g = false := by unfold alive; rw [decide_eq_false h1]; rfl
    have d0 : decide (0 ≤ N) = false := decide_eq_false h1
    rw [hal]
    clear h h0 hb0 bx hal hl
    go_enter Try.func38, Try.ntmps38
    go_wp2_with fail
    go_quiet (fail)
    go_wp2_with fail
    go_ret
    exact ⟨rfl, below_drewN HB0.out _⟩
theorem sl_Gens (h : Sl w D s vg vu vf G B U F) (hl : G.length ≤ 256) :
    Calls Try.prog 44 #[.pointer (some ⟨s, 0, none⟩)] w fun e w' => ∃ a c, e = .returned (.slice a G.length c) ∧ IntsAt .i64 w' a G ∧ Below w.heap.size w w' := by
  obtain ⟨ag, cg, rfl⟩ := own_slice h.gens
  have c0 := h.c0
  have HI := Lib.hid (IntsAt.of_own h.gens rfl)
  obtain ⟨m, hm⟩ : ∃ m, m = G.length := ⟨_, rfl⟩
  rw [← hm] at c0 hl
  rw [← hm]
  have HM := Lib.hid hm
  have hnil := World.ownsRow_nil w w.heap.size 3 1
  clear h hm
  go_enter Try.func44, Try.ntmps44
  go_wp2_with (at_builtin; go_must (refine wpList_append_ints rfl _ _ 23 rfl w.heap.size 3 .i64 8 Try.underlying23 (by kernel_rfl) (.slice none 0 0) 0 [] rfl hnil ag m cg G rfl HM.out.symm HI.out (by unfold maxLen; omega) (by omega) (by simp) ?_))
  intro v1 w1 hown hgr hat
  obtain ⟨a1, c1, rfl⟩ := own_slice hown
  have HO := Lib.hid (IntsAt.of_own hown HM.out)
  have hb1 : Below w.heap.size w w1 := (Below.refl _ _).grown hgr (Nat.le_refl _) (fun k hk => by cases hk)
  have HB1 := Lib.hid hb1
  clear hown hgr hat hb1
  go_wp2_with fail
  go_ret
  exact ⟨_, _, rfl, HO.out, HB1.out⟩
end Go.Proofs.Ytlahmcbaiebapaa
