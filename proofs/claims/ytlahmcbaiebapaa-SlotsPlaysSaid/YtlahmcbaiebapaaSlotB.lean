/- Slots: what the law calls, both sides by side; slotsBegun. -/
import Derived.Test.YtlahmcbaiebapaaSlotT
import Derived.Test.YtlahmcbaiebapaaSlotU
import Derived.Test.YtlahmcbaiebapaaSlotR
namespace Go.Proofs.Ytlahmcbaiebapaa
open Go.ChangeShapes Go.WideShapes Go.ChangeAt Go.RowKit Go.Mem Go.Sp Go.Slt
set_option linter.unusedVariables false
variable {w w' W0 : World} {D s r : Nat} {vg vu vf vb vh : Value} {G G1 G2 : List Int} {B B1 B2 : List Bool} {U F : List Nat}
theorem Sl.lower (h : Sl w D s vg vu vf G B U F) {E : Nat} (he : E ≤ D) : Sl w E s vg vu vf G B U F := ⟨h.block, own_lower h.gens he, own_lower h.used he, own_lower h.free he, Nat.le_trans he h.ds, Nat.le_trans he h.dw⟩
theorem Rm.lower (h : Rm w D r vg vb G B) {E : Nat} (he : E ≤ D) : Rm w E r vg vb G B := ⟨h.block, own_lower h.gens he, own_lower h.used he, Nat.le_trans he h.dr, Nat.le_trans he h.dw⟩
def KeepEnt (w w' : World) : Prop := ∀ (k : Nat) (cs : Array Value), w.heap[k]? = some (Obj.cells cs 55 (0, 0)) → w'.heap[k]? = some (Obj.cells cs 55 (0, 0))
theorem KeepEnt.of_below (h : Below w.heap.size w w') : KeepEnt w w' := fun k cs hk => heap_below hk h
theorem KeepEnt.sl (h : Sl w D s vg vu vf G B U F) (hg : GrP (SlP s vg) w w') : KeepEnt w w' := fun k cs hk => heap_grp hk hg (by
  rintro (e | e)
  · have h1 := h.block; rw [← e, hk] at h1; injection h1 with h1; injection h1 with _ h1; exact absurd h1 (by decide)
  · exact own_ne h.gens hk (by decide) k e rfl)
theorem KeepEnt.rm (h : Rm w D r vg vb G B) (hg : GrP (RmP r vg vb) w w') : KeepEnt w w' := fun k cs hk => heap_grp hk hg (by
  rintro (e | e | e)
  · have h1 := h.block; rw [← e, hk] at h1; injection h1 with h1; injection h1 with _ h1; exact absurd h1 (by decide)
  · exact own_ne h.gens hk (by decide) k e rfl
  · exact own_ne h.used hk (by decide) k e rfl)
/-- The slots and the room, side by side. -/
def Both (W0 : World) (s r : Nat) (G1 : List Int) (B1 : List Bool) (G2 : List Int) (B2 : List Bool) (w : World) : Prop :=
  ∃ vg vu vf vh vb U F U2 F2, Sl w W0.heap.size s vg vu vf G1 B1 U F ∧ SI G1 B1 U F ∧ Rm w W0.heap.size r vh vb G2 B2 ∧ SI G2 B2 U2 F2 ∧ (∀ j, vg.ownBlock = some j → vh.ownBlock ≠ some j) ∧ Below W0.heap.size W0 w
theorem Both.below (h : Both W0 s r G1 B1 G2 B2 w) (hb : Below w.heap.size w w') : Both W0 s r G1 B1 G2 B2 w' := by
  obtain ⟨vg, vu, vf, vh, vb, U, F, U2, F2, h1, h2, h3, h4, h5, h6⟩ := h
  exact ⟨vg, vu, vf, vh, vb, U, F, U2, F2, h1.below hb, h2, h3.below hb, h4, h5, bt2 h6 hb⟩
where bt2 {W0 w w' : World} (h : Below W0.heap.size W0 w) (k : Below w.heap.size w w') : Below W0.heap.size W0 w' := h.trans (k.mono h.size)
theorem Both.since (h : Both W0 s r G1 B1 G2 B2 w) : Below W0.heap.size W0 w := by
  obtain ⟨vg, vu, vf, vh, vb, U, F, U2, F2, h1, h2, h3, h4, h5, h6⟩ := h; exact h6
theorem b_alive_s (h : Both W0 s r G1 B1 G2 B2 w) (N g : Int) (hN : N ≤ 9223372036854775807) :
    Calls Try.prog 37 #[.pointer (some ⟨s, 0, none⟩), .agg #[.int .i64 N, .int .i64 g]] w fun e w' => e = .returned (.bool (alive G1 B1 N g)) ∧ Below w.heap.size w w' := by
  obtain ⟨vg, vu, vf, vh, vb, U, F, U2, F2, h1, h2, h3, h4, h5, h6⟩ := h
  exact sl_Alive h1 h2 N g hN
theorem b_alive_r (h : Both W0 s r G1 B1 G2 B2 w) (N g : Int) :
    Calls Try.prog 38 #[.pointer (some ⟨r, 0, none⟩), .agg #[.int .i64 N, .int .i64 g]] w fun e w' => e = .returned (.bool (alive G2 B2 N g)) ∧ Below w.heap.size w w' := by
  obtain ⟨vg, vu, vf, vh, vb, U, F, U2, F2, h1, h2, h3, h4, h5, h6⟩ := h
  exact rm_Alive h3 h4.len N g
theorem sl_step {ret : Value} {w e w'} {G' : List Int} {B' : List Bool} (h1 : Sl w W0.heap.size s vg vu vf G1 B1 U F) (h3 : Rm w W0.heap.size r vh vb G2 B2) (h4 : ∃ U2 F2, SI G2 B2 U2 F2) (h5 : ∀ j, vg.ownBlock = some j → vh.ownBlock ≠ some j) (h6 : Below W0.heap.size W0 w) (h : SlPost G' B' W0.heap.size s vg ret w e w') : e = .returned ret ∧ Both W0 s r G' B' G2 B2 w' ∧ KeepEnt w w' := by
  obtain ⟨rfl, vg', vu', vf', U', F', k1, k2, k3, k4⟩ := h
  obtain ⟨U2, F2, h4⟩ := h4
  have hR := h3.apart h1 h5 k3
  refine ⟨rfl, ⟨vg', vu', vf', vh, vb, U', F', U2, F2, k1, k2, hR, h4, ?_, ?_⟩, KeepEnt.sl h1 k3⟩
  · intro j hj hv
    have hlt := (own_lt h3.gens j hv).2
    rcases k4 j hj with q | q
    · exact h5 j q hv
    · omega
  · refine h6.trans (k3.below h6.size ?_)
    rintro k (e | e)
    · rw [e]; exact h1.ds
    · exact (own_lt h1.gens k e).1
theorem rm_step {ret : Value} {w e w'} {G' : List Int} {B' : List Bool} (h1 : Sl w W0.heap.size s vg vu vf G1 B1 U F) (h2 : SI G1 B1 U F) (h3 : Rm w W0.heap.size r vh vb G2 B2) (h4 : ∃ U2 F2, SI G' B' U2 F2) (h5 : ∀ j, vg.ownBlock = some j → vh.ownBlock ≠ some j) (h6 : Below W0.heap.size W0 w) (h : RmPost G' B' W0.heap.size r vh vb ret w e w') : e = .returned ret ∧ Both W0 s r G1 B1 G' B' w' ∧ KeepEnt w w' := by
  obtain ⟨rfl, vg', vb', k1, k3, k4⟩ := h
  obtain ⟨U2, F2, h4⟩ := h4
  have hS := h1.apart h3 h5 k3
  refine ⟨rfl, ⟨vg, vu, vf, vg', vb', U, F, U2, F2, hS, h2, k1, h4, ?_, ?_⟩, KeepEnt.rm h3 k3⟩
  · intro j hj hv
    have hlt := (own_lt h1.gens j hj).2
    rcases k4 j hv with q | q
    · exact h5 j hj q
    · omega
  · refine h6.trans (k3.below h6.size ?_)
    rintro k (e | e | e)
    · rw [e]; exact h3.dr
    · exact (own_lt h3.gens k e).1
    · exact (own_lt h3.used k e).1
def frG (G : List Int) (B : List Bool) (N g : Int) : List Int := if alive G B N g = true then freeG G N.toNat else G
def frB (G : List Int) (B : List Bool) (N g : Int) : List Bool := if alive G B N g = true then freeB B N.toNat else B
def frE (G : List Int) (B : List Bool) (N g : Int) : Int := if alive G B N g = true then 0 else 4
theorem fr_si {N g : Int} (h : SI G B U F) : ∃ U2 F2, SI (frG G B N g) (frB G B N g) U2 F2 := by
  unfold frG frB
  by_cases ha : alive G B N g = true
  · rw [if_pos ha, if_pos ha]
    unfold alive at ha
    simp only [Bool.and_eq_true, decide_eq_true_eq] at ha
    exact ⟨_, _, free_si h ha.2.1⟩
  · rw [if_neg ha, if_neg ha]; exact ⟨U, F, h⟩
theorem b_free_s (h : Both W0 s r G1 B1 G2 B2 w) (N g : Int) (hN : N ≤ 9223372036854775807) :
    Calls Try.prog 39 #[.pointer (some ⟨s, 0, none⟩), .agg #[.int .i64 N, .int .i64 g]] w fun e w' => e = .returned (.int .i64 (frE G1 B1 N g)) ∧ Both W0 s r (frG G1 B1 N g) (frB G1 B1 N g) G2 B2 w' ∧ KeepEnt w w' := by
  obtain ⟨vg, vu, vf, vh, vb, U, F, U2, F2, h1, h2, h3, h4, h5, h6⟩ := h
  exact (sl_Free h1 h2 N g hN).mono fun e w' hp => sl_step h1 h3 ⟨_, _, h4⟩ h5 h6 hp
theorem b_free_r (h : Both W0 s r G1 B1 G2 B2 w) (N g : Int) :
    Calls Try.prog 40 #[.pointer (some ⟨r, 0, none⟩), .agg #[.int .i64 N, .int .i64 g]] w fun e w' => e = .returned (.int .i64 (frE G2 B2 N g)) ∧ Both W0 s r G1 B1 (frG G2 B2 N g) (frB G2 B2 N g) w' ∧ KeepEnt w w' := by
  obtain ⟨vg, vu, vf, vh, vb, U, F, U2, F2, h1, h2, h3, h4, h5, h6⟩ := h
  exact (rm_Free h3 h4.len h4.lo N g).mono fun e w' hp => rm_step h1 h2 h3 (fr_si h4) h5 h6 hp
def tkG (G : List Int) (n : Nat) : List Int := if n = 256 then G else takeG G n
def tkB (B : List Bool) (n : Nat) : List Bool := if n = 256 then B else takeB B n
def tkV (G : List Int) (n : Nat) : Int × Int := if n = 256 then (0, 0) else ((n : Int), G.getD n 0)
def tkE (n : Nat) : Int := if n = 256 then 6 else 0
theorem tk_ret (G : List Int) (n : Nat) : (Value.tuple #[.agg (if n = 256 then #[.int .i64 0, .int .i64 0] else #[.int .i64 (n : Int), .int .i64 (G.getD n 0)]), .int .i64 (if n = 256 then 6 else 0)]) = .tuple #[.agg #[.int .i64 (tkV G n).1, .int .i64 (tkV G n).2], .int .i64 (tkE n)] := by
  unfold tkV tkE
  by_cases h : n = 256 <;> simp [h]
theorem tk_si {n : Nat} (h : SI G B U F) (hn : Least G B n) : ∃ U2 F2, SI (tkG G n) (tkB B n) U2 F2 := by
  unfold tkG tkB
  by_cases h2 : n = 256
  · rw [if_pos h2, if_pos h2]; exact ⟨U, F, h⟩
  · rw [if_neg h2, if_neg h2]; exact ⟨_, _, take_si h hn h2⟩
theorem b_take_s (h : Both W0 s r G1 B1 G2 B2 w) {n : Nat} (hn : Least G1 B1 n) :
    Calls Try.prog 35 #[.pointer (some ⟨s, 0, none⟩)] w fun e w' => e = .returned (.tuple #[.agg #[.int .i64 (tkV G1 n).1, .int .i64 (tkV G1 n).2], .int .i64 (tkE n)]) ∧ Both W0 s r (tkG G1 n) (tkB B1 n) G2 B2 w' ∧ KeepEnt w w' := by
  obtain ⟨vg, vu, vf, vh, vb, U, F, U2, F2, h1, h2, h3, h4, h5, h6⟩ := h
  refine (sl_Take h1 h2 n hn).mono fun e w' hp => ?_
  rw [← tk_ret]
  exact sl_step h1 h3 ⟨_, _, h4⟩ h5 h6 hp
theorem b_take_r (h : Both W0 s r G1 B1 G2 B2 w) {n : Nat} (hn : Least G2 B2 n) :
    Calls Try.prog 36 #[.pointer (some ⟨r, 0, none⟩)] w fun e w' => e = .returned (.tuple #[.agg #[.int .i64 (tkV G2 n).1, .int .i64 (tkV G2 n).2], .int .i64 (tkE n)]) ∧ Both W0 s r G1 B1 (tkG G2 n) (tkB B2 n) w' ∧ KeepEnt w w' := by
  obtain ⟨vg, vu, vf, vh, vb, U, F, U2, F2, h1, h2, h3, h4, h5, h6⟩ := h
  refine (rm_Take h3 h4.len h4.small n hn).mono fun e w' hp => ?_
  rw [← tk_ret]
  exact rm_step h1 h2 h3 (tk_si h4 hn) h5 h6 hp
theorem b_list_s (h : Both W0 s r G1 B1 G2 B2 w) : Calls Try.prog 42 #[.pointer (some ⟨s, 0, none⟩)] w (ListPost (entK G1 B1 B1.length) w) := by
  obtain ⟨vg, vu, vf, vh, vb, U, F, U2, F2, h1, h2, h3, h4, h5, h6⟩ := h
  exact sl_List h1 h2
theorem b_list_r (h : Both W0 s r G1 B1 G2 B2 w) : Calls Try.prog 43 #[.pointer (some ⟨r, 0, none⟩)] w (ListPost (entK G2 B2 B2.length) w) := by
  obtain ⟨vg, vu, vf, vh, vb, U, F, U2, F2, h1, h2, h3, h4, h5, h6⟩ := h
  exact rm_List h3 h4.len h4.small
theorem b_gens_s (h : Both W0 s r G1 B1 G2 B2 w) : Calls Try.prog 44 #[.pointer (some ⟨s, 0, none⟩)] w fun e w' => ∃ a c, e = .returned (.slice a G1.length c) ∧ IntsAt .i64 w' a G1 ∧ Below w.heap.size w w' := by
  obtain ⟨vg, vu, vf, vh, vb, U, F, U2, F2, h1, h2, h3, h4, h5, h6⟩ := h
  exact sl_Gens h1 h2.small
theorem b_gens_r (h : Both W0 s r G1 B1 G2 B2 w) : ∃ a c, w.cell? ⟨r, 0, none⟩ = some (.slice a G2.length c) ∧ IntsAt .i64 w a G2 := by
  obtain ⟨vg, vu, vf, vh, vb, U, F, U2, F2, h1, h2, h3, h4, h5, h6⟩ := h
  obtain ⟨a, c, e⟩ := own_slice h3.gens
  subst e
  exact ⟨a, c, h3.c0, IntsAt.of_own h3.gens rfl⟩
theorem b_len (h : Both W0 s r G1 B1 G2 B2 w) : B1.length ≤ 256 ∧ G1.length ≤ 256 := by
  obtain ⟨vg, vu, vf, vh, vb, U, F, U2, F2, h1, h2, h3, h4, h5, h6⟩ := h
  have := h2.small; have := h2.len; omega

/-! slotsBegun -/
theorem least0 : Least [] [] 0 := ⟨Nat.le_refl _, fun h => by simp at h, fun j h => by omega⟩
theorem least1 : Least [0] [true] 1 := by
  refine ⟨Nat.le_refl _, fun h => by simp at h, fun j h => ?_⟩
  have : j = 0 := by omega
  subst this; rfl
theorem si0 : SI [] [] [] [] := ⟨rfl, by simp, fun i h => by simp at h, fun i => by rw [bit_nil]; simp, fun i => by rw [bit_nil]; simp [av], fun i h => by simp at h, canon_nil, canon_nil⟩
set_option maxRecDepth 100000 in
set_option maxHeartbeats 4000000 in
theorem sl_New (w : World) : Calls Try.prog 84 #[] w fun e w' => ∃ s, e = .returned (.pointer (some ⟨s, 0, none⟩)) ∧ Sl w' w.heap.size s (.slice none 0 0) (.slice none 0 0) (.slice none 0 0) [] [] [] [] ∧ Below w.heap.size w w' := by
  go_enter Try.func84, Try.ntmps84
  go_wp2_with fail
  go_ret
  refine ⟨_, rfl, ⟨heap_alloc_new _ _, World.ownsRow_nil _ _ _ _, World.ownsRow_nil _ _ _ _, World.ownsRow_nil _ _ _ _, Nat.le_refl _, by simp⟩, (Below.refl _ _).alloc (Nat.le_refl _) _⟩
theorem take_first (h : Sl w D s vg vu vf [] [] [] []) : Calls Try.prog 35 #[.pointer (some ⟨s, 0, none⟩)] w fun e w' => e = .returned (.tuple #[.agg #[.int .i64 0, .int .i64 0], .int .i64 0]) ∧ ∃ vg' vu' vf' U F, Sl w' D s vg' vu' vf' [0] [true] U F ∧ SI [0] [true] U F ∧ GrP (SlP s vg) w w' :=
  (sl_Take h si0 0 least0).mono fun e w' hp => by
    obtain ⟨h1, vg', vu', vf', U', F', k1, k2, k3, k4⟩ := hp
    exact ⟨h1, vg', vu', vf', U', F', k1, k2, k3⟩
theorem take_second (h : Sl w D s vg vu vf [0] [true] U F) (si : SI [0] [true] U F) : Calls Try.prog 35 #[.pointer (some ⟨s, 0, none⟩)] w fun e w' => e = .returned (.tuple #[.agg #[.int .i64 1, .int .i64 0], .int .i64 0]) ∧ (∃ vg' vu' vf' G B U F, Sl w' D s vg' vu' vf' G B U F) ∧ GrP (SlP s vg) w w' :=
  (sl_Take h si 1 least1).mono fun e w' hp => by
    obtain ⟨h1, vg', vu', vf', U', F', k1, k2, k3, k4⟩ := hp
    exact ⟨h1, ⟨vg', vu', vf', _, _, U', F', k1⟩, k3⟩
set_option maxRecDepth 100000 in
set_option maxHeartbeats 4000000 in
theorem slots_begun (w : World) : Calls Try.prog 32 #[] w fun e w' => e = .returned (.bool true) ∧ Below w.heap.size w w' := by
  have q1 := ent_eql 0 0 0 0
  have q2 := ent_eql 1 0 1 0
  have q3 := ent_guard .eql
  simp only [decide_true, Bool.and_self] at q1 q2
  go_enter Try.func32, Try.ntmps32
  go_wp2_with fail
  refine (sl_New w).mono ?_
  rintro e w1 ⟨s, rfl, hs1, hb1⟩
  have HS1 := Lib.hid hs1
  have HB1 := Lib.hid hb1
  clear hs1 hb1
  go_wp2_with fail
  refine (take_first HS1.out).mono ?_
  rintro e w2 ⟨rfl, vg2, vu2, vf2, U2, F2, hs2, hi2, hg2⟩
  have hb2 : Below w.heap.size w w2 := HB1.out.trans (hg2.below HB1.out.size (by
    rintro k (e | e)
    · rw [e]; exact HS1.out.ds
    · cases e))
  have HS2 := Lib.hid hs2
  have HI2 := Lib.hid hi2
  have HB2 := Lib.hid hb2
  clear hs2 hi2 hb2 hg2
  go_wp2_with fail
  have hE1 := heap_alloc_new w2 (.cells #[.int .i64 0, .int .i64 0] 55)
  have hs3 := HS2.out.below ((Below.refl _ _).alloc (Nat.le_refl _) (.cells #[.int .i64 0, .int .i64 0] 55))
  have hb3 : Below w.heap.size w (w2.alloc (.cells #[.int .i64 0, .int .i64 0] 55)) := HB2.out.trans ((Below.refl _ _).alloc HB2.out.size _)
  obtain ⟨w3, hw3⟩ : ∃ w3, w3 = w2.alloc (.cells #[.int .i64 0, .int .i64 0] 55) := ⟨_, rfl⟩
  rw [← hw3] at hE1 hs3 hb3 ⊢
  have HE1 := Lib.hid hE1
  have HS3 := Lib.hid hs3
  have HB3 := Lib.hid hb3
  clear hE1 hs3 hb3 hw3
  refine (take_second HS3.out HI2.out).mono ?_
  rintro e w4 ⟨rfl, ⟨vg4, vu4, vf4, G4, B4, U4, F4, hs4⟩, hg4⟩
  have hb4 : Below w.heap.size w w4 := HB3.out.trans (hg4.below HB3.out.size (by
    rintro k (e | e)
    · rw [e]; exact HS3.out.ds
    · exact (own_lt HS3.out.gens k e).1))
  have hE4 := KeepEnt.sl HS3.out hg4 _ _ HE1.out
  have hlt := lt_of_heap hE4
  have y0 := cell_of_row _ _ 0 _ _ _ hE4
  have y1 := cell_of_row _ _ 1 _ _ _ hE4
  simp only [List.getElem?_toArray, List.getElem?_cons_zero, List.getElem?_cons_succ] at y0 y1
  have HB4 := Lib.hid hb4
  clear hs4 hg4 hb4 hE4
  go_wp2_with fail
  go_ret
  exact ⟨rfl, HB4.out.trans ((Below.refl _ _).alloc HB4.out.size _)⟩
end Go.Proofs.Ytlahmcbaiebapaa
