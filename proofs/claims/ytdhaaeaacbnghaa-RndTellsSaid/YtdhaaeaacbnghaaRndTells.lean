/- The law RndTells. -/
import Derived.Test.YtdhaaeaacbnghaaRndLaws
import Derived.Test.YtdhaaeaacbnghaaOf
import Derived.Test.YtdhaaeaacbnghaaRegInv
import Derived.Test.YtdhaaeaacbnghaaKeep
namespace Go.Proofs.Ytdhaaeaacbnghaa
open Go.ChangeShapes Go.WideShapes Go.ChangeAt Go.RowKit Go.Mem
set_option linter.unusedVariables false
theorem below_of_eq {w w2 : World} (h : w = w2) : Below w.heap.size w w2 := h ▸ Below.refl _ _
theorem list10 {vs : List Value} (h : vs.length = 10) : ∃ a0 a1 a2 a3 a4 a5 a6 a7 a8 a9, vs = [a0, a1, a2, a3, a4, a5, a6, a7, a8, a9] := by
  match vs, h with
  | [a0, a1, a2, a3, a4, a5, a6, a7, a8, a9], _ => exact ⟨a0, a1, a2, a3, a4, a5, a6, a7, a8, a9, rfl⟩
def F_RndTells (BB B s g M1 M2 O : Nat) (j : Nat) (v : Value) (w : World) : Prop := if j = 8 then NewRow B 24 #[.int .u64 0, .int .u64 0] v w else v = ([.agg #[.int .u64 s, .int .u64 g], .int .u64 M1, .agg #[.int .u64 s, .int .u64 g], .int .u64 M2, .int .u64 (M2 / 2 : Nat), .int .u64 (M2 / 2 * 2 : Nat), .int .u64 O, .agg #[.int .u64 M1, .int .u64 O], undef] : List Value).getD j undef

set_option maxHeartbeats 8000000 in
set_option maxRecDepth 100000 in
theorem law_RndTells (s g : Nat) (seed : Int) (a : Option Addr) (cap : Nat) (l : List Int) (hs : s < 18446744073709551616) (hg : g < 18446744073709551616) (hl : l.length ≤ 9223372036854775807) (w : World) (hin : IntsAt .i64 w a l) :
    Calls Try.prog 5 #[.agg #[.int .u64 s, .int .u64 g], .int .i64 seed, .slice a l.length cap] w fun e w' => e = .returned (.bool true) ∧ Below w.heap.size w w' := by
  have hr := heap_alloc_new w (Obj.cells #[Value.int IntKind.u64 s, Value.int IntKind.u64 g] 24)
  have hb0 := (Below.refl w.heap.size w).alloc (Nat.le_refl _) (Obj.cells #[Value.int IntKind.u64 s, Value.int IntKind.u64 g] 24)
  have hl0 : w.heap.size < (w.alloc (Obj.cells #[Value.int IntKind.u64 s, Value.int IntKind.u64 g] 24)).heap.size := by simp
  have HR := Lib.hid hr
  have cnx := rnd_Next s g hs hg
  have csp := rnd_Split s g hs hg
  have c1 := ref_Number1 s g 1 hs hg (by omega) 1 rfl
  have c2 := ref_Number1 s g 2 hs hg (by omega) 2 rfl
  have b1 := ref_Behind s g 1 hs hg (by omega) 1 rfl
  have b2 := ref_Behind s g 2 hs hg (by omega) 2 rfl
  have cmx := rnd_Mix s hs
  have csc := ref_Scrambled s hs
  have cnew := rnd_New seed (W64.u seed) (W64.u_lt _) (W64.u_eq _)
  have cstr := ref_Stream seed (W64.u seed) (W64.u_lt _) (W64.u_eq _)
  have cof := rnd_Of a cap l hl
  have cna := ref_Named a cap l hl
  obtain ⟨n, hn⟩ : ∃ n, n = l.length := ⟨_, rfl⟩
  rw [← hn] at cof cna ⊢
  obtain ⟨S1, hS1⟩ : ∃ S1, S1 = st s g 1 := ⟨_, rfl⟩
  obtain ⟨S2, hS2⟩ : ∃ S2, S2 = st s g 2 := ⟨_, rfl⟩
  obtain ⟨M1, hM1⟩ : ∃ M1, M1 = mix S1 := ⟨_, rfl⟩
  obtain ⟨M2, hM2⟩ : ∃ M2, M2 = mix S2 := ⟨_, rfl⟩
  obtain ⟨M, hM⟩ : ∃ M, M = mix s := ⟨_, rfl⟩
  obtain ⟨MS, hMS⟩ : ∃ MS, MS = mix (W64.u seed) := ⟨_, rfl⟩
  obtain ⟨NS, hNS⟩ : ∃ NS, NS = namedS l := ⟨_, rfl⟩
  obtain ⟨NG, hNG⟩ : ∃ NG, NG = namedG l := ⟨_, rfl⟩
  obtain ⟨O, hO⟩ : ∃ O, O = M2 / 2 * 2 + 1 := ⟨_, rfl⟩
  have lM2 : M2 < 18446744073709551616 := by rw [hM2]; exact mix_lt _
  rw [← hS1] at cnx c1 b1
  rw [← hS2] at csp c2 b2
  rw [← hS1, ← hM1, ← hM2, ← hO] at csp
  rw [← hM1] at cnx c1
  rw [← hM2] at c2
  rw [← hM] at cmx csc
  rw [← hMS] at cnew cstr
  rw [← hNS, ← hNG] at cof cna
  have CNX := Lib.hid cnx
  have CSP := Lib.hid csp
  have C1 := Lib.hid c1
  have C2 := Lib.hid c2
  have B1 := Lib.hid b1
  have B2 := Lib.hid b2
  have CMX := Lib.hid cmx
  have CSC := Lib.hid csc
  have CNEW := Lib.hid cnew
  have CSTR := Lib.hid cstr
  have COF := Lib.hid cof
  have CNA := Lib.hid cna
  have O1 := Lib.hid hO
  have HIN := Lib.hid hin
  clear cnx csp c1 c2 b1 b2 cmx csc cnew cstr cof cna hO hr hin hS1 hS2 hM1 hM2 hM hMS hNS hNG hn hl
  go_enter Try.func5, Try.ntmps5
  go_wp2_with fail
  refine (law_rndBegun _).mono ?_
  rintro e w1 ⟨rfl, hb1⟩
  have r3 := (hb1.block _ hl0).trans HR.out
  have hB := bt hb0 (hb1.mono (by simp))
  have l3 := lt_of_heap r3
  have c30 := cell_of_row _ _ 0 _ _ _ r3
  have c31 := cell_of_row _ _ 1 _ _ _ r3
  have R3 := Lib.hid r3
  clear r3 hb1 HR hb0 hl0
  go_wp2_with fail
  refine (CNX.out _).mono ?_
  rintro e w2 ⟨rfl, hb1⟩
  replace R3 := Lib.hid ((hb1.block _ l3).trans R3.out)
  replace hB := bt hB hb1
  replace l3 := lt_of_heap R3.out
  clear hb1 c30 c31
  have r3 := (Below.heap_alloc w2 (Obj.cells #[Value.int IntKind.u64 S1, Value.int IntKind.u64 g] 24) _ l3).trans R3.out
  have r8 := heap_alloc_new w2 (Obj.cells #[Value.int IntKind.u64 S1, Value.int IntKind.u64 g] 24)
  have hB2 := hB.alloc hB.size (Obj.cells #[Value.int IntKind.u64 S1, Value.int IntKind.u64 g] 24)
  have c30 := cell_of_row _ _ 0 _ _ _ r3
  have c31 := cell_of_row _ _ 1 _ _ _ r3
  have l8 := lt_of_heap r8
  have hX8 := hB.size
  replace R3 := Lib.hid r3
  have R8 := Lib.hid r8
  clear r3 r8 hB l3
  replace hB := hB2
  clear hB2
  go_wp2_with fail
  generalize w2.alloc (Obj.cells #[Value.int IntKind.u64 S1, Value.int IntKind.u64 g] 24) = W2 at *
  generalize w2.heap.size = X8 at *
  refine (CSP.out _).mono ?_
  rintro e w2 ⟨rfl, hb1⟩
  replace R3 := Lib.hid ((hb1.block _ (lt_of_heap R3.out)).trans R3.out)
  replace R8 := Lib.hid ((hb1.block _ (lt_of_heap R8.out)).trans R8.out)
  replace hB := bt hB hb1
  clear hb1 c30 c31 l8
  have l3 := lt_of_heap R3.out
  have l8 := lt_of_heap R8.out
  have r3 := (Below.heap_alloc (w2.alloc (Obj.cells #[Value.int IntKind.u64 M1, Value.int IntKind.u64 O] 24)) (Obj.cells #[Value.int IntKind.u64 S2, Value.int IntKind.u64 g] 24) _ (by simp; omega)).trans ((Below.heap_alloc w2 (Obj.cells #[Value.int IntKind.u64 M1, Value.int IntKind.u64 O] 24) _ l3).trans R3.out)
  have r8 := (Below.heap_alloc (w2.alloc (Obj.cells #[Value.int IntKind.u64 M1, Value.int IntKind.u64 O] 24)) (Obj.cells #[Value.int IntKind.u64 S2, Value.int IntKind.u64 g] 24) _ (by simp; omega)).trans ((Below.heap_alloc w2 (Obj.cells #[Value.int IntKind.u64 M1, Value.int IntKind.u64 O] 24) _ l8).trans R8.out)
  have r9 := row_first w2 (Obj.cells #[Value.int IntKind.u64 M1, Value.int IntKind.u64 O] 24) (Obj.cells #[Value.int IntKind.u64 S2, Value.int IntKind.u64 g] 24)
  have r10 := row_second w2 (Obj.cells #[Value.int IntKind.u64 M1, Value.int IntKind.u64 O] 24) (Obj.cells #[Value.int IntKind.u64 S2, Value.int IntKind.u64 g] 24)
  have hB2 := (hB.alloc hB.size (Obj.cells #[Value.int IntKind.u64 M1, Value.int IntKind.u64 O] 24)).alloc (by have := hB.size; simp; omega) (Obj.cells #[Value.int IntKind.u64 S2, Value.int IntKind.u64 g] 24)
  have HH := Lib.hid (And.intro r3 (And.intro r8 (And.intro r9 (And.intro r10 hB2))))
  clear r3 r8 r9 r10 hB2 R3 R8 l3 l8
  replace hX9 := hB.size
  clear hB
  go_wp2_with fail
  generalize (w2.alloc (Obj.cells #[Value.int IntKind.u64 M1, Value.int IntKind.u64 O] 24)).alloc (Obj.cells #[Value.int IntKind.u64 S2, Value.int IntKind.u64 g] 24) = W1 at *
  generalize w2.heap.size = X9 at *
  obtain ⟨r3, r8, r9, r10, hB⟩ := HH.out
  clear HH
  have l3 := lt_of_heap r3
  have l8 := lt_of_heap r8
  have l9 := lt_of_heap r9
  have l10 := lt_of_heap r10
  refine wp_region_facts rfl 9 (by kernel_rfl) (F_RndTells w.heap.size W1.heap.size s g M1 M2 O) ⟨by
    intro j v w w' h hb
    unfold F_RndTells at *
    split at h
    · rename_i q; rw [if_pos q]; exact h.mono hb
    · rename_i q; rw [if_neg q]; exact h⟩ ?_ ?_
  · refine ⟨?_, ?_, ?_, ?_, ?_, ?_, ?_, ?_, ?_, trivial⟩
    · intro vs w' F hb hd hF hl
      have e := (hF 3).trans (look_out _ 3 _ _ (by kernel_rfl))
      exact one_load_row 24 _ rfl rfl (w.heap.size) #[.int .u64 s, .int .u64 g] 24 (0, 0) e ((hb.block _ l3).trans r3) _ Try.underlying24 rfl (by kernel_rfl) ⟨_, rfl, Below.refl _ _, rfl⟩
    · intro vs w' F hb hd hF hl
      refine one_call _ _ rfl rfl (enters_of Try.func28 (by kernel_rfl) rfl) #[.agg #[.int .u64 s, .int .u64 g], .int .i64 1] (eval2 ((hF 24).trans ((look_at _ 24 0 _ _ (by kernel_rfl) (by kernel_rfl) hl).trans (dep_of (Fact := F_RndTells w.heap.size W1.heap.size s g M1 M2 O) hd 0 (by kernel_rfl)))) (rfl)) ?_
      refine (C1.out _).mono ?_
      rintro e w2 ⟨rfl, hb2⟩
      exact ⟨_, rfl, _, rfl, hb2, rfl⟩
    · intro vs w' F hb hd hF hl
      have e := (hF 3).trans (look_out _ 3 _ _ (by kernel_rfl))
      exact one_load_row 24 _ rfl rfl (w.heap.size) #[.int .u64 s, .int .u64 g] 24 (0, 0) e ((hb.block _ l3).trans r3) _ Try.underlying24 rfl (by kernel_rfl) ⟨_, rfl, Below.refl _ _, rfl⟩
    · intro vs w' F hb hd hF hl
      refine one_call _ _ rfl rfl (enters_of Try.func28 (by kernel_rfl) rfl) #[.agg #[.int .u64 s, .int .u64 g], .int .i64 2] (eval2 ((hF 26).trans ((look_at _ 26 2 _ _ (by kernel_rfl) (by kernel_rfl) hl).trans (dep_of (Fact := F_RndTells w.heap.size W1.heap.size s g M1 M2 O) hd 2 (by kernel_rfl)))) (rfl)) ?_
      refine (C2.out _).mono ?_
      rintro e w2 ⟨rfl, hb2⟩
      exact ⟨_, rfl, _, rfl, hb2, rfl⟩
    · intro vs w' F hb hd hF hl
      have ex := (hF 27).trans ((look_at _ 27 3 _ _ (by kernel_rfl) (by kernel_rfl) hl).trans (dep_of (Fact := F_RndTells w.heap.size W1.heap.size s g M1 M2 O) hd 3 (by kernel_rfl)))
      exact one_binop .quo 22 _ _ 22 rfl rfl (.int .u64 M2) (.int .u64 2) ex rfl (.int .u64 (M2 / 2 : Nat)) (by go_simp) (by go_simp; rw [IntKind.wrap_u64]; omega) ⟨_, rfl, Below.refl _ _, rfl⟩
    · intro vs w' F hb hd hF hl
      have ex := (hF 28).trans ((look_at _ 28 4 _ _ (by kernel_rfl) (by kernel_rfl) hl).trans (dep_of (Fact := F_RndTells w.heap.size W1.heap.size s g M1 M2 O) hd 4 (by kernel_rfl)))
      exact one_binop .mul 22 _ _ 22 rfl rfl (.int .u64 (M2 / 2 : Nat)) (.int .u64 2) ex rfl (.int .u64 (M2 / 2 * 2 : Nat)) (by go_simp) (by go_simp; rw [IntKind.wrap_u64]; omega) ⟨_, rfl, Below.refl _ _, rfl⟩
    · intro vs w' F hb hd hF hl
      have ex := (hF 29).trans ((look_at _ 29 5 _ _ (by kernel_rfl) (by kernel_rfl) hl).trans (dep_of (Fact := F_RndTells w.heap.size W1.heap.size s g M1 M2 O) hd 5 (by kernel_rfl)))
      exact one_binop .add 22 _ _ 22 rfl rfl (.int .u64 (M2 / 2 * 2 : Nat)) (.int .u64 1) ex rfl (.int .u64 O) (by go_simp) (by rw [O1.out]; go_simp; rw [IntKind.wrap_u64]; omega) ⟨_, rfl, Below.refl _ _, rfl⟩
    · intro vs w' F hb hd hF hl
      exact one_build _ _ rfl rfl #[(0, .int .u64 M1), (1, .int .u64 O)] (parts2 ((hF 25).trans ((look_at _ 25 1 _ _ (by kernel_rfl) (by kernel_rfl) hl).trans (dep_of (Fact := F_RndTells w.heap.size W1.heap.size s g M1 M2 O) hd 1 (by kernel_rfl)))) ((hF 30).trans ((look_at _ 30 6 _ _ (by kernel_rfl) (by kernel_rfl) hl).trans (dep_of (Fact := F_RndTells w.heap.size W1.heap.size s g M1 M2 O) hd 6 (by kernel_rfl))))) (.agg #[.int .u64 M1, .int .u64 O]) (fun w => by kernel_rfl) ⟨_, rfl, Below.refl _ _, rfl⟩
    · intro vs w' F hb hd hF hl
      exact one_alloc_agg _ rfl rfl (.agg #[.int .u64 0, .int .u64 0]) _ (by kernel_rfl) rfl ⟨_, rfl, (Below.refl _ _).alloc (Nat.le_refl _) _, _, rfl, hb.size, by simp, heap_alloc_new _ _⟩
  · intro vs W1 hl hb hI
    have i0 := hI 0 (by omega)
    have i1 := hI 1 (by omega)
    have i2 := hI 2 (by omega)
    have i3 := hI 3 (by omega)
    have i4 := hI 4 (by omega)
    have i5 := hI 5 (by omega)
    have i6 := hI 6 (by omega)
    have i7 := hI 7 (by omega)
    have i8 := hI 8 (by omega)
    clear hI
    obtain ⟨v0, v1, v2, v3, v4, v5, v6, v7, v8, v9, rfl⟩ := list10 hl
    replace i0 : v0 = .agg #[.int .u64 s, .int .u64 g] := i0
    subst i0
    replace i1 : v1 = .int .u64 M1 := i1
    subst i1
    replace i2 : v2 = .agg #[.int .u64 s, .int .u64 g] := i2
    subst i2
    replace i3 : v3 = .int .u64 M2 := i3
    subst i3
    replace i4 : v4 = .int .u64 (M2 / 2 : Nat) := i4
    subst i4
    replace i5 : v5 = .int .u64 (M2 / 2 * 2 : Nat) := i5
    subst i5
    replace i6 : v6 = .int .u64 O := i6
    subst i6
    replace i7 : v7 = .agg #[.int .u64 M1, .int .u64 O] := i7
    subst i7
    clear hl
    obtain ⟨X, j, hX, lX, tn⟩ := i8
    generalize hFF : fillAll _ _ _ = F
    have e1 : F.eval (.tmp 11) = .pointer (some ⟨X, 0, none⟩) := by rw [← hFF]; exact (eval_fill _ 11 _ _).trans j
    have e2 : F.eval (.tmp 31) = .agg #[.int .u64 M1, .int .u64 O] := by rw [← hFF]; exact (eval_fill _ 31 _ _).trans rfl
    refine wpList_store_rowP rfl 24 (.tmp 11) (.tmp 31) rfl X #[.int .u64 M1, .int .u64 O] e1 e2 _ _ tn (by kernel_rfl) rfl (ones2 _ _ rfl rfl) ?_
    intro W2 P2
    have hBn := hB.trans ((hb.mono hB.size).trans (P2.below (Nat.le_trans hB.size hX)))
    replace r3 := (P2.else_ _ (by omega)).trans ((hb.block _ l3).trans r3)
    replace r8 := (P2.else_ _ (by omega)).trans ((hb.block _ l8).trans r8)
    replace r9 := (P2.else_ _ (by omega)).trans ((hb.block _ l9).trans r9)
    replace r10 := (P2.else_ _ (by omega)).trans ((hb.block _ l10).trans r10)
    have r11 := P2.here
    clear e1 e2 tn hb hB P2
    subst j
    subst hFF
    simp only [fillAll, Act.put, List.setIfInBounds_toArray, List.set_cons_succ, List.set_cons_zero]
    clear l3 l8 l9 l10 lX hX
    go_wp2_with fail
    have s0 := cell_of_row _ _ 0 _ _ _ r3
    have s1 := cell_of_row _ _ 1 _ _ _ r3
    have s2 := cell_of_row _ _ 0 _ _ _ r8
    have s3 := cell_of_row _ _ 1 _ _ _ r8
    have s4 := cell_of_row _ _ 0 _ _ _ r9
    have s5 := cell_of_row _ _ 1 _ _ _ r9
    have s6 := cell_of_row _ _ 0 _ _ _ r10
    have s7 := cell_of_row _ _ 1 _ _ _ r10
    have s8 := cell_of_row _ _ 0 _ _ _ r11
    have s9 := cell_of_row _ _ 1 _ _ _ r11
    clear r3 r8 r9 r10 r11
    go_region_held3 (fun w' => w'.cell? ⟨w.heap.size, 0, none⟩ = some (.int .u64 s) ∧ w'.cell? ⟨w.heap.size, 1, none⟩ = some (.int .u64 g) ∧ w'.cell? ⟨X8, 0, none⟩ = some (.int .u64 S1) ∧ w'.cell? ⟨X8, 1, none⟩ = some (.int .u64 g) ∧ w'.cell? ⟨X9, 0, none⟩ = some (.int .u64 M1) ∧ w'.cell? ⟨X9, 1, none⟩ = some (.int .u64 O) ∧ w'.cell? ⟨X9 + 1, 0, none⟩ = some (.int .u64 S2) ∧ w'.cell? ⟨X9 + 1, 1, none⟩ = some (.int .u64 g) ∧ w'.cell? ⟨X, 0, none⟩ = some (.int .u64 M1) ∧ w'.cell? ⟨X, 1, none⟩ = some (.int .u64 O) ∧ IntsAt .i64 w' a l ∧ Below w.heap.size w w')
      (first | exact ⟨s0, s1, s2, s3, s4, s5, s6, s7, s8, s9, (HIN.out.below hBn).drew, hBn.drew⟩ | exact keeps10 (p := fun w' => IntsAt .i64 w' a l ∧ Below w.heap.size w w') (by assumption) (by assumption) (fun h hb => ⟨h.1.below hb, h.2.trans (hb.mono h.2.size)⟩))
      (first | (go_at_call 29; refine (CMX.out _).mono ?_; rintro e w8 ⟨rfl, hb8⟩; have hb8 := below_of_eq hb8) | (go_at_call 30; refine (CSC.out _).mono ?_; rintro e w8 ⟨rfl, hb8⟩) | (go_at_call 31; refine (CNEW.out _).mono ?_; rintro e w8 ⟨rfl, hb8⟩) | (go_at_call 32; refine (CSTR.out _).mono ?_; rintro e w8 ⟨rfl, hb8⟩) | (go_at_call 28; refine (C1.out _).mono ?_; rintro e w8 ⟨rfl, hb8⟩) | (go_at_call 18; (with_reducible refine (B1.out _).mono ?_); rintro e w8 ⟨rfl, hb8⟩) | (go_at_call 18; (with_reducible refine (B2.out _).mono ?_); rintro e w8 ⟨rfl, hb8⟩) | (go_at_call 33; refine (COF.out _ (midk10 (by assumption))).mono ?_; rintro e w8 ⟨rfl, hb8⟩) | (go_at_call 34; refine (CNA.out _ (midk10 (by assumption))).mono ?_; rintro e w8 ⟨rfl, hb8⟩))
    go_wp2
    go_ret
    exact ⟨rfl, lastk11 (by assumption)⟩
end Go.Proofs.Ytdhaaeaacbnghaa
