/- The laws RndBelows, RndTells: rndBegun. -/
import Derived.Test.YtdhaaeaacbnghaaBelow
import Derived.Test.YtdhaaeaacbnghaaOpen
import Derived.Deep.RegionHeld3
import Derived.Laws.StructEq
namespace Go.Proofs.Ytdhaaeaacbnghaa
open Go.ChangeShapes Go.WideShapes Go.ChangeAt Go.RowKit
set_option linter.unusedVariables false

theorem below_cell2 {w w1 w2 : World} {B : Nat} {A1 A2 : Addr} {v1 v2 : Value} (h : w1.cell? A1 = some v1 ∧ w1.cell? A2 = some v2 ∧ Below B w w1) (hb : Below w1.heap.size w1 w2) (hB : B ≤ w.heap.size) :
    w2.cell? A1 = some v1 ∧ w2.cell? A2 = some v2 ∧ Below B w w2 :=
  ⟨(hb.cell (World.block_lt_of_cell? w1 _ h.1)).trans h.1, (hb.cell (World.block_lt_of_cell? w1 _ h.2.1)).trans h.2.1, h.2.2.trans (hb.mono (Nat.le_trans hB h.2.2.size))⟩

set_option maxHeartbeats 4000000 in
theorem law_rndBegun (w : World) : Calls Try.prog 15 #[] w fun e w' => e = .returned (.bool true) ∧ Below w.heap.size w w' := by
  obtain ⟨s, hs⟩ : ∃ s, s = mix 1 := ⟨_, rfl⟩
  obtain ⟨t, ht⟩ : ∃ t, t = st s 11400714819323198485 1 := ⟨_, rfl⟩
  have ls : s < 18446744073709551616 := by rw [hs]; exact mix_lt _
  have lt : t < 18446744073709551616 := by rw [ht]; exact st_lt _ _ _
  have cn := rnd_New 1 1 (by omega) rfl
  have cb := rnd_Below_ok s 11400714819323198485 1 1 ls (by omega) (by rfl) (by omega) (by omega) (by omega) (by unfold good; have := mix_lt (st s 11400714819323198485 1); omega) (fun j h1 h2 => by omega)
  rw [← hs] at cn
  rw [← ht, Nat.mod_one] at cb
  have CN := Lib.hid cn
  have CB := Lib.hid cb
  clear cn cb hs ht
  go_enter Try.func15, Try.ntmps15
  go_wp2_with (first
    | (go_at_call 31; refine (CN.out _).mono ?_; rintro e w1 ⟨rfl, hb1⟩)
    | (go_at_call 16; refine (CB.out _).mono ?_; rintro e w2 ⟨rfl, hb2⟩))
  have hb := Mem.bt hb1 hb2
  clear hb1 hb2
  have hr := heap_alloc_new w2 (Obj.cells #[Value.int IntKind.u64 t, Value.int IntKind.u64 11400714819323198485] 24)
  have c0 := cell_of_row _ _ 0 _ _ _ hr
  have c1 := cell_of_row _ _ 1 _ _ _ hr
  replace hb := hb.alloc hb.size (Obj.cells #[Value.int IntKind.u64 t, Value.int IntKind.u64 11400714819323198485] 24)
  clear hr CB
  generalize ((w2.alloc (Obj.cells #[Value.int IntKind.u64 t, Value.int IntKind.u64 11400714819323198485] 24)) : World) = W3 at *
  generalize w2.heap.size = X at *
  have hfd : ∀ (a b : Value) (w : World), (Instr.field 24 (.agg #[a, b]) 1).run Try.prog w = .ok b w := fun _ _ _ => by kernel_rfl
  go_region_held3 (fun w' => w'.cell? ⟨X, 0, none⟩ = some (.int .u64 t) ∧ w'.cell? ⟨X, 1, none⟩ = some (.int .u64 11400714819323198485) ∧ Below w.heap.size w w')
    (first | exact ⟨c0, c1, hb.drew⟩ | exact below_cell2 (by assumption) (by assumption) (Nat.le_refl _))
    ((go_at_call 31; refine (CN.out _).mono ?_; rintro e w8 ⟨rfl, hb8⟩))
  go_wp2
  go_ret
  exact ⟨rfl, (by assumption : _ ∧ _ ∧ _).2.2⟩

theorem keep4 {w w1 w2 : World} {B : Nat} {A1 A2 A3 A4 : Addr} {v1 v2 v3 v4 : Value} (h : w1.cell? A1 = some v1 ∧ w1.cell? A2 = some v2 ∧ w1.cell? A3 = some v3 ∧ w1.cell? A4 = some v4 ∧ Below B w w1) (hb : Below w1.heap.size w1 w2) (hB : B ≤ w.heap.size) :
    w2.cell? A1 = some v1 ∧ w2.cell? A2 = some v2 ∧ w2.cell? A3 = some v3 ∧ w2.cell? A4 = some v4 ∧ Below B w w2 := by
  obtain ⟨h1, h2, h3, h4, h5⟩ := h
  have k : ∀ {A : Addr} {v : Value}, w1.cell? A = some v → w2.cell? A = some v := fun {A v} h => (hb.cell (World.block_lt_of_cell? w1 _ h)).trans h
  exact ⟨k h1, k h2, k h3, k h4, h5.trans (hb.mono (Nat.le_trans hB h5.size))⟩

set_option maxHeartbeats 1000000 in
set_option maxRecDepth 100000 in
theorem law_RndBelows_err (s g : Nat) (n : Int) (hs : s < 18446744073709551616) (hg : g < 18446744073709551616) (h : n < 1 ∨ g % 2 = 0) (w : World) :
    Calls Try.prog 3 #[.agg #[.int .u64 s, .int .u64 g], .int .i64 n] w fun e w' => e = .returned (.bool true) ∧ Below w.heap.size w w' := by
  have hr := Lib.hid (heap_alloc_new w (Obj.cells #[Value.int IntKind.u64 s, Value.int IntKind.u64 g] 24))
  have hb := (Below.refl w.heap.size w).alloc (Nat.le_refl _) (Obj.cells #[Value.int IntKind.u64 s, Value.int IntKind.u64 g] 24)
  have hl : w.heap.size < (w.alloc (Obj.cells #[Value.int IntKind.u64 s, Value.int IntKind.u64 g] 24)).heap.size := by simp
  have CB := Lib.hid (rnd_Below_err s g n h)
  by_cases hn : n < 1
  all_goals
    first
      | (have HG : (((g : Int) % 2) == 0) = true := by
          have : (g : Int) % 2 = 0 := by omega
          simp [this]
         clear h)
      | clear h
    go_enter Try.func3, Try.ntmps3
    go_wp2_with fail
    refine (law_rndBegun _).mono ?_
    rintro e w1 ⟨rfl, hb1⟩
    have hc := (hb1.block _ hl).trans hr.out
    have hbw := Mem.bt hb (hb1.mono (by simp))
    have c0 := cell_of_row _ _ 0 _ _ _ hc
    have c1 := cell_of_row _ _ 1 _ _ _ hc
    have l1 := Nat.lt_of_lt_of_le hl hb1.size
    have HC := Lib.hid hc
    clear hc hr hl hb hb1
    go_wp2_with fail
    refine (CB.out _).mono ?_
    rintro e w2 ⟨rfl, hb2⟩
    replace c0 := (hb2.cell (p := ⟨w.heap.size, 0, none⟩) l1).trans c0
    replace c1 := (hb2.cell (p := ⟨w.heap.size, 1, none⟩) l1).trans c1
    replace hbw := Mem.bt hbw hb2
    replace l1 := Nat.lt_of_lt_of_le l1 hb2.size
    clear hb2 CB HC
    go_wp2_with fail
    go_ret
    exact ⟨rfl, hbw.alloc hbw.size _⟩

set_option maxHeartbeats 1000000 in
set_option maxRecDepth 100000 in
theorem law_RndBelows_ok (s g m : Nat) (hs : s < 18446744073709551616) (hg : g < 18446744073709551616) (ho : g % 2 = 1) (hm : 1 ≤ m) (hm2 : m < 9223372036854775808) (w : World) :
    Calls Try.prog 3 #[.agg #[.int .u64 s, .int .u64 g], .int .i64 m] w fun e w' => e = .returned (.bool true) ∧ Below w.heap.size w w' := by
  have hr := Lib.hid (heap_alloc_new w (Obj.cells #[Value.int IntKind.u64 s, Value.int IntKind.u64 g] 24))
  have hb := (Below.refl w.heap.size w).alloc (Nat.le_refl _) (Obj.cells #[Value.int IntKind.u64 s, Value.int IntKind.u64 g] 24)
  have hl : w.heap.size < (w.alloc (Obj.cells #[Value.int IntKind.u64 s, Value.int IntKind.u64 g] 24)).heap.size := by simp
  obtain ⟨k0, h0, hk, hno⟩ := first_good m s g (by omega) ho
  have cb := rnd_Below_ok s g m k0 hs hg ho hm hm2 h0 hk hno
  have cu := ref_Under s g m k0 hs hg hm hm2 h0 hk hno
  obtain ⟨K, hK⟩ : ∃ K, K = IntKind.i64.wrap (k0 : Int) := ⟨_, rfl⟩
  have cv := ref_Behind s g (k0 % 18446744073709551616) hs hg (Nat.mod_lt _ (by omega)) K (by rw [hK]; exact W64.uwN k0)
  rw [st_mod] at cv
  obtain ⟨T, hT⟩ : ∃ T, T = st s g k0 := ⟨_, rfl⟩
  obtain ⟨Q, hQ⟩ : ∃ Q, Q = mix T % m := ⟨_, rfl⟩
  rw [← hT, ← hQ] at cb
  rw [← hT, ← hQ, ← hK] at cu
  rw [← hT] at cv
  have CB := Lib.hid cb
  have CU := Lib.hid cu
  have CV := Lib.hid cv
  have HG : (((g : Int) % 2) == 0) = false := by rw [beq_eq_false_iff_ne]; omega
  clear cb cu cv hT hQ hK hk hno h0 ho
  go_enter Try.func3, Try.ntmps3
  go_wp2_with fail
  refine (law_rndBegun _).mono ?_
  rintro e w1 ⟨rfl, hb1⟩
  have hc := (hb1.block _ hl).trans hr.out
  have hbw := Mem.bt hb (hb1.mono (by simp))
  have c0 := cell_of_row _ _ 0 _ _ _ hc
  have c1 := cell_of_row _ _ 1 _ _ _ hc
  have l1 := Nat.lt_of_lt_of_le hl hb1.size
  have HC := Lib.hid hc
  clear hc hr hl hb hb1
  go_wp2_with fail
  refine (CB.out _).mono ?_
  rintro e w2 ⟨rfl, hb2⟩
  replace c0 := (hb2.cell (p := ⟨w.heap.size, 0, none⟩) l1).trans c0
  replace c1 := (hb2.cell (p := ⟨w.heap.size, 1, none⟩) l1).trans c1
  replace hbw := Mem.bt hbw hb2
  replace l1 := Nat.lt_of_lt_of_le l1 hb2.size
  clear hb2 CB HC
  go_wp2_with fail
  have hr2 := heap_alloc_new w2 (Obj.cells #[Value.int IntKind.u64 T, Value.int IntKind.u64 g] 24)
  have d0 := cell_of_row _ _ 0 _ _ _ hr2
  have d1 := cell_of_row _ _ 1 _ _ _ hr2
  replace c0 := (World.cell?_alloc_lt w2 (Obj.cells #[Value.int IntKind.u64 T, Value.int IntKind.u64 g] 24) ⟨w.heap.size, 0, none⟩ l1).trans c0
  replace c1 := (World.cell?_alloc_lt w2 (Obj.cells #[Value.int IntKind.u64 T, Value.int IntKind.u64 g] 24) ⟨w.heap.size, 1, none⟩ l1).trans c1
  replace hbw := hbw.alloc hbw.size (Obj.cells #[Value.int IntKind.u64 T, Value.int IntKind.u64 g] 24)
  have l2 : w2.heap.size < (w2.alloc (Obj.cells #[Value.int IntKind.u64 T, Value.int IntKind.u64 g] 24)).heap.size := by simp
  replace l1 : w.heap.size < (w2.alloc (Obj.cells #[Value.int IntKind.u64 T, Value.int IntKind.u64 g] 24)).heap.size := by omega
  clear hr2
  generalize (w2.alloc (Obj.cells #[Value.int IntKind.u64 T, Value.int IntKind.u64 g] 24)) = W3 at *
  generalize w2.heap.size = X at *
  refine (CU.out _).mono ?_
  rintro e w4 ⟨rfl, hb4⟩
  replace c0 := (hb4.cell (p := ⟨w.heap.size, 0, none⟩) l1).trans c0
  replace c1 := (hb4.cell (p := ⟨w.heap.size, 1, none⟩) l1).trans c1
  replace d0 := (hb4.cell (p := ⟨X, 0, none⟩) l2).trans d0
  replace d1 := (hb4.cell (p := ⟨X, 1, none⟩) l2).trans d1
  replace hbw := Mem.bt hbw hb4
  clear hb4 CU l1 l2
  go_wp2_with fail
  go_region_held3 (fun w' => w'.cell? ⟨w.heap.size, 0, none⟩ = some (.int .u64 s) ∧ w'.cell? ⟨w.heap.size, 1, none⟩ = some (.int .u64 g) ∧ w'.cell? ⟨X, 0, none⟩ = some (.int .u64 T) ∧ w'.cell? ⟨X, 1, none⟩ = some (.int .u64 g) ∧ Below w.heap.size w w')
    (first | exact ⟨c0, c1, d0, d1, hbw.drew⟩ | exact keep4 (by assumption) (by assumption) (Nat.le_refl _))
    ((go_at_call 18; refine (CV.out _).mono ?_; rintro e w8 ⟨rfl, hb8⟩))
  go_wp2
  go_ret
  exact ⟨rfl, (by assumption : _ ∧ _ ∧ _ ∧ _ ∧ _).2.2.2.2⟩

theorem law_RndBelows (s g : Nat) (n : Int) (hs : s < 18446744073709551616) (hg : g < 18446744073709551616) (hn : -9223372036854775808 ≤ n ∧ n ≤ 9223372036854775807) (w : World) :
    Calls Try.prog 3 #[.agg #[.int .u64 s, .int .u64 g], .int .i64 n] w fun e w' => e = .returned (.bool true) ∧ Below w.heap.size w w' := by
  by_cases h : n < 1 ∨ g % 2 = 0
  · exact law_RndBelows_err s g n hs hg h w
  · obtain ⟨m, rfl⟩ := Int.eq_ofNat_of_zero_le (show 0 ≤ n by omega)
    exact law_RndBelows_ok s g m hs hg (by omega) (by omega) (by omega) w
end Go.Proofs.Ytdhaaeaacbnghaa
