/- The law RndOrders. -/
import Derived.Test.YtdhaaeaacbnghaaShuffled
import Derived.Test.YtdhaaeaacbnghaaRndLaws
import Derived.Test.YtdhaaeaacbnghaaEqS
namespace Go.Proofs.Ytdhaaeaacbnghaa
open Go.ChangeShapes Go.WideShapes Go.ChangeAt Go.RowKit Go.Mem
set_option linter.unusedVariables false

set_option maxHeartbeats 1000000 in
set_option maxRecDepth 100000 in
theorem law_RndOrders_err (s g : Nat) (n : Int) (hs : s < 18446744073709551616) (hg : g < 18446744073709551616) (h : n < 0 ∨ 1000 < n ∨ g % 2 = 0) (w : World) :
    Calls Try.prog 7 #[.agg #[.int .u64 s, .int .u64 g], .int .i64 n] w fun e w' => e = .returned (.bool true) ∧ Below w.heap.size w w' := by
  have hr := Lib.hid (heap_alloc_new w (Obj.cells #[Value.int IntKind.u64 s, Value.int IntKind.u64 g] 24))
  have hb := (Below.refl w.heap.size w).alloc (Nat.le_refl _) (Obj.cells #[Value.int IntKind.u64 s, Value.int IntKind.u64 g] 24)
  have hl : w.heap.size < (w.alloc (Obj.cells #[Value.int IntKind.u64 s, Value.int IntKind.u64 g] 24)).heap.size := by simp
  have CB := Lib.hid (rnd_Order_err s g n h)
  rcases (show n < 0 ∨ (¬ n < 0 ∧ 1000 < n) ∨ (¬ n < 0 ∧ ¬ 1000 < n ∧ g % 2 = 0) by omega) with hn | ⟨hn, hn2⟩ | ⟨hn, hn2, he⟩
  all_goals
    first
      | (have HG : (((g : Int) % 2) == 0) = true := by
          have : (g : Int) % 2 = 0 := by omega
          simp [this]
         clear h he)
      | clear h
    go_enter Try.func7, Try.ntmps7
    go_wp2_with fail
    refine (law_rndBegun _).mono ?_
    rintro e w1 ⟨rfl, hb1⟩
    have hc := (hb1.block _ hl).trans hr.out
    have hbw := Mem.bt hb (hb1.mono (by simp))
    have c0 := cell_of_row _ _ 0 _ _ _ hc
    have c1 := cell_of_row _ _ 1 _ _ _ hc
    have l1 := Nat.lt_of_lt_of_le hl hb1.size
    have HC := Lib.hid hc
    clear hc hr hl hb hb1
    go_wp2_with fail
    refine (CB.out _).mono ?_
    rintro e w2 ⟨rfl, hb2⟩
    replace c0 := (hb2.cell (p := ⟨w.heap.size, 0, none⟩) l1).trans c0
    replace c1 := (hb2.cell (p := ⟨w.heap.size, 1, none⟩) l1).trans c1
    replace hbw := Mem.bt hbw hb2
    replace l1 := Nat.lt_of_lt_of_le l1 hb2.size
    clear hb2 CB HC
    go_wp2_with fail
    go_ret
    exact ⟨rfl, hbw.alloc hbw.size _⟩

set_option maxHeartbeats 1000000 in
set_option maxRecDepth 100000 in
theorem law_RndOrders_ok (s g n : Nat) (hs : s < 18446744073709551616) (hg : g < 18446744073709551616) (ho : g % 2 = 1) (hn : n ≤ 1000) (w : World) :
    Calls Try.prog 7 #[.agg #[.int .u64 s, .int .u64 g], .int .i64 n] w fun e w' => e = .returned (.bool true) ∧ Below w.heap.size w w' := by
  have hr := Lib.hid (heap_alloc_new w (Obj.cells #[Value.int IntKind.u64 s, Value.int IntKind.u64 g] 24))
  have hb := (Below.refl w.heap.size w).alloc (Nat.le_refl _) (Obj.cells #[Value.int IntKind.u64 s, Value.int IntKind.u64 g] 24)
  obtain ⟨f, hf⟩ := counts_ex g ho
  have co := rnd_Order_ok f s g n hf hs hg ho hn
  have cs := ref_Shuffled f s g n hf hs hg ho hn
  obtain ⟨T, hT⟩ : ∃ T, T = (shuf f g (n - 1) s (iota n)).1 := ⟨_, rfl⟩
  obtain ⟨zs, hzs⟩ : ∃ zs, zs = (shuf f g (n - 1) s (iota n)).2 := ⟨_, rfl⟩
  have hzl : zs.length = n := by rw [hzs, shuf_length]; simp [iota]
  rw [← hT, ← hzs] at co cs
  have ce := fun a b w h1 h2 => eq_ints a b n n zs zs (by omega) (by omega) w h1 h2
  rw [decide_eq_true rfl, hzl] at ce
  have CO := Lib.hid co
  have CS := Lib.hid cs
  have CE := Lib.hid ce
  have HG : (((g : Int) % 2) == 0) = false := by rw [beq_eq_false_iff_ne]; omega
  clear co cs ce hT hzs hzl hf
  go_enter Try.func7, Try.ntmps7
  go_wp2_with fail
  refine (law_rndBegun _).mono ?_
  rintro e w1 ⟨rfl, hb1⟩
  have HR := Lib.hid (heap_below hr.out hb1)
  replace hb := bt hb (hb1.mono (by simp))
  have c0 := cell_of_row _ _ 0 _ _ _ HR.out
  have c1 := cell_of_row _ _ 1 _ _ _ HR.out
  clear hr hb1
  go_wp2_with fail
  refine (CO.out _).mono ?_
  rintro e w2 ⟨av, rfl, hiv, hb2⟩
  replace HR := Lib.hid (heap_below HR.out hb2)
  replace hb := bt hb hb2
  have HIV := Lib.hid hiv
  clear hb2 c0 c1 CO hiv
  have c0 := cell_of_row _ _ 0 _ _ _ (heap_keep HR.out (Obj.cells #[Value.int IntKind.u64 T, Value.int IntKind.u64 g] 24))
  have c1 := cell_of_row _ _ 1 _ _ _ (heap_keep HR.out (Obj.cells #[Value.int IntKind.u64 T, Value.int IntKind.u64 g] 24))
  have hX := hb.size
  go_wp2_with fail
  have hbn := (Below.refl w2.heap.size w2).alloc (Nat.le_refl _) (Obj.cells #[Value.int IntKind.u64 T, Value.int IntKind.u64 g] 24)
  have HR6 := Lib.hid (heap_alloc_new w2 (Obj.cells #[Value.int IntKind.u64 T, Value.int IntKind.u64 g] 24))
  replace HR := Lib.hid (heap_keep HR.out (Obj.cells #[Value.int IntKind.u64 T, Value.int IntKind.u64 g] 24))
  replace HIV := Lib.hid (HIV.out.below hbn)
  replace hb := bt hb hbn
  clear hbn c0 c1
  generalize (w2.alloc (Obj.cells #[Value.int IntKind.u64 T, Value.int IntKind.u64 g] 24)) = W3 at *
  generalize w2.heap.size = X at *
  refine (CS.out _).mono ?_
  rintro e w4 ⟨bv, rfl, hiv, hb2⟩
  replace HR6 := Lib.hid (heap_below HR6.out hb2)
  replace HIV := Lib.hid (HIV.out.below hb2)
  have HIW := Lib.hid hiv
  replace hb := bt hb hb2
  clear hb2 CS HR hiv
  have hbn := (Below.refl w4.heap.size w4).alloc (Nat.le_refl _) (Obj.cells #[Value.int IntKind.u64 T, Value.int IntKind.u64 g] 24)
  have HR9 := Lib.hid (heap_alloc_new w4 (Obj.cells #[Value.int IntKind.u64 T, Value.int IntKind.u64 g] 24))
  replace HR6 := Lib.hid (heap_keep HR6.out (Obj.cells #[Value.int IntKind.u64 T, Value.int IntKind.u64 g] 24))
  replace HIV := Lib.hid (HIV.out.below hbn)
  replace HIW := Lib.hid (HIW.out.below hbn)
  replace hb := bt hb hbn
  clear hbn
  go_wp2_with fail
  generalize (w4.alloc (Obj.cells #[Value.int IntKind.u64 T, Value.int IntKind.u64 g] 24)) = W5 at *
  generalize w4.heap.size = Y at *
  refine (CE.out _ _ _ HIV.out HIW.out).mono ?_
  rintro e w6 ⟨rfl, hb2⟩
  replace HR6 := Lib.hid (heap_below HR6.out hb2)
  replace HR9 := Lib.hid (heap_below HR9.out hb2)
  replace hb := bt hb hb2
  have c0 := cell_of_row _ _ 0 _ _ _ HR6.out
  have c1 := cell_of_row _ _ 1 _ _ _ HR6.out
  have d0 := cell_of_row _ _ 0 _ _ _ HR9.out
  have d1 := cell_of_row _ _ 1 _ _ _ HR9.out
  clear hb2
  go_wp2_with fail
  go_ret
  exact ⟨rfl, hb⟩

theorem law_RndOrders (s g : Nat) (n : Int) (hs : s < 18446744073709551616) (hg : g < 18446744073709551616) (w : World) :
    Calls Try.prog 7 #[.agg #[.int .u64 s, .int .u64 g], .int .i64 n] w fun e w' => e = .returned (.bool true) ∧ Below w.heap.size w w' := by
  by_cases h : n < 0 ∨ 1000 < n ∨ g % 2 = 0
  · exact law_RndOrders_err s g n hs hg h w
  · obtain ⟨m, rfl⟩ := Int.eq_ofNat_of_zero_le (show 0 ≤ n by omega)
    exact law_RndOrders_ok s g m hs hg (by omega) (by omega) w
end Go.Proofs.Ytdhaaeaacbnghaa
