/- quat.Of and the reference's Around. -/
import Derived.Test.YtehpfkmaikbjkaaQuatMul
import Derived.Test.YtehpfkmaikbjkaaTrigRef
namespace Go.Proofs.Ytehpfkmaikbjkaa
open Go.ChangeShapes Go.WideShapes Go.ChangeAt Go.RowKit Go.Mem Go.Nb
set_option linter.unusedVariables false
def arW (l : List Int) (h : Int) : Nat → Int
  | 0 => if farOf l = 0 then 65536 else cosine h
  | k + 1 => if farOf l = 0 then 0 else qm ((evens l).getD k 0) (sine h)
theorem ints3_row {w : World} {g : Nat} {t : TypeId} {a b c : Int} (h : w.heap[g]? = some (.cells #[.int .i64 a, .int .i64 b, .int .i64 c] t (0, 0))) : IntsAt .i64 w (some ⟨g, 0, none⟩) [a, b, c] := by
  intro _
  refine ⟨_, rfl, lt_of_heap h, fun i hi => ?_⟩
  have e : ((⟨g, 0, none⟩ : Addr).add i) = ⟨g, i, none⟩ := by simp [Addr.add]; try omega
  rw [e, cell_of_row _ _ i _ _ _ h]
  match i, hi with
  | 0, _ => rfl
  | 1, _ => rfl
  | 2, _ => rfl
theorem evens3 (a b c : Int) : (evens [a, b, c]).length = 3 := rfl
def F_quatOf (BB gg cc : Nat) (H Z x0 x1 x2 : Int) (j : Nat) (v : Value) (w : World) : Prop := v = ([.int .i64 H, .int .i64 (cosine H), .slice (some ⟨gg, 0, none⟩) 3 cc, .pointer (some ⟨gg, 0, none⟩), .int .i64 x0, .int .i64 Z, .int .i64 (qm x0 Z), .slice (some ⟨gg, 0, none⟩) 3 cc, .pointer (some ⟨gg, 1, none⟩), .int .i64 x1, .int .i64 Z, .int .i64 (qm x1 Z), .slice (some ⟨gg, 0, none⟩) 3 cc, .pointer (some ⟨gg, 2, none⟩), .int .i64 x2, .int .i64 Z, .int .i64 (qm x2 Z), .agg #[.int .i64 (cosine H), .int .i64 (qm x0 Z), .int .i64 (qm x1 Z), .int .i64 (qm x2 Z)]] : List Value).getD j undef
theorem F_quatOf_mono (BB gg cc : Nat) (H Z x0 x1 x2 : Int) : Facts (F_quatOf BB gg cc H Z x0 x1 x2) := ⟨fun _ _ _ _ h _ => h⟩
def F_around (BB gg cc : Nat) (H Z x0 x1 x2 : Int) (j : Nat) (v : Value) (w : World) : Prop := v = ([.int .i64 H, .int .i64 (cosine H), .slice (some ⟨gg, 0, none⟩) 3 cc, .pointer (some ⟨gg, 0, none⟩), .int .i64 x0, .int .i64 Z, .int .i64 (qm x0 Z), .slice (some ⟨gg, 0, none⟩) 3 cc, .pointer (some ⟨gg, 1, none⟩), .int .i64 x1, .int .i64 Z, .int .i64 (qm x1 Z), .slice (some ⟨gg, 0, none⟩) 3 cc, .pointer (some ⟨gg, 2, none⟩), .int .i64 x2, .int .i64 Z, .int .i64 (qm x2 Z), .agg #[.int .i64 (cosine H), .int .i64 (qm x0 Z), .int .i64 (qm x1 Z), .int .i64 (qm x2 Z)]] : List Value).getD j undef
theorem F_around_mono (BB gg cc : Nat) (H Z x0 x1 x2 : Int) : Facts (F_around BB gg cc H Z x0 x1 x2) := ⟨fun _ _ _ _ h _ => h⟩
set_option maxHeartbeats 4000000 in
set_option maxRecDepth 100000 in
theorem quat_Of (a b c g : Int) (hg : -9223372036854775808 ≤ g ∧ g ≤ 9223372036854775807) (w : World) : Calls Try.prog 61 #[.agg #[.int .i64 a, .int .i64 b, .int .i64 c], .int .i64 g] w fun e w' => e = .returned (.agg #[.int .i64 (arW [a, b, c] (g / 2) 0), .int .i64 (arW [a, b, c] (g / 2) 1), .int .i64 (arW [a, b, c] (g / 2) 2), .int .i64 (arW [a, b, c] (g / 2) 3)]) ∧ Below w.heap.size w w' := by
  go_enter Try.func61, Try.ntmps61
  go_wp2_with fail
  have hrow : ((w.alloc (.cells #[.int .i64 a, .int .i64 b, .int .i64 c] 69)).alloc (.cells #[.int .i64 0, .int .i64 0, .int .i64 0, .int .i64 0] 62)).heap[w.heap.size]? = some (.cells #[.int .i64 a, .int .i64 b, .int .i64 c] 69 (0, 0)) := (Below.heap_alloc _ _ _ (by simp)).trans (heap_alloc_new _ _)
  have f2 := four_new2 62 w (.cells #[.int .i64 a, .int .i64 b, .int .i64 c] 69) 0 0 0 0
  have hB := ((Below.refl w.heap.size w).alloc (Nat.le_refl _) (.cells #[.int .i64 a, .int .i64 b, .int .i64 c] 69)).alloc (by simp) (.cells #[.int .i64 0, .int .i64 0, .int .i64 0, .int .i64 0] 62)
  generalize (w.alloc (.cells #[.int .i64 a, .int .i64 b, .int .i64 c] 69)).alloc (.cells #[.int .i64 0, .int .i64 0, .int .i64 0, .int .i64 0] 62) = W0 at *
  have hu := quat_unit [a, b, c] (some ⟨w.heap.size, 0, none⟩) 3 3 rfl (by decide) W0 (ints3_row hrow)
  refine hu.mono ?_
  rintro e w3 ⟨hb3, hres⟩
  have f3 := f2.mono hb3
  have hB3 := bt hB hb3
  have F3 := Lib.hid f3
  have l1 := f3.lt
  have b0 := f3.c0
  have b1 := f3.c1
  have b2 := f3.c2
  have b3 := f3.c3
  have g0 := f3.fr 0
  have g1 := f3.fr 1
  have g2 := f3.fr 2
  have g3 := f3.fr 3
  clear hu hb3 f2 f3 hB hrow
  rcases hres with ⟨hf, rfl⟩ | ⟨hf, gg, cc, rfl, hi⟩
  · have hfin : Value.agg #[.int .i64 (arW [a, b, c] (g / 2) 0), .int .i64 (arW [a, b, c] (g / 2) 1), .int .i64 (arW [a, b, c] (g / 2) 2), .int .i64 (arW [a, b, c] (g / 2) 3)] = .agg #[.int .i64 65536, .int .i64 0, .int .i64 0, .int .i64 0] := by simp [arW, hf]
    have HF := Lib.hid hfin
    clear hfin hf
    go_wp2
    exact bodyPost_ret (v := .agg #[.int .i64 65536, .int .i64 0, .int .i64 0, .int .i64 0]) (res4 Try.results61 _ _ (w.heap.size + 1) _ _ _ _ rfl (F3.out.put 65536 0 0 0)) rfl ⟨by rw [HF.out], put4_below hB3 (by omega) _ _ _ _⟩
  · obtain ⟨x, hx1, hx, hc⟩ := hi (by rw [evens3]; decide)
    obtain rfl : (⟨gg, 0, none⟩ : Addr) = x := by injection hx1
    have e0 := hc 0 (by rw [evens3]; decide)
    have e1 := hc 1 (by rw [evens3]; decide)
    have e2 := hc 2 (by rw [evens3]; decide)
    obtain ⟨H, hH⟩ : ∃ H, H = g / 2 := ⟨_, rfl⟩
    have hfin : Value.agg #[.int .i64 (arW [a, b, c] (g / 2) 0), .int .i64 (arW [a, b, c] (g / 2) 1), .int .i64 (arW [a, b, c] (g / 2) 2), .int .i64 (arW [a, b, c] (g / 2) 3)] = .agg #[.int .i64 (cosine H), .int .i64 (qm ((evens [a, b, c]).getD 0 0) (sine H)), .int .i64 (qm ((evens [a, b, c]).getD 1 0) (sine H)), .int .i64 (qm ((evens [a, b, c]).getD 2 0) (sine H))] := by rw [hH]; simp [arW, show ¬ farOf [a, b, c] = 0 by omega]
    obtain ⟨x0, h0⟩ : ∃ x, x = (evens [a, b, c]).getD 0 0 := ⟨_, rfl⟩
    obtain ⟨x1, h1⟩ : ∃ x, x = (evens [a, b, c]).getD 1 0 := ⟨_, rfl⟩
    obtain ⟨x2, h2⟩ : ∃ x, x = (evens [a, b, c]).getD 2 0 := ⟨_, rfl⟩
    rw [← h0] at e0 hfin
    rw [← h1] at e1 hfin
    rw [← h2] at e2 hfin
    replace e0 : w3.cell? ⟨gg, 0, none⟩ = some (.int .i64 x0) := e0
    replace e1 : w3.cell? ⟨gg, 1, none⟩ = some (.int .i64 x1) := e1
    replace e2 : w3.cell? ⟨gg, 2, none⟩ = some (.int .i64 x2) := e2
    have hsn := fun W => trig_Sin H W
    obtain ⟨Z, hZ⟩ : ∃ Z, Z = sine H := ⟨_, rfl⟩
    rw [← hZ] at hfin hsn
    have HF := Lib.hid hfin
    have HSN := Lib.hid hsn
    clear hx1 hx hc hi hf hfin h0 h1 h2 hsn hZ b0 b1 b2 b3 g0 g1 g2 g3
    have hH2 : g / 2 = H := hH.symm
    clear hH
    go_wp2_with fail
    refine (HSN.out _).mono ?_
    rintro e w4 ⟨rfl, hb4⟩
    have f4 : Four 62 w4 (w.heap.size + 1) 0 0 0 0 := heap_below F3.out hb4
    have hB4 := bt hB3 hb4
    replace e0 := keepc hb4 e0
    replace e1 := keepc hb4 e1
    replace e2 := keepc hb4 e2
    clear hb4 F3 hB3 HSN l1
    go_wp2_with fail
    refine wp_region_facts rfl 18 (by kernel_rfl) (F_quatOf w.heap.size gg cc H Z x0 x1 x2) (F_quatOf_mono w.heap.size gg cc H Z x0 x1 x2) ?_ ?_
    · refine ⟨?_, ?_, ?_, ?_, ?_, ?_, ?_, ?_, ?_, ?_, ?_, ?_, ?_, ?_, ?_, ?_, ?_, ?_, trivial⟩
      · intro vs w' F hb hd hF hl
        have e := (hF 7).trans (look_out _ 7 _ _ (by kernel_rfl))
        exact one_move _ rfl (by first | exact Or.inl rfl | exact Or.inr rfl) ⟨_, rfl, Below.refl _ _, e⟩
      · intro vs w' F hb hd hF hl
        refine one_call _ _ rfl rfl (enters_of Try.func16 (by kernel_rfl) rfl) #[.int .i64 H] (eval1 ((hF 21).trans ((look_at _ 21 0 _ _ (by kernel_rfl) (by kernel_rfl) hl).trans (dep_of (Fact := F_quatOf w.heap.size gg cc H Z x0 x1 x2) hd 0 (by kernel_rfl))))) ?_
        refine (trig_Cos H _).mono ?_
        rintro e w2 ⟨rfl, hb2⟩
        exact ⟨_, rfl, _, rfl, hb2, rfl⟩
      · intro vs w' F hb hd hF hl
        have e := (hF 5).trans (look_out _ 5 _ _ (by kernel_rfl))
        exact one_move _ rfl (by first | exact Or.inl rfl | exact Or.inr rfl) ⟨_, rfl, Below.refl _ _, e⟩
      · intro vs w' F hb hd hF hl
        have ex := (hF 23).trans ((look_at _ 23 2 _ _ (by kernel_rfl) (by kernel_rfl) hl).trans (dep_of (Fact := F_quatOf w.heap.size gg cc H Z x0 x1 x2) hd 2 (by kernel_rfl)))
        exact one_index 38 _ _ rfl rfl (.slice (some ⟨gg, 0, none⟩) 3 cc) (.int .i64 0) (.pointer (some ⟨gg, 0, none⟩)) ex rfl (fun w => by clear hb hd hF hl ex; go_simp) ⟨_, rfl, Below.refl _ _, rfl⟩
      · intro vs w' F hb hd hF hl
        have e := (hF 24).trans ((look_at _ 24 3 _ _ (by kernel_rfl) (by kernel_rfl) hl).trans (dep_of (Fact := F_quatOf w.heap.size gg cc H Z x0 x1 x2) hd 3 (by kernel_rfl)))
        exact one_load _ _ rfl rfl _ _ e (keepc hb e0) (by kernel_rfl) ⟨_, rfl, Below.refl _ _, rfl⟩
      · intro vs w' F hb hd hF hl
        have e := (hF 8).trans (look_out _ 8 _ _ (by kernel_rfl))
        exact one_move _ rfl (by first | exact Or.inl rfl | exact Or.inr rfl) ⟨_, rfl, Below.refl _ _, e⟩
      · intro vs w' F hb hd hF hl
        refine one_call _ _ rfl rfl (enters_of Try.func36 (by kernel_rfl) rfl) #[.int .i64 x0, .int .i64 Z] (eval2 ((hF 25).trans ((look_at _ 25 4 _ _ (by kernel_rfl) (by kernel_rfl) hl).trans (dep_of (Fact := F_quatOf w.heap.size gg cc H Z x0 x1 x2) hd 4 (by kernel_rfl)))) ((hF 26).trans ((look_at _ 26 5 _ _ (by kernel_rfl) (by kernel_rfl) hl).trans (dep_of (Fact := F_quatOf w.heap.size gg cc H Z x0 x1 x2) hd 5 (by kernel_rfl))))) ?_
        refine (fix_Mul' x0 Z _).mono ?_
        rintro e w2 ⟨rfl, hb2⟩
        exact ⟨_, rfl, _, rfl, hb2, rfl⟩
      · intro vs w' F hb hd hF hl
        have e := (hF 5).trans (look_out _ 5 _ _ (by kernel_rfl))
        exact one_move _ rfl (by first | exact Or.inl rfl | exact Or.inr rfl) ⟨_, rfl, Below.refl _ _, e⟩
      · intro vs w' F hb hd hF hl
        have ex := (hF 28).trans ((look_at _ 28 7 _ _ (by kernel_rfl) (by kernel_rfl) hl).trans (dep_of (Fact := F_quatOf w.heap.size gg cc H Z x0 x1 x2) hd 7 (by kernel_rfl)))
        exact one_index 38 _ _ rfl rfl (.slice (some ⟨gg, 0, none⟩) 3 cc) (.int .i64 1) (.pointer (some ⟨gg, 1, none⟩)) ex rfl (fun w => by clear hb hd hF hl ex; go_simp) ⟨_, rfl, Below.refl _ _, rfl⟩
      · intro vs w' F hb hd hF hl
        have e := (hF 29).trans ((look_at _ 29 8 _ _ (by kernel_rfl) (by kernel_rfl) hl).trans (dep_of (Fact := F_quatOf w.heap.size gg cc H Z x0 x1 x2) hd 8 (by kernel_rfl)))
        exact one_load _ _ rfl rfl _ _ e (keepc hb e1) (by kernel_rfl) ⟨_, rfl, Below.refl _ _, rfl⟩
      · intro vs w' F hb hd hF hl
        have e := (hF 8).trans (look_out _ 8 _ _ (by kernel_rfl))
        exact one_move _ rfl (by first | exact Or.inl rfl | exact Or.inr rfl) ⟨_, rfl, Below.refl _ _, e⟩
      · intro vs w' F hb hd hF hl
        refine one_call _ _ rfl rfl (enters_of Try.func36 (by kernel_rfl) rfl) #[.int .i64 x1, .int .i64 Z] (eval2 ((hF 30).trans ((look_at _ 30 9 _ _ (by kernel_rfl) (by kernel_rfl) hl).trans (dep_of (Fact := F_quatOf w.heap.size gg cc H Z x0 x1 x2) hd 9 (by kernel_rfl)))) ((hF 31).trans ((look_at _ 31 10 _ _ (by kernel_rfl) (by kernel_rfl) hl).trans (dep_of (Fact := F_quatOf w.heap.size gg cc H Z x0 x1 x2) hd 10 (by kernel_rfl))))) ?_
        refine (fix_Mul' x1 Z _).mono ?_
        rintro e w2 ⟨rfl, hb2⟩
        exact ⟨_, rfl, _, rfl, hb2, rfl⟩
      · intro vs w' F hb hd hF hl
        have e := (hF 5).trans (look_out _ 5 _ _ (by kernel_rfl))
        exact one_move _ rfl (by first | exact Or.inl rfl | exact Or.inr rfl) ⟨_, rfl, Below.refl _ _, e⟩
      · intro vs w' F hb hd hF hl
        have ex := (hF 33).trans ((look_at _ 33 12 _ _ (by kernel_rfl) (by kernel_rfl) hl).trans (dep_of (Fact := F_quatOf w.heap.size gg cc H Z x0 x1 x2) hd 12 (by kernel_rfl)))
        exact one_index 38 _ _ rfl rfl (.slice (some ⟨gg, 0, none⟩) 3 cc) (.int .i64 2) (.pointer (some ⟨gg, 2, none⟩)) ex rfl (fun w => by clear hb hd hF hl ex; go_simp) ⟨_, rfl, Below.refl _ _, rfl⟩
      · intro vs w' F hb hd hF hl
        have e := (hF 34).trans ((look_at _ 34 13 _ _ (by kernel_rfl) (by kernel_rfl) hl).trans (dep_of (Fact := F_quatOf w.heap.size gg cc H Z x0 x1 x2) hd 13 (by kernel_rfl)))
        exact one_load _ _ rfl rfl _ _ e (keepc hb e2) (by kernel_rfl) ⟨_, rfl, Below.refl _ _, rfl⟩
      · intro vs w' F hb hd hF hl
        have e := (hF 8).trans (look_out _ 8 _ _ (by kernel_rfl))
        exact one_move _ rfl (by first | exact Or.inl rfl | exact Or.inr rfl) ⟨_, rfl, Below.refl _ _, e⟩
      · intro vs w' F hb hd hF hl
        refine one_call _ _ rfl rfl (enters_of Try.func36 (by kernel_rfl) rfl) #[.int .i64 x2, .int .i64 Z] (eval2 ((hF 35).trans ((look_at _ 35 14 _ _ (by kernel_rfl) (by kernel_rfl) hl).trans (dep_of (Fact := F_quatOf w.heap.size gg cc H Z x0 x1 x2) hd 14 (by kernel_rfl)))) ((hF 36).trans ((look_at _ 36 15 _ _ (by kernel_rfl) (by kernel_rfl) hl).trans (dep_of (Fact := F_quatOf w.heap.size gg cc H Z x0 x1 x2) hd 15 (by kernel_rfl))))) ?_
        refine (fix_Mul' x2 Z _).mono ?_
        rintro e w2 ⟨rfl, hb2⟩
        exact ⟨_, rfl, _, rfl, hb2, rfl⟩
      · intro vs w' F hb hd hF hl
        exact one_build _ _ rfl rfl #[(0, .int .i64 (cosine H)), (1, .int .i64 (qm x0 Z)), (2, .int .i64 (qm x1 Z)), (3, .int .i64 (qm x2 Z))] (parts4 ((hF 22).trans ((look_at _ 22 1 _ _ (by kernel_rfl) (by kernel_rfl) hl).trans (dep_of (Fact := F_quatOf w.heap.size gg cc H Z x0 x1 x2) hd 1 (by kernel_rfl)))) ((hF 27).trans ((look_at _ 27 6 _ _ (by kernel_rfl) (by kernel_rfl) hl).trans (dep_of (Fact := F_quatOf w.heap.size gg cc H Z x0 x1 x2) hd 6 (by kernel_rfl)))) ((hF 32).trans ((look_at _ 32 11 _ _ (by kernel_rfl) (by kernel_rfl) hl).trans (dep_of (Fact := F_quatOf w.heap.size gg cc H Z x0 x1 x2) hd 11 (by kernel_rfl)))) ((hF 37).trans ((look_at _ 37 16 _ _ (by kernel_rfl) (by kernel_rfl) hl).trans (dep_of (Fact := F_quatOf w.heap.size gg cc H Z x0 x1 x2) hd 16 (by kernel_rfl))))) (.agg #[.int .i64 (cosine H), .int .i64 (qm x0 Z), .int .i64 (qm x1 Z), .int .i64 (qm x2 Z)]) (fun w => by kernel_rfl) ⟨_, rfl, Below.refl _ _, rfl⟩
    · intro vs W1 hl hb hI
      have hlast := hI 17 (by omega)
      generalize hFF : fillAll _ _ _ = F
      have q1 : F.eval (.tmp 4) = .pointer (some ⟨w.heap.size + 1, 0, none⟩) := by rw [← hFF]; exact (eval_fill _ 4 _ _).trans ((look_out _ 4 _ _ (by kernel_rfl)).trans rfl)
      have q2 : F.eval (.tmp 38) = .agg #[.int .i64 (cosine H), .int .i64 (qm x0 Z), .int .i64 (qm x1 Z), .int .i64 (qm x2 Z)] := by rw [← hFF]; exact (eval_fill _ 38 _ _).trans ((look_at _ 38 17 _ _ (by kernel_rfl) (by kernel_rfl) hl).trans hlast)
      have q3 : F.defers = [] := by rw [← hFF]; exact fillAll_defers _ _ _
      have f5 := f4.mono hb
      have hB9 := hB4.trans (hb.mono hB4.size)
      clear hI hl hb f4 hFF hlast
      refine wpList_store_abs rfl 62 (.tmp 4) (.tmp 38) rfl (w.heap.size + 1) #[.int .i64 (cosine H), .int .i64 (qm x0 Z), .int .i64 (qm x1 Z), .int .i64 (qm x2 Z)] q1 q2 _ _ f5 (by kernel_rfl) rfl (ones4 _ _ _ _) ?_
      intro w9 hg hb2 hs
      go_wp2_with fail
      exact bodyPost_ret (v := .agg #[.int .i64 (cosine H), .int .i64 (qm x0 Z), .int .i64 (qm x1 Z), .int .i64 (qm x2 Z)]) (res4 Try.results61 _ _ (w.heap.size + 1) _ _ _ _ q1 hg) q3 ⟨by rw [HF.out], hB9.trans (hb2.mono (by omega))⟩
set_option maxHeartbeats 4000000 in
set_option maxRecDepth 100000 in
theorem ref_Around (a b c g : Int) (hg : -9223372036854775808 ≤ g ∧ g ≤ 9223372036854775807) (w : World) : Calls Try.prog 62 #[.agg #[.int .i64 a, .int .i64 b, .int .i64 c], .int .i64 g] w fun e w' => e = .returned (.agg #[.int .i64 (arW [a, b, c] (g / 2) 0), .int .i64 (arW [a, b, c] (g / 2) 1), .int .i64 (arW [a, b, c] (g / 2) 2), .int .i64 (arW [a, b, c] (g / 2) 3)]) ∧ Below w.heap.size w w' := by
  have hq := fun wx x n c => Lib.run_eql_slice_nil (P := Try.prog) wx 38 3 x n c 0 0 Try.underlying38
  go_enter Try.func62, Try.ntmps62
  go_wp2_with fail
  have f2 := four_new2 62 w (.cells #[.int .i64 a, .int .i64 b, .int .i64 c] 67) 0 0 0 0
  have hB := ((Below.refl w.heap.size w).alloc (Nat.le_refl _) (.cells #[.int .i64 a, .int .i64 b, .int .i64 c] 67)).alloc (by simp) (.cells #[.int .i64 0, .int .i64 0, .int .i64 0, .int .i64 0] 62)
  have hz : ((w.alloc (.cells #[.int .i64 a, .int .i64 b, .int .i64 c] 67)).alloc (.cells #[.int .i64 0, .int .i64 0, .int .i64 0, .int .i64 0] 62)).heap.size = w.heap.size + 1 + 1 := by simp
  generalize (w.alloc (.cells #[.int .i64 a, .int .i64 b, .int .i64 c] 67)).alloc (.cells #[.int .i64 0, .int .i64 0, .int .i64 0, .int .i64 0] 62) = W0 at *
  have hu := ref_Even [a, b, c] (some ⟨W0.heap.size, 0, none⟩) 3 3 rfl (by decide) (W0.alloc (.cells #[.int .i64 a, .int .i64 b, .int .i64 c] 3)) (ints3_row (heap_alloc_new W0 _))
  rw [hz] at hu
  refine hu.mono ?_
  rintro e w3 ⟨hb3, hres⟩
  replace hb3 : Below W0.heap.size W0 w3 := ((Below.refl _ _).alloc (Nat.le_refl _) _).trans (hb3.mono (by simp))
  have f3 := f2.mono hb3
  have hB3 := bt hB hb3
  have F3 := Lib.hid f3
  have l1 := f3.lt
  have b0 := f3.c0
  have b1 := f3.c1
  have b2 := f3.c2
  have b3 := f3.c3
  have g0 := f3.fr 0
  have g1 := f3.fr 1
  have g2 := f3.fr 2
  have g3 := f3.fr 3
  clear hu hb3 f2 f3 hB hz
  rcases hres with ⟨hf, rfl⟩ | ⟨hf, gg, cc, rfl, hi⟩
  · have hfin : Value.agg #[.int .i64 (arW [a, b, c] (g / 2) 0), .int .i64 (arW [a, b, c] (g / 2) 1), .int .i64 (arW [a, b, c] (g / 2) 2), .int .i64 (arW [a, b, c] (g / 2) 3)] = .agg #[.int .i64 65536, .int .i64 0, .int .i64 0, .int .i64 0] := by simp [arW, hf]
    have HF := Lib.hid hfin
    clear hfin hf
    go_wp2
    exact bodyPost_ret (v := .agg #[.int .i64 65536, .int .i64 0, .int .i64 0, .int .i64 0]) (res4 Try.results62 _ _ (w.heap.size + 1) _ _ _ _ rfl (F3.out.put 65536 0 0 0)) rfl ⟨by rw [HF.out], put4_below hB3 (by omega) _ _ _ _⟩
  · obtain ⟨x, hx1, hx, hc⟩ := hi (by rw [evens3]; decide)
    obtain rfl : (⟨gg, 0, none⟩ : Addr) = x := by injection hx1
    have e0 := hc 0 (by rw [evens3]; decide)
    have e1 := hc 1 (by rw [evens3]; decide)
    have e2 := hc 2 (by rw [evens3]; decide)
    obtain ⟨H, hH⟩ : ∃ H, H = g / 2 := ⟨_, rfl⟩
    have hfin : Value.agg #[.int .i64 (arW [a, b, c] (g / 2) 0), .int .i64 (arW [a, b, c] (g / 2) 1), .int .i64 (arW [a, b, c] (g / 2) 2), .int .i64 (arW [a, b, c] (g / 2) 3)] = .agg #[.int .i64 (cosine H), .int .i64 (qm ((evens [a, b, c]).getD 0 0) (sine H)), .int .i64 (qm ((evens [a, b, c]).getD 1 0) (sine H)), .int .i64 (qm ((evens [a, b, c]).getD 2 0) (sine H))] := by rw [hH]; simp [arW, show ¬ farOf [a, b, c] = 0 by omega]
    obtain ⟨x0, h0⟩ : ∃ x, x = (evens [a, b, c]).getD 0 0 := ⟨_, rfl⟩
    obtain ⟨x1, h1⟩ : ∃ x, x = (evens [a, b, c]).getD 1 0 := ⟨_, rfl⟩
    obtain ⟨x2, h2⟩ : ∃ x, x = (evens [a, b, c]).getD 2 0 := ⟨_, rfl⟩
    rw [← h0] at e0 hfin
    rw [← h1] at e1 hfin
    rw [← h2] at e2 hfin
    replace e0 : w3.cell? ⟨gg, 0, none⟩ = some (.int .i64 x0) := e0
    replace e1 : w3.cell? ⟨gg, 1, none⟩ = some (.int .i64 x1) := e1
    replace e2 : w3.cell? ⟨gg, 2, none⟩ = some (.int .i64 x2) := e2
    have hsn := fun W => ref_Sine H W
    obtain ⟨Z, hZ⟩ : ∃ Z, Z = sine H := ⟨_, rfl⟩
    rw [← hZ] at hfin hsn
    have HF := Lib.hid hfin
    have HSN := Lib.hid hsn
    clear hx1 hx hc hi hf hfin h0 h1 h2 hsn hZ b0 b1 b2 b3 g0 g1 g2 g3
    obtain ⟨m1, m2, m3, m4, m5, m6⟩ := even_arith g 1 (by decide)
    simp only [Int.mul_one] at m1 m2 m3 m4 m5 m6
    obtain ⟨tt, ht⟩ : ∃ tt, g.tmod 2 = tt := ⟨_, rfl⟩
    obtain ⟨uu, hu⟩ : ∃ uu, g % 2 = uu := ⟨_, rfl⟩
    have hgu : -9223372036854775808 ≤ g - uu ∧ g - uu ≤ 9223372036854775807 := by omega
    rw [ht] at m1 m2 m3
    rw [hu] at m3 m4 m5 m6
    rw [← hH] at m6
    have hHb : -9223372036854775808 ≤ H ∧ H ≤ 9223372036854775807 := by omega
    clear hH hu
    go_wp2_with fail
    refine (HSN.out _).mono ?_
    rintro e w4 ⟨rfl, hb4⟩
    have f4 : Four 62 w4 (w.heap.size + 1) 0 0 0 0 := heap_below F3.out hb4
    have hB4 := bt hB3 hb4
    replace e0 := keepc hb4 e0
    replace e1 := keepc hb4 e1
    replace e2 := keepc hb4 e2
    clear hb4 F3 hB3 HSN l1
    go_wp2_with fail
    refine wp_region_facts rfl 18 (by kernel_rfl) (F_around w.heap.size gg cc H Z x0 x1 x2) (F_around_mono w.heap.size gg cc H Z x0 x1 x2) ?_ ?_
    · refine ⟨?_, ?_, ?_, ?_, ?_, ?_, ?_, ?_, ?_, ?_, ?_, ?_, ?_, ?_, ?_, ?_, ?_, ?_, trivial⟩
      · intro vs w' F hb hd hF hl
        have e := (hF 6).trans (look_out _ 6 _ _ (by kernel_rfl))
        exact one_move _ rfl (by first | exact Or.inl rfl | exact Or.inr rfl) ⟨_, rfl, Below.refl _ _, e⟩
      · intro vs w' F hb hd hF hl
        refine one_call _ _ rfl rfl (enters_of Try.func17 (by kernel_rfl) rfl) #[.int .i64 H] (eval1 ((hF 28).trans ((look_at _ 28 0 _ _ (by kernel_rfl) (by kernel_rfl) hl).trans (dep_of (Fact := F_around w.heap.size gg cc H Z x0 x1 x2) hd 0 (by kernel_rfl))))) ?_
        refine (ref_Cosine H _).mono ?_
        rintro e w2 ⟨rfl, hb2⟩
        exact ⟨_, rfl, _, rfl, hb2, rfl⟩
      · intro vs w' F hb hd hF hl
        have e := (hF 5).trans (look_out _ 5 _ _ (by kernel_rfl))
        exact one_move _ rfl (by first | exact Or.inl rfl | exact Or.inr rfl) ⟨_, rfl, Below.refl _ _, e⟩
      · intro vs w' F hb hd hF hl
        have ex := (hF 30).trans ((look_at _ 30 2 _ _ (by kernel_rfl) (by kernel_rfl) hl).trans (dep_of (Fact := F_around w.heap.size gg cc H Z x0 x1 x2) hd 2 (by kernel_rfl)))
        exact one_index 38 _ _ rfl rfl (.slice (some ⟨gg, 0, none⟩) 3 cc) (.int .i64 0) (.pointer (some ⟨gg, 0, none⟩)) ex rfl (fun w => by clear hb hd hF hl ex; go_simp) ⟨_, rfl, Below.refl _ _, rfl⟩
      · intro vs w' F hb hd hF hl
        have e := (hF 31).trans ((look_at _ 31 3 _ _ (by kernel_rfl) (by kernel_rfl) hl).trans (dep_of (Fact := F_around w.heap.size gg cc H Z x0 x1 x2) hd 3 (by kernel_rfl)))
        exact one_load _ _ rfl rfl _ _ e (keepc hb e0) (by kernel_rfl) ⟨_, rfl, Below.refl _ _, rfl⟩
      · intro vs w' F hb hd hF hl
        have e := (hF 7).trans (look_out _ 7 _ _ (by kernel_rfl))
        exact one_move _ rfl (by first | exact Or.inl rfl | exact Or.inr rfl) ⟨_, rfl, Below.refl _ _, e⟩
      · intro vs w' F hb hd hF hl
        refine one_call _ _ rfl rfl (enters_of Try.func44 (by kernel_rfl) rfl) #[.int .i64 x0, .int .i64 Z] (eval2 ((hF 32).trans ((look_at _ 32 4 _ _ (by kernel_rfl) (by kernel_rfl) hl).trans (dep_of (Fact := F_around w.heap.size gg cc H Z x0 x1 x2) hd 4 (by kernel_rfl)))) ((hF 33).trans ((look_at _ 33 5 _ _ (by kernel_rfl) (by kernel_rfl) hl).trans (dep_of (Fact := F_around w.heap.size gg cc H Z x0 x1 x2) hd 5 (by kernel_rfl))))) ?_
        refine (ref_Product' x0 Z _).mono ?_
        rintro e w2 ⟨rfl, hb2⟩
        exact ⟨_, rfl, _, rfl, hb2, rfl⟩
      · intro vs w' F hb hd hF hl
        have e := (hF 5).trans (look_out _ 5 _ _ (by kernel_rfl))
        exact one_move _ rfl (by first | exact Or.inl rfl | exact Or.inr rfl) ⟨_, rfl, Below.refl _ _, e⟩
      · intro vs w' F hb hd hF hl
        have ex := (hF 35).trans ((look_at _ 35 7 _ _ (by kernel_rfl) (by kernel_rfl) hl).trans (dep_of (Fact := F_around w.heap.size gg cc H Z x0 x1 x2) hd 7 (by kernel_rfl)))
        exact one_index 38 _ _ rfl rfl (.slice (some ⟨gg, 0, none⟩) 3 cc) (.int .i64 1) (.pointer (some ⟨gg, 1, none⟩)) ex rfl (fun w => by clear hb hd hF hl ex; go_simp) ⟨_, rfl, Below.refl _ _, rfl⟩
      · intro vs w' F hb hd hF hl
        have e := (hF 36).trans ((look_at _ 36 8 _ _ (by kernel_rfl) (by kernel_rfl) hl).trans (dep_of (Fact := F_around w.heap.size gg cc H Z x0 x1 x2) hd 8 (by kernel_rfl)))
        exact one_load _ _ rfl rfl _ _ e (keepc hb e1) (by kernel_rfl) ⟨_, rfl, Below.refl _ _, rfl⟩
      · intro vs w' F hb hd hF hl
        have e := (hF 7).trans (look_out _ 7 _ _ (by kernel_rfl))
        exact one_move _ rfl (by first | exact Or.inl rfl | exact Or.inr rfl) ⟨_, rfl, Below.refl _ _, e⟩
      · intro vs w' F hb hd hF hl
        refine one_call _ _ rfl rfl (enters_of Try.func44 (by kernel_rfl) rfl) #[.int .i64 x1, .int .i64 Z] (eval2 ((hF 37).trans ((look_at _ 37 9 _ _ (by kernel_rfl) (by kernel_rfl) hl).trans (dep_of (Fact := F_around w.heap.size gg cc H Z x0 x1 x2) hd 9 (by kernel_rfl)))) ((hF 38).trans ((look_at _ 38 10 _ _ (by kernel_rfl) (by kernel_rfl) hl).trans (dep_of (Fact := F_around w.heap.size gg cc H Z x0 x1 x2) hd 10 (by kernel_rfl))))) ?_
        refine (ref_Product' x1 Z _).mono ?_
        rintro e w2 ⟨rfl, hb2⟩
        exact ⟨_, rfl, _, rfl, hb2, rfl⟩
      · intro vs w' F hb hd hF hl
        have e := (hF 5).trans (look_out _ 5 _ _ (by kernel_rfl))
        exact one_move _ rfl (by first | exact Or.inl rfl | exact Or.inr rfl) ⟨_, rfl, Below.refl _ _, e⟩
      · intro vs w' F hb hd hF hl
        have ex := (hF 40).trans ((look_at _ 40 12 _ _ (by kernel_rfl) (by kernel_rfl) hl).trans (dep_of (Fact := F_around w.heap.size gg cc H Z x0 x1 x2) hd 12 (by kernel_rfl)))
        exact one_index 38 _ _ rfl rfl (.slice (some ⟨gg, 0, none⟩) 3 cc) (.int .i64 2) (.pointer (some ⟨gg, 2, none⟩)) ex rfl (fun w => by clear hb hd hF hl ex; go_simp) ⟨_, rfl, Below.refl _ _, rfl⟩
      · intro vs w' F hb hd hF hl
        have e := (hF 41).trans ((look_at _ 41 13 _ _ (by kernel_rfl) (by kernel_rfl) hl).trans (dep_of (Fact := F_around w.heap.size gg cc H Z x0 x1 x2) hd 13 (by kernel_rfl)))
        exact one_load _ _ rfl rfl _ _ e (keepc hb e2) (by kernel_rfl) ⟨_, rfl, Below.refl _ _, rfl⟩
      · intro vs w' F hb hd hF hl
        have e := (hF 7).trans (look_out _ 7 _ _ (by kernel_rfl))
        exact one_move _ rfl (by first | exact Or.inl rfl | exact Or.inr rfl) ⟨_, rfl, Below.refl _ _, e⟩
      · intro vs w' F hb hd hF hl
        refine one_call _ _ rfl rfl (enters_of Try.func44 (by kernel_rfl) rfl) #[.int .i64 x2, .int .i64 Z] (eval2 ((hF 42).trans ((look_at _ 42 14 _ _ (by kernel_rfl) (by kernel_rfl) hl).trans (dep_of (Fact := F_around w.heap.size gg cc H Z x0 x1 x2) hd 14 (by kernel_rfl)))) ((hF 43).trans ((look_at _ 43 15 _ _ (by kernel_rfl) (by kernel_rfl) hl).trans (dep_of (Fact := F_around w.heap.size gg cc H Z x0 x1 x2) hd 15 (by kernel_rfl))))) ?_
        refine (ref_Product' x2 Z _).mono ?_
        rintro e w2 ⟨rfl, hb2⟩
        exact ⟨_, rfl, _, rfl, hb2, rfl⟩
      · intro vs w' F hb hd hF hl
        exact one_build _ _ rfl rfl #[(0, .int .i64 (cosine H)), (1, .int .i64 (qm x0 Z)), (2, .int .i64 (qm x1 Z)), (3, .int .i64 (qm x2 Z))] (parts4 ((hF 29).trans ((look_at _ 29 1 _ _ (by kernel_rfl) (by kernel_rfl) hl).trans (dep_of (Fact := F_around w.heap.size gg cc H Z x0 x1 x2) hd 1 (by kernel_rfl)))) ((hF 34).trans ((look_at _ 34 6 _ _ (by kernel_rfl) (by kernel_rfl) hl).trans (dep_of (Fact := F_around w.heap.size gg cc H Z x0 x1 x2) hd 6 (by kernel_rfl)))) ((hF 39).trans ((look_at _ 39 11 _ _ (by kernel_rfl) (by kernel_rfl) hl).trans (dep_of (Fact := F_around w.heap.size gg cc H Z x0 x1 x2) hd 11 (by kernel_rfl)))) ((hF 44).trans ((look_at _ 44 16 _ _ (by kernel_rfl) (by kernel_rfl) hl).trans (dep_of (Fact := F_around w.heap.size gg cc H Z x0 x1 x2) hd 16 (by kernel_rfl))))) (.agg #[.int .i64 (cosine H), .int .i64 (qm x0 Z), .int .i64 (qm x1 Z), .int .i64 (qm x2 Z)]) (fun w => by kernel_rfl) ⟨_, rfl, Below.refl _ _, rfl⟩
    · intro vs W1 hl hb hI
      have hlast := hI 17 (by omega)
      generalize hFF : fillAll _ _ _ = F
      have q1 : F.eval (.tmp 4) = .pointer (some ⟨w.heap.size + 1, 0, none⟩) := by rw [← hFF]; exact (eval_fill _ 4 _ _).trans ((look_out _ 4 _ _ (by kernel_rfl)).trans rfl)
      have q2 : F.eval (.tmp 45) = .agg #[.int .i64 (cosine H), .int .i64 (qm x0 Z), .int .i64 (qm x1 Z), .int .i64 (qm x2 Z)] := by rw [← hFF]; exact (eval_fill _ 45 _ _).trans ((look_at _ 45 17 _ _ (by kernel_rfl) (by kernel_rfl) hl).trans hlast)
      have q3 : F.defers = [] := by rw [← hFF]; exact fillAll_defers _ _ _
      have f5 := f4.mono hb
      have hB9 := hB4.trans (hb.mono hB4.size)
      clear hI hl hb f4 hFF hlast
      refine wpList_store_abs rfl 62 (.tmp 4) (.tmp 45) rfl (w.heap.size + 1) #[.int .i64 (cosine H), .int .i64 (qm x0 Z), .int .i64 (qm x1 Z), .int .i64 (qm x2 Z)] q1 q2 _ _ f5 (by kernel_rfl) rfl (ones4 _ _ _ _) ?_
      intro w9 hg hb2 hs
      go_wp2_with fail
      exact bodyPost_ret (v := .agg #[.int .i64 (cosine H), .int .i64 (qm x0 Z), .int .i64 (qm x1 Z), .int .i64 (qm x2 Z)]) (res4 Try.results62 _ _ (w.heap.size + 1) _ _ _ _ q1 hg) q3 ⟨by rw [HF.out], hB9.trans (hb2.mono (by omega))⟩
end Go.Proofs.Ytehpfkmaikbjkaa
