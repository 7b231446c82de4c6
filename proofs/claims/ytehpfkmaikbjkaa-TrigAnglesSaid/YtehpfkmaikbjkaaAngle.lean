/- The reference's angle; the statement TrigAngles' walk. -/
import Derived.Test.YtehpfkmaikbjkaaAtan
import Derived.LoopN
namespace Go.Proofs.Ytehpfkmaikbjkaa
open Go.ChangeShapes Go.WideShapes Go.ChangeAt Go.RowKit Go.Mem

theorem HasL_new {w1 : World} {g cap : Nat} (h : ∀ k : Nat, k < 65 → w1.cell? ⟨g, k, none⟩ = some (.int .i64 (tb k))) {T U : TypeId} {c : Array Value} :
    HasL ((w1.alloc (.cells #[.slice (some ⟨g, 0, none⟩) 65 cap] T)).alloc (.cells c U)) w1.heap.size g cap := by
  have hlt : g < w1.heap.size := World.block_lt_of_cell? w1 _ (h 0 (by omega))
  refine ⟨?_, fun k hk => ?_⟩
  · have e : (((w1.alloc (.cells #[.slice (some ⟨g, 0, none⟩) 65 cap] T)).alloc (.cells c U))).heap[w1.heap.size]? = some (.cells #[.slice (some ⟨g, 0, none⟩) 65 cap] T) := heap_alloc2_old _ _ _
    rw [cell_of_row _ _ _ _ _ _ e]; rfl
  · rw [← h k hk]
    exact World.cell?_of_block ((Below.heap_alloc _ _ _ (by simp; omega)).trans (Below.heap_alloc _ _ _ hlt))
theorem lit_new (w1 : World) (a b : Int) {U : TypeId} : ∀ k : Nat, k < 2 → (w1.alloc (.cells #[.int .i64 a, .int .i64 b] U)).cell? ⟨w1.heap.size, k, none⟩ = some (.int .i64 (if k = 0 then a else b)) := by
  intro k hk
  have h : k = 0 ∨ k = 1 := by omega
  rcases h with rfl | rfl <;> rw [World.cell?_alloc_at] <;> rfl
theorem two_new (w1 : World) (A B : Obj) : Below w1.heap.size w1 ((w1.alloc A).alloc B) := ((Below.refl _ _).alloc (Nat.le_refl _) _).alloc (by simp) _
theorem HasL.mono {W1 wr : World} {B g cap : Nat} (h : HasL W1 B g cap) (hb : Below W1.heap.size W1 wr) : HasL wr B g cap :=
  ⟨(hb.cell (World.block_lt_of_cell? W1 _ h.1)).trans h.1, fun k hk => (hb.cell (World.block_lt_of_cell? W1 _ (h.2 k hk))).trans (h.2 k hk)⟩

set_option maxHeartbeats 2000000 in
theorem ref_Angle (y0 x0 : Int) (w : World) : Calls Try.prog 24 #[.int .i64 y0, .int .i64 x0] w (AtanPost (lim x0) (lim y0) w) := by
  have bx := lim_bd x0
  have by' := lim_bd y0
  obtain ⟨x, hx⟩ : ∃ x, x = lim x0 := ⟨_, rfl⟩
  obtain ⟨y, hy⟩ : ∃ y, y = lim y0 := ⟨_, rfl⟩
  have kx : ∀ w, Calls Try.prog 27 #[.int .i64 x0] w fun e w' => e = .returned (.int .i64 x) ∧ w = w' := fun w => by rw [hx]; exact ref_Limit x0 w
  have ky : ∀ w, Calls Try.prog 27 #[.int .i64 y0] w fun e w' => e = .returned (.int .i64 y) ∧ w = w' := fun w => by rw [hy]; exact ref_Limit y0 w
  rw [← hx] at bx ⊢
  rw [← hy] at by' ⊢
  have KX := Lib.hid kx
  have KY := Lib.hid ky
  clear hx hy kx ky
  by_cases z : x = 0 ∧ y = 0
  · obtain ⟨z1, z2⟩ := z
    have zx : (x == 0) = true := by simp [z1]
    have zy : (y == 0) = true := by simp [z2]
    have fin := Lib.hid (And.intro z1 z2)
    clear z1 z2
    go_enter Try.func24, Try.ntmps24
    go_wp2_with (go_at_call 27; first | ((with_reducible refine (KX.out _).mono ?_); rintro e w' ⟨rfl, rfl⟩) | ((with_reducible refine (KY.out _).mono ?_); rintro e w' ⟨rfl, rfl⟩))
    go_ret
    exact AtanPost.zero fin.out (Below.refl _ _)
  · have zz : x = 0 → y ≠ 0 := fun h1 h2 => z ⟨h1, h2⟩
    by_cases d0 : 0 < x ∧ 0 ≤ y
    · obtain ⟨d1, d2⟩ := d0
      obtain ⟨X, hX⟩ : ∃ X, X = x := ⟨_, rfl⟩
      subst hX
      obtain ⟨Y, hY⟩ : ∃ Y, Y = y := ⟨_, rfl⟩
      subst hY
      have bX : 0 < X ∧ X ≤ 1099511627776 := by omega
      have bY : 0 ≤ Y ∧ Y ≤ 1099511627776 := by omega
      have HROT := Lib.hid (show rot X Y = (0, X, Y) from by unfold rot; rw [if_pos ⟨d1, d2⟩])
      have hp0 := Lib.hid (PA_zero X Y bY.1)
      have Z := Lib.hid z
      clear z
      go_enter Try.func24, Try.ntmps24
      go_wp2_with (go_at_call 27; first | ((with_reducible refine (KX.out _).mono ?_); rintro e w' ⟨rfl, rfl⟩) | ((with_reducible refine (KY.out _).mono ?_); rintro e w' ⟨rfl, rfl⟩))
      refine wp_loop_rounds 1 ?_
      rw [rounds_succ]
      go_wp2_with (go_at_call 66; refine (ref_sines _).mono ?_; rintro e w1 ⟨g, cap, rfl, hcs, hbs⟩; have HCS := Lib.hid hcs; clear hcs)
      have hL := HasL_new (cap := cap) (T := 38) (U := 3) (c := #[.int .i64 256, .int .i64 1]) HCS.out
      have hS := lit_new (w1.alloc (.cells #[.slice (some ⟨g, 0, none⟩) 65 cap] 38)) 256 1 (U := 3)
      simp only [World.size_alloc] at hS
      have hBW := bt hbs (two_new w1 (.cells #[.slice (some ⟨g, 0, none⟩) 65 cap] 38) (.cells #[.int .i64 256, .int .i64 1] 3))
      generalize hW : (w1.alloc (.cells #[.slice (some ⟨g, 0, none⟩) 65 cap] 38)).alloc (.cells #[.int .i64 256, .int .i64 1] 3) = W1 at *
      go_loopw [8, 10, 36] (fun a _ i wr => ∃ (k : Nat) (n : Int), k ≤ 2 ∧ i = .int .i64 k ∧ a = .int .i64 n ∧ 0 ≤ n ∧ n < 16384 ∧ PA X Y n ∧ (k = 2 → n = 16383 ∨ ¬ PA X Y (n + 1)) ∧ Below W1.heap.size W1 wr) (fun _ _ i _ => 2 - (intOf i).toNat)
      case atStart => exact ⟨0, 0, by omega, rfl, rfl, by omega, by omega, hp0.out, by omega, Below.refl _ _⟩
      case round =>
        obtain ⟨k, n, hk, rfl, rfl, n0, n1, hpn, hq, hb⟩ := hrel
        have HPN := Lib.hid hpn
        have HQ := Lib.hid hq
        clear hpn hq
        by_cases hlt : k < 2
        · obtain ⟨s, hs⟩ : ∃ s, s = (if k = 0 then (256 : Int) else 1) := ⟨_, rfl⟩
          have hc := ((hb.cell (World.block_lt_of_cell? W1 _ (hS k hlt))).trans (hS k hlt))
          rw [← hs] at hc
          have s1 : 1 ≤ s ∧ s ≤ 256 := by split at hs <;> omega
          have s2 : k + 1 = 2 → s = 1 := by split at hs <;> omega
          have HS2 := Lib.hid s2
          have HHS := Lib.hid hS
          clear hs s2 hS
          have hdk : decide ((k : Int) < 2) = true := by simp; omega
          go_wp2_with (fail)
          obtain ⟨wo, rfl⟩ : ∃ wo : World, wo = wr := ⟨_, rfl⟩
          go_loopw [8] (fun a wi => ∃ n : Int, a = .int .i64 n ∧ 0 ≤ n ∧ n < 16384 ∧ PA X Y n ∧ Below W1.heap.size W1 wi) (fun a _ => (16384 - intOf a).toNat)
          case atStart => exact ⟨n, rfl, n0, n1, HPN.out, hb⟩
          case round =>
            clear n0 n1 HPN hb HQ hc
            obtain ⟨n, rfl, n0, n1, hpn, hb⟩ := hrel
            have HPN := Lib.hid hpn
            clear hpn
            by_cases c1 : n + s < 16384
            · have pr1 := prod_bd (n + s) X (by omega) bX.2
              have pr2 := prod_bd (16384 - n - s) Y bY.1 bY.2
              have hpa : PA X Y (n + s) ↔ sn (n + s) * X ≤ sn (16384 - n - s) * Y := by unfold PA; rw [show 16384 - (n + s) = 16384 - n - s by omega]
              by_cases c2 : PA X Y (n + s)
              · have c3 := hpa.1 c2
                have C2 := Lib.hid c2
                clear c2 hpa
                go_wp2_with (go_at_call 69; refine (ref_Angle1 _ _ g cap _ (by omega) (by omega) (hL.mono hb)).mono ?_; rintro e w2 ⟨rfl, hb1⟩; have hb := hb.trans (hb1.mono hb.size); clear hb1)
                go_roundw
                case rel => exact ⟨n + s, rfl, by omega, c1, C2.out, hb⟩
                case measure => simp [intOf]; omega
              · have c3 := fun h => c2 (hpa.2 h)
                have C2 := Lib.hid c2
                clear c2 hpa
                go_wp2_with (go_at_call 69; refine (ref_Angle1 _ _ g cap _ (by omega) (by omega) (hL.mono hb)).mono ?_; rintro e w2 ⟨rfl, hb1⟩; have hb := hb.trans (hb1.mono hb.size); clear hb1)
                go_roundw
                case rel => exact ⟨k + 1, n, by omega, by go_num, rfl, by omega, n1, HPN.out, fun h => by rw [HS2.out h] at C2; exact Or.inr C2.out, hb⟩
                case measure => simp [intOf]; omega
            · go_wp2_with (fail)
              go_roundw
              case rel => exact ⟨k + 1, n, by omega, by go_num, rfl, by omega, n1, HPN.out, fun h => by have := HS2.out h; exact Or.inl (by omega), hb⟩
              case measure => simp [intOf]; omega
        · have hk2 := HQ.out (by omega)
          have HK2 := Lib.hid hk2
          clear hk2
          go_wp2_with (fail)
          go_ret
          exact AtanPost.at (r := n) (n := n) Z.out (hBW.trans (hb.mono hBW.size)) HROT.out ⟨n0, n1, HPN.out, HK2.out⟩ (by omega)
    by_cases d3 : x ≤ 0 ∧ 0 < y
    · obtain ⟨d1, d2⟩ := d3
      have zy : (y == 0) = false := by simp; omega
      by_cases q : x = 0
      · have zx : (x == 0) = true := by simp [q]
        have hq : x ≤ 0 ∧ 0 ≤ x := by omega
        clear q
        obtain ⟨Y, hY⟩ : ∃ Y, -x = Y := ⟨_, rfl⟩
        obtain ⟨X, hX⟩ : ∃ X, X = y := ⟨_, rfl⟩
        subst hX
        have bX : 0 < X ∧ X ≤ 1099511627776 := by omega
        have bY : 0 ≤ Y ∧ Y ≤ 1099511627776 := by omega
        have HROT := Lib.hid (show rot x X = (1, X, Y) from by unfold rot; rw [if_neg d0, if_pos ⟨d1, d2⟩, hY])
        have hp0 := Lib.hid (PA_zero X Y bY.1)
        have Z := Lib.hid z
        clear z
        go_enter Try.func24, Try.ntmps24
        go_wp2_with (go_at_call 27; first | ((with_reducible refine (KX.out _).mono ?_); rintro e w' ⟨rfl, rfl⟩) | ((with_reducible refine (KY.out _).mono ?_); rintro e w' ⟨rfl, rfl⟩))
        refine wp_loop_rounds 2 ?_
        rw [rounds_succ]
        go_wp2_with (fail)
        rw [rounds_succ]
        go_wp2_with (go_at_call 66; refine (ref_sines _).mono ?_; rintro e w1 ⟨g, cap, rfl, hcs, hbs⟩; have HCS := Lib.hid hcs; clear hcs)
        have hL := HasL_new (cap := cap) (T := 38) (U := 3) (c := #[.int .i64 256, .int .i64 1]) HCS.out
        have hS := lit_new (w1.alloc (.cells #[.slice (some ⟨g, 0, none⟩) 65 cap] 38)) 256 1 (U := 3)
        simp only [World.size_alloc] at hS
        have hBW := bt hbs (two_new w1 (.cells #[.slice (some ⟨g, 0, none⟩) 65 cap] 38) (.cells #[.int .i64 256, .int .i64 1] 3))
        generalize hW : (w1.alloc (.cells #[.slice (some ⟨g, 0, none⟩) 65 cap] 38)).alloc (.cells #[.int .i64 256, .int .i64 1] 3) = W1 at *
        go_loopw [8, 10, 36] (fun a _ i wr => ∃ (k : Nat) (n : Int), k ≤ 2 ∧ i = .int .i64 k ∧ a = .int .i64 n ∧ 0 ≤ n ∧ n < 16384 ∧ PA X Y n ∧ (k = 2 → n = 16383 ∨ ¬ PA X Y (n + 1)) ∧ Below W1.heap.size W1 wr) (fun _ _ i _ => 2 - (intOf i).toNat)
        case atStart => exact ⟨0, 0, by omega, rfl, rfl, by omega, by omega, hp0.out, by omega, Below.refl _ _⟩
        case round =>
          obtain ⟨k, n, hk, rfl, rfl, n0, n1, hpn, hq, hb⟩ := hrel
          have HPN := Lib.hid hpn
          have HQ := Lib.hid hq
          clear hpn hq
          by_cases hlt : k < 2
          · obtain ⟨s, hs⟩ : ∃ s, s = (if k = 0 then (256 : Int) else 1) := ⟨_, rfl⟩
            have hc := ((hb.cell (World.block_lt_of_cell? W1 _ (hS k hlt))).trans (hS k hlt))
            rw [← hs] at hc
            have s1 : 1 ≤ s ∧ s ≤ 256 := by split at hs <;> omega
            have s2 : k + 1 = 2 → s = 1 := by split at hs <;> omega
            have HS2 := Lib.hid s2
            have HHS := Lib.hid hS
            clear hs s2 hS
            have hdk : decide ((k : Int) < 2) = true := by simp; omega
            go_wp2_with (fail)
            obtain ⟨wo, rfl⟩ : ∃ wo : World, wo = wr := ⟨_, rfl⟩
            go_loopw [8] (fun a wi => ∃ n : Int, a = .int .i64 n ∧ 0 ≤ n ∧ n < 16384 ∧ PA X Y n ∧ Below W1.heap.size W1 wi) (fun a _ => (16384 - intOf a).toNat)
            case atStart => exact ⟨n, rfl, n0, n1, HPN.out, hb⟩
            case round =>
              clear n0 n1 HPN hb HQ hc
              obtain ⟨n, rfl, n0, n1, hpn, hb⟩ := hrel
              have HPN := Lib.hid hpn
              clear hpn
              by_cases c1 : n + s < 16384
              · have pr1 := prod_bd (n + s) X (by omega) bX.2
                have pr2 := prod_bd (16384 - n - s) Y bY.1 bY.2
                have hpa : PA X Y (n + s) ↔ sn (n + s) * X ≤ sn (16384 - n - s) * Y := by unfold PA; rw [show 16384 - (n + s) = 16384 - n - s by omega]
                by_cases c2 : PA X Y (n + s)
                · have c3 := hpa.1 c2
                  have C2 := Lib.hid c2
                  clear c2 hpa
                  go_wp2_with (go_at_call 69; refine (ref_Angle1 _ _ g cap _ (by omega) (by omega) (hL.mono hb)).mono ?_; rintro e w2 ⟨rfl, hb1⟩; have hb := hb.trans (hb1.mono hb.size); clear hb1)
                  go_roundw
                  case rel => exact ⟨n + s, rfl, by omega, c1, C2.out, hb⟩
                  case measure => simp [intOf]; omega
                · have c3 := fun h => c2 (hpa.2 h)
                  have C2 := Lib.hid c2
                  clear c2 hpa
                  go_wp2_with (go_at_call 69; refine (ref_Angle1 _ _ g cap _ (by omega) (by omega) (hL.mono hb)).mono ?_; rintro e w2 ⟨rfl, hb1⟩; have hb := hb.trans (hb1.mono hb.size); clear hb1)
                  go_roundw
                  case rel => exact ⟨k + 1, n, by omega, by go_num, rfl, by omega, n1, HPN.out, fun h => by rw [HS2.out h] at C2; exact Or.inr C2.out, hb⟩
                  case measure => simp [intOf]; omega
              · go_wp2_with (fail)
                go_roundw
                case rel => exact ⟨k + 1, n, by omega, by go_num, rfl, by omega, n1, HPN.out, fun h => by have := HS2.out h; exact Or.inl (by omega), hb⟩
                case measure => simp [intOf]; omega
          · have hk2 := HQ.out (by omega)
            have HK2 := Lib.hid hk2
            clear hk2
            go_wp2_with (fail)
            go_ret
            exact AtanPost.at (r := n) (n := 16384 + n) Z.out (hBW.trans (hb.mono hBW.size)) HROT.out ⟨n0, n1, HPN.out, HK2.out⟩ (by omega)
      · obtain ⟨Y, hY⟩ : ∃ Y, -x = Y := ⟨_, rfl⟩
        obtain ⟨X, hX⟩ : ∃ X, X = y := ⟨_, rfl⟩
        subst hX
        have bX : 0 < X ∧ X ≤ 1099511627776 := by omega
        have bY : 0 ≤ Y ∧ Y ≤ 1099511627776 := by omega
        have HROT := Lib.hid (show rot x X = (1, X, Y) from by unfold rot; rw [if_neg d0, if_pos ⟨d1, d2⟩, hY])
        have hp0 := Lib.hid (PA_zero X Y bY.1)
        have Z := Lib.hid z
        clear z
        go_enter Try.func24, Try.ntmps24
        go_wp2_with (go_at_call 27; first | ((with_reducible refine (KX.out _).mono ?_); rintro e w' ⟨rfl, rfl⟩) | ((with_reducible refine (KY.out _).mono ?_); rintro e w' ⟨rfl, rfl⟩))
        refine wp_loop_rounds 2 ?_
        rw [rounds_succ]
        go_wp2_with (fail)
        rw [rounds_succ]
        go_wp2_with (go_at_call 66; refine (ref_sines _).mono ?_; rintro e w1 ⟨g, cap, rfl, hcs, hbs⟩; have HCS := Lib.hid hcs; clear hcs)
        have hL := HasL_new (cap := cap) (T := 38) (U := 3) (c := #[.int .i64 256, .int .i64 1]) HCS.out
        have hS := lit_new (w1.alloc (.cells #[.slice (some ⟨g, 0, none⟩) 65 cap] 38)) 256 1 (U := 3)
        simp only [World.size_alloc] at hS
        have hBW := bt hbs (two_new w1 (.cells #[.slice (some ⟨g, 0, none⟩) 65 cap] 38) (.cells #[.int .i64 256, .int .i64 1] 3))
        generalize hW : (w1.alloc (.cells #[.slice (some ⟨g, 0, none⟩) 65 cap] 38)).alloc (.cells #[.int .i64 256, .int .i64 1] 3) = W1 at *
        go_loopw [8, 10, 36] (fun a _ i wr => ∃ (k : Nat) (n : Int), k ≤ 2 ∧ i = .int .i64 k ∧ a = .int .i64 n ∧ 0 ≤ n ∧ n < 16384 ∧ PA X Y n ∧ (k = 2 → n = 16383 ∨ ¬ PA X Y (n + 1)) ∧ Below W1.heap.size W1 wr) (fun _ _ i _ => 2 - (intOf i).toNat)
        case atStart => exact ⟨0, 0, by omega, rfl, rfl, by omega, by omega, hp0.out, by omega, Below.refl _ _⟩
        case round =>
          obtain ⟨k, n, hk, rfl, rfl, n0, n1, hpn, hq, hb⟩ := hrel
          have HPN := Lib.hid hpn
          have HQ := Lib.hid hq
          clear hpn hq
          by_cases hlt : k < 2
          · obtain ⟨s, hs⟩ : ∃ s, s = (if k = 0 then (256 : Int) else 1) := ⟨_, rfl⟩
            have hc := ((hb.cell (World.block_lt_of_cell? W1 _ (hS k hlt))).trans (hS k hlt))
            rw [← hs] at hc
            have s1 : 1 ≤ s ∧ s ≤ 256 := by split at hs <;> omega
            have s2 : k + 1 = 2 → s = 1 := by split at hs <;> omega
            have HS2 := Lib.hid s2
            have HHS := Lib.hid hS
            clear hs s2 hS
            have hdk : decide ((k : Int) < 2) = true := by simp; omega
            go_wp2_with (fail)
            obtain ⟨wo, rfl⟩ : ∃ wo : World, wo = wr := ⟨_, rfl⟩
            go_loopw [8] (fun a wi => ∃ n : Int, a = .int .i64 n ∧ 0 ≤ n ∧ n < 16384 ∧ PA X Y n ∧ Below W1.heap.size W1 wi) (fun a _ => (16384 - intOf a).toNat)
            case atStart => exact ⟨n, rfl, n0, n1, HPN.out, hb⟩
            case round =>
              clear n0 n1 HPN hb HQ hc
              obtain ⟨n, rfl, n0, n1, hpn, hb⟩ := hrel
              have HPN := Lib.hid hpn
              clear hpn
              by_cases c1 : n + s < 16384
              · have pr1 := prod_bd (n + s) X (by omega) bX.2
                have pr2 := prod_bd (16384 - n - s) Y bY.1 bY.2
                have hpa : PA X Y (n + s) ↔ sn (n + s) * X ≤ sn (16384 - n - s) * Y := by unfold PA; rw [show 16384 - (n + s) = 16384 - n - s by omega]
                by_cases c2 : PA X Y (n + s)
                · have c3 := hpa.1 c2
                  have C2 := Lib.hid c2
                  clear c2 hpa
                  go_wp2_with (go_at_call 69; refine (ref_Angle1 _ _ g cap _ (by omega) (by omega) (hL.mono hb)).mono ?_; rintro e w2 ⟨rfl, hb1⟩; have hb := hb.trans (hb1.mono hb.size); clear hb1)
                  go_roundw
                  case rel => exact ⟨n + s, rfl, by omega, c1, C2.out, hb⟩
                  case measure => simp [intOf]; omega
                · have c3 := fun h => c2 (hpa.2 h)
                  have C2 := Lib.hid c2
                  clear c2 hpa
                  go_wp2_with (go_at_call 69; refine (ref_Angle1 _ _ g cap _ (by omega) (by omega) (hL.mono hb)).mono ?_; rintro e w2 ⟨rfl, hb1⟩; have hb := hb.trans (hb1.mono hb.size); clear hb1)
                  go_roundw
                  case rel => exact ⟨k + 1, n, by omega, by go_num, rfl, by omega, n1, HPN.out, fun h => by rw [HS2.out h] at C2; exact Or.inr C2.out, hb⟩
                  case measure => simp [intOf]; omega
              · go_wp2_with (fail)
                go_roundw
                case rel => exact ⟨k + 1, n, by omega, by go_num, rfl, by omega, n1, HPN.out, fun h => by have := HS2.out h; exact Or.inl (by omega), hb⟩
                case measure => simp [intOf]; omega
          · have hk2 := HQ.out (by omega)
            have HK2 := Lib.hid hk2
            clear hk2
            go_wp2_with (fail)
            go_ret
            exact AtanPost.at (r := n) (n := 16384 + n) Z.out (hBW.trans (hb.mono hBW.size)) HROT.out ⟨n0, n1, HPN.out, HK2.out⟩ (by omega)
    by_cases d4 : x < 0
    · obtain ⟨X, hX⟩ : ∃ X, -x = X := ⟨_, rfl⟩
      obtain ⟨Y, hY⟩ : ∃ Y, -y = Y := ⟨_, rfl⟩
      have bX : 0 < X ∧ X ≤ 1099511627776 := by omega
      have bY : 0 ≤ Y ∧ Y ≤ 1099511627776 := by omega
      have HROT := Lib.hid (show rot x y = (2, X, Y) from by unfold rot; rw [if_neg d0, if_neg d3, if_pos d4, hX, hY])
      have hp0 := Lib.hid (PA_zero X Y bY.1)
      have Z := Lib.hid z
      clear z
      go_enter Try.func24, Try.ntmps24
      go_wp2_with (go_at_call 27; first | ((with_reducible refine (KX.out _).mono ?_); rintro e w' ⟨rfl, rfl⟩) | ((with_reducible refine (KY.out _).mono ?_); rintro e w' ⟨rfl, rfl⟩))
      refine wp_loop_rounds 3 ?_
      rw [rounds_succ]
      go_wp2_with (fail)
      rw [rounds_succ]
      go_wp2_with (fail)
      rw [rounds_succ]
      go_wp2_with (go_at_call 66; refine (ref_sines _).mono ?_; rintro e w1 ⟨g, cap, rfl, hcs, hbs⟩; have HCS := Lib.hid hcs; clear hcs)
      have hL := HasL_new (cap := cap) (T := 38) (U := 3) (c := #[.int .i64 256, .int .i64 1]) HCS.out
      have hS := lit_new (w1.alloc (.cells #[.slice (some ⟨g, 0, none⟩) 65 cap] 38)) 256 1 (U := 3)
      simp only [World.size_alloc] at hS
      have hBW := bt hbs (two_new w1 (.cells #[.slice (some ⟨g, 0, none⟩) 65 cap] 38) (.cells #[.int .i64 256, .int .i64 1] 3))
      generalize hW : (w1.alloc (.cells #[.slice (some ⟨g, 0, none⟩) 65 cap] 38)).alloc (.cells #[.int .i64 256, .int .i64 1] 3) = W1 at *
      go_loopw [8, 10, 36] (fun a _ i wr => ∃ (k : Nat) (n : Int), k ≤ 2 ∧ i = .int .i64 k ∧ a = .int .i64 n ∧ 0 ≤ n ∧ n < 16384 ∧ PA X Y n ∧ (k = 2 → n = 16383 ∨ ¬ PA X Y (n + 1)) ∧ Below W1.heap.size W1 wr) (fun _ _ i _ => 2 - (intOf i).toNat)
      case atStart => exact ⟨0, 0, by omega, rfl, rfl, by omega, by omega, hp0.out, by omega, Below.refl _ _⟩
      case round =>
        obtain ⟨k, n, hk, rfl, rfl, n0, n1, hpn, hq, hb⟩ := hrel
        have HPN := Lib.hid hpn
        have HQ := Lib.hid hq
        clear hpn hq
        by_cases hlt : k < 2
        · obtain ⟨s, hs⟩ : ∃ s, s = (if k = 0 then (256 : Int) else 1) := ⟨_, rfl⟩
          have hc := ((hb.cell (World.block_lt_of_cell? W1 _ (hS k hlt))).trans (hS k hlt))
          rw [← hs] at hc
          have s1 : 1 ≤ s ∧ s ≤ 256 := by split at hs <;> omega
          have s2 : k + 1 = 2 → s = 1 := by split at hs <;> omega
          have HS2 := Lib.hid s2
          have HHS := Lib.hid hS
          clear hs s2 hS
          have hdk : decide ((k : Int) < 2) = true := by simp; omega
          go_wp2_with (fail)
          obtain ⟨wo, rfl⟩ : ∃ wo : World, wo = wr := ⟨_, rfl⟩
          go_loopw [8] (fun a wi => ∃ n : Int, a = .int .i64 n ∧ 0 ≤ n ∧ n < 16384 ∧ PA X Y n ∧ Below W1.heap.size W1 wi) (fun a _ => (16384 - intOf a).toNat)
          case atStart => exact ⟨n, rfl, n0, n1, HPN.out, hb⟩
          case round =>
            clear n0 n1 HPN hb HQ hc
            obtain ⟨n, rfl, n0, n1, hpn, hb⟩ := hrel
            have HPN := Lib.hid hpn
            clear hpn
            by_cases c1 : n + s < 16384
            · have pr1 := prod_bd (n + s) X (by omega) bX.2
              have pr2 := prod_bd (16384 - n - s) Y bY.1 bY.2
              have hpa : PA X Y (n + s) ↔ sn (n + s) * X ≤ sn (16384 - n - s) * Y := by unfold PA; rw [show 16384 - (n + s) = 16384 - n - s by omega]
              by_cases c2 : PA X Y (n + s)
              · have c3 := hpa.1 c2
                have C2 := Lib.hid c2
                clear c2 hpa
                go_wp2_with (go_at_call 69; refine (ref_Angle1 _ _ g cap _ (by omega) (by omega) (hL.mono hb)).mono ?_; rintro e w2 ⟨rfl, hb1⟩; have hb := hb.trans (hb1.mono hb.size); clear hb1)
                go_roundw
                case rel => exact ⟨n + s, rfl, by omega, c1, C2.out, hb⟩
                case measure => simp [intOf]; omega
              · have c3 := fun h => c2 (hpa.2 h)
                have C2 := Lib.hid c2
                clear c2 hpa
                go_wp2_with (go_at_call 69; refine (ref_Angle1 _ _ g cap _ (by omega) (by omega) (hL.mono hb)).mono ?_; rintro e w2 ⟨rfl, hb1⟩; have hb := hb.trans (hb1.mono hb.size); clear hb1)
                go_roundw
                case rel => exact ⟨k + 1, n, by omega, by go_num, rfl, by omega, n1, HPN.out, fun h => by rw [HS2.out h] at C2; exact Or.inr C2.out, hb⟩
                case measure => simp [intOf]; omega
            · go_wp2_with (fail)
              go_roundw
              case rel => exact ⟨k + 1, n, by omega, by go_num, rfl, by omega, n1, HPN.out, fun h => by have := HS2.out h; exact Or.inl (by omega), hb⟩
              case measure => simp [intOf]; omega
        · have hk2 := HQ.out (by omega)
          have HK2 := Lib.hid hk2
          clear hk2
          go_wp2_with (fail)
          go_ret
          exact AtanPost.at (r := n) (n := 32768 + n) Z.out (hBW.trans (hb.mono hBW.size)) HROT.out ⟨n0, n1, HPN.out, HK2.out⟩ (by omega)
    have d5 : 0 ≤ x ∧ y < 0 := by omega
    have zy : (y == 0) = false := by simp; omega
    by_cases q : x = 0
    · have zx : (x == 0) = true := by simp [q]
      have hq : x ≤ 0 ∧ 0 ≤ x := by omega
      clear q
      obtain ⟨X, hX⟩ : ∃ X, -y = X := ⟨_, rfl⟩
      obtain ⟨Y, hY⟩ : ∃ Y, Y = x := ⟨_, rfl⟩
      subst hY
      obtain ⟨V, hV⟩ : ∃ V, -Y = V := ⟨_, rfl⟩
      have hV2 : -V = Y := by omega
      have bX : 0 < X ∧ X ≤ 1099511627776 := by omega
      have bY : 0 ≤ Y ∧ Y ≤ 1099511627776 := by omega
      have HROT := Lib.hid (show rot Y y = (3, X, Y) from by unfold rot; rw [if_neg d0, if_neg d3, if_neg d4, hX])
      have hp0 := Lib.hid (PA_zero X Y bY.1)
      have Z := Lib.hid z
      clear z
      go_enter Try.func24, Try.ntmps24
      go_wp2_with (go_at_call 27; first | ((with_reducible refine (KX.out _).mono ?_); rintro e w' ⟨rfl, rfl⟩) | ((with_reducible refine (KY.out _).mono ?_); rintro e w' ⟨rfl, rfl⟩))
      refine wp_loop_rounds 4 ?_
      rw [rounds_succ]
      go_wp2_with (fail)
      rw [rounds_succ]
      go_wp2_with (fail)
      rw [rounds_succ]
      go_wp2_with (fail)
      rw [rounds_succ]
      go_wp2_with (go_at_call 66; refine (ref_sines _).mono ?_; rintro e w1 ⟨g, cap, rfl, hcs, hbs⟩; have HCS := Lib.hid hcs; clear hcs)
      have hL := HasL_new (cap := cap) (T := 38) (U := 3) (c := #[.int .i64 256, .int .i64 1]) HCS.out
      have hS := lit_new (w1.alloc (.cells #[.slice (some ⟨g, 0, none⟩) 65 cap] 38)) 256 1 (U := 3)
      simp only [World.size_alloc] at hS
      have hBW := bt hbs (two_new w1 (.cells #[.slice (some ⟨g, 0, none⟩) 65 cap] 38) (.cells #[.int .i64 256, .int .i64 1] 3))
      generalize hW : (w1.alloc (.cells #[.slice (some ⟨g, 0, none⟩) 65 cap] 38)).alloc (.cells #[.int .i64 256, .int .i64 1] 3) = W1 at *
      go_loopw [8, 10, 36] (fun a _ i wr => ∃ (k : Nat) (n : Int), k ≤ 2 ∧ i = .int .i64 k ∧ a = .int .i64 n ∧ 0 ≤ n ∧ n < 16384 ∧ PA X Y n ∧ (k = 2 → n = 16383 ∨ ¬ PA X Y (n + 1)) ∧ Below W1.heap.size W1 wr) (fun _ _ i _ => 2 - (intOf i).toNat)
      case atStart => exact ⟨0, 0, by omega, rfl, rfl, by omega, by omega, hp0.out, by omega, Below.refl _ _⟩
      case round =>
        obtain ⟨k, n, hk, rfl, rfl, n0, n1, hpn, hq, hb⟩ := hrel
        have HPN := Lib.hid hpn
        have HQ := Lib.hid hq
        clear hpn hq
        by_cases hlt : k < 2
        · obtain ⟨s, hs⟩ : ∃ s, s = (if k = 0 then (256 : Int) else 1) := ⟨_, rfl⟩
          have hc := ((hb.cell (World.block_lt_of_cell? W1 _ (hS k hlt))).trans (hS k hlt))
          rw [← hs] at hc
          have s1 : 1 ≤ s ∧ s ≤ 256 := by split at hs <;> omega
          have s2 : k + 1 = 2 → s = 1 := by split at hs <;> omega
          have HS2 := Lib.hid s2
          have HHS := Lib.hid hS
          clear hs s2 hS
          have hdk : decide ((k : Int) < 2) = true := by simp; omega
          go_wp2_with (fail)
          obtain ⟨wo, rfl⟩ : ∃ wo : World, wo = wr := ⟨_, rfl⟩
          go_loopw [8] (fun a wi => ∃ n : Int, a = .int .i64 n ∧ 0 ≤ n ∧ n < 16384 ∧ PA X Y n ∧ Below W1.heap.size W1 wi) (fun a _ => (16384 - intOf a).toNat)
          case atStart => exact ⟨n, rfl, n0, n1, HPN.out, hb⟩
          case round =>
            clear n0 n1 HPN hb HQ hc
            obtain ⟨n, rfl, n0, n1, hpn, hb⟩ := hrel
            have HPN := Lib.hid hpn
            clear hpn
            by_cases c1 : n + s < 16384
            · have pr1 := prod_bd (n + s) X (by omega) bX.2
              have pr2 := prod_bd (16384 - n - s) Y bY.1 bY.2
              have hpa : PA X Y (n + s) ↔ sn (n + s) * X ≤ sn (16384 - n - s) * Y := by unfold PA; rw [show 16384 - (n + s) = 16384 - n - s by omega]
              by_cases c2 : PA X Y (n + s)
              · have c3 := hpa.1 c2
                have C2 := Lib.hid c2
                clear c2 hpa
                go_wp2_with (go_at_call 69; refine (ref_Angle1 _ _ g cap _ (by omega) (by omega) (hL.mono hb)).mono ?_; rintro e w2 ⟨rfl, hb1⟩; have hb := hb.trans (hb1.mono hb.size); clear hb1)
                go_roundw
                case rel => exact ⟨n + s, rfl, by omega, c1, C2.out, hb⟩
                case measure => simp [intOf]; omega
              · have c3 := fun h => c2 (hpa.2 h)
                have C2 := Lib.hid c2
                clear c2 hpa
                go_wp2_with (go_at_call 69; refine (ref_Angle1 _ _ g cap _ (by omega) (by omega) (hL.mono hb)).mono ?_; rintro e w2 ⟨rfl, hb1⟩; have hb := hb.trans (hb1.mono hb.size); clear hb1)
                go_roundw
                case rel => exact ⟨k + 1, n, by omega, by go_num, rfl, by omega, n1, HPN.out, fun h => by rw [HS2.out h] at C2; exact Or.inr C2.out, hb⟩
                case measure => simp [intOf]; omega
            · go_wp2_with (fail)
              go_roundw
              case rel => exact ⟨k + 1, n, by omega, by go_num, rfl, by omega, n1, HPN.out, fun h => by have := HS2.out h; exact Or.inl (by omega), hb⟩
              case measure => simp [intOf]; omega
        · have hk2 := HQ.out (by omega)
          have HK2 := Lib.hid hk2
          clear hk2
          go_wp2_with (fail)
          go_ret
          exact AtanPost.at (r := n) (n := 49152 + n) Z.out (hBW.trans (hb.mono hBW.size)) HROT.out ⟨n0, n1, HPN.out, HK2.out⟩ (by omega)
    · obtain ⟨X, hX⟩ : ∃ X, -y = X := ⟨_, rfl⟩
      obtain ⟨Y, hY⟩ : ∃ Y, Y = x := ⟨_, rfl⟩
      subst hY
      obtain ⟨V, hV⟩ : ∃ V, -Y = V := ⟨_, rfl⟩
      have hV2 : -V = Y := by omega
      have bX : 0 < X ∧ X ≤ 1099511627776 := by omega
      have bY : 0 ≤ Y ∧ Y ≤ 1099511627776 := by omega
      have HROT := Lib.hid (show rot Y y = (3, X, Y) from by unfold rot; rw [if_neg d0, if_neg d3, if_neg d4, hX])
      have hp0 := Lib.hid (PA_zero X Y bY.1)
      have Z := Lib.hid z
      clear z
      go_enter Try.func24, Try.ntmps24
      go_wp2_with (go_at_call 27; first | ((with_reducible refine (KX.out _).mono ?_); rintro e w' ⟨rfl, rfl⟩) | ((with_reducible refine (KY.out _).mono ?_); rintro e w' ⟨rfl, rfl⟩))
      refine wp_loop_rounds 4 ?_
      rw [rounds_succ]
      go_wp2_with (fail)
      rw [rounds_succ]
      go_wp2_with (fail)
      rw [rounds_succ]
      go_wp2_with (fail)
      rw [rounds_succ]
      go_wp2_with (go_at_call 66; refine (ref_sines _).mono ?_; rintro e w1 ⟨g, cap, rfl, hcs, hbs⟩; have HCS := Lib.hid hcs; clear hcs)
      have hL := HasL_new (cap := cap) (T := 38) (U := 3) (c := #[.int .i64 256, .int .i64 1]) HCS.out
      have hS := lit_new (w1.alloc (.cells #[.slice (some ⟨g, 0, none⟩) 65 cap] 38)) 256 1 (U := 3)
      simp only [World.size_alloc] at hS
      have hBW := bt hbs (two_new w1 (.cells #[.slice (some ⟨g, 0, none⟩) 65 cap] 38) (.cells #[.int .i64 256, .int .i64 1] 3))
      generalize hW : (w1.alloc (.cells #[.slice (some ⟨g, 0, none⟩) 65 cap] 38)).alloc (.cells #[.int .i64 256, .int .i64 1] 3) = W1 at *
      go_loopw [8, 10, 36] (fun a _ i wr => ∃ (k : Nat) (n : Int), k ≤ 2 ∧ i = .int .i64 k ∧ a = .int .i64 n ∧ 0 ≤ n ∧ n < 16384 ∧ PA X Y n ∧ (k = 2 → n = 16383 ∨ ¬ PA X Y (n + 1)) ∧ Below W1.heap.size W1 wr) (fun _ _ i _ => 2 - (intOf i).toNat)
      case atStart => exact ⟨0, 0, by omega, rfl, rfl, by omega, by omega, hp0.out, by omega, Below.refl _ _⟩
      case round =>
        obtain ⟨k, n, hk, rfl, rfl, n0, n1, hpn, hq, hb⟩ := hrel
        have HPN := Lib.hid hpn
        have HQ := Lib.hid hq
        clear hpn hq
        by_cases hlt : k < 2
        · obtain ⟨s, hs⟩ : ∃ s, s = (if k = 0 then (256 : Int) else 1) := ⟨_, rfl⟩
          have hc := ((hb.cell (World.block_lt_of_cell? W1 _ (hS k hlt))).trans (hS k hlt))
          rw [← hs] at hc
          have s1 : 1 ≤ s ∧ s ≤ 256 := by split at hs <;> omega
          have s2 : k + 1 = 2 → s = 1 := by split at hs <;> omega
          have HS2 := Lib.hid s2
          have HHS := Lib.hid hS
          clear hs s2 hS
          have hdk : decide ((k : Int) < 2) = true := by simp; omega
          go_wp2_with (fail)
          obtain ⟨wo, rfl⟩ : ∃ wo : World, wo = wr := ⟨_, rfl⟩
          go_loopw [8] (fun a wi => ∃ n : Int, a = .int .i64 n ∧ 0 ≤ n ∧ n < 16384 ∧ PA X Y n ∧ Below W1.heap.size W1 wi) (fun a _ => (16384 - intOf a).toNat)
          case atStart => exact ⟨n, rfl, n0, n1, HPN.out, hb⟩
          case round =>
            clear n0 n1 HPN hb HQ hc
            obtain ⟨n, rfl, n0, n1, hpn, hb⟩ := hrel
            have HPN := Lib.hid hpn
            clear hpn
            by_cases c1 : n + s < 16384
            · have pr1 := prod_bd (n + s) X (by omega) bX.2
              have pr2 := prod_bd (16384 - n - s) Y bY.1 bY.2
              have hpa : PA X Y (n + s) ↔ sn (n + s) * X ≤ sn (16384 - n - s) * Y := by unfold PA; rw [show 16384 - (n + s) = 16384 - n - s by omega]
              by_cases c2 : PA X Y (n + s)
              · have c3 := hpa.1 c2
                have C2 := Lib.hid c2
                clear c2 hpa
                go_wp2_with (go_at_call 69; refine (ref_Angle1 _ _ g cap _ (by omega) (by omega) (hL.mono hb)).mono ?_; rintro e w2 ⟨rfl, hb1⟩; have hb := hb.trans (hb1.mono hb.size); clear hb1)
                go_roundw
                case rel => exact ⟨n + s, rfl, by omega, c1, C2.out, hb⟩
                case measure => simp [intOf]; omega
              · have c3 := fun h => c2 (hpa.2 h)
                have C2 := Lib.hid c2
                clear c2 hpa
                go_wp2_with (go_at_call 69; refine (ref_Angle1 _ _ g cap _ (by omega) (by omega) (hL.mono hb)).mono ?_; rintro e w2 ⟨rfl, hb1⟩; have hb := hb.trans (hb1.mono hb.size); clear hb1)
                go_roundw
                case rel => exact ⟨k + 1, n, by omega, by go_num, rfl, by omega, n1, HPN.out, fun h => by rw [HS2.out h] at C2; exact Or.inr C2.out, hb⟩
                case measure => simp [intOf]; omega
            · go_wp2_with (fail)
              go_roundw
              case rel => exact ⟨k + 1, n, by omega, by go_num, rfl, by omega, n1, HPN.out, fun h => by have := HS2.out h; exact Or.inl (by omega), hb⟩
              case measure => simp [intOf]; omega
        · have hk2 := HQ.out (by omega)
          have HK2 := Lib.hid hk2
          clear hk2
          go_wp2_with (fail)
          go_ret
          exact AtanPost.at (r := n) (n := 49152 + n) Z.out (hBW.trans (hb.mono hBW.size)) HROT.out ⟨n0, n1, HPN.out, HK2.out⟩ (by omega)
end Go.Proofs.Ytehpfkmaikbjkaa
