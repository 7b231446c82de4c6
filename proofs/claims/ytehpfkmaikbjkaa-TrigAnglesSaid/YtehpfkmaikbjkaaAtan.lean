/- Angles of vectors: the program's and the reference's; the statement TrigAngles' walk. -/
import Derived.Test.YtehpfkmaikbjkaaTrigRef
import Derived.Shelf.Abstract
namespace Go.Proofs.Ytehpfkmaikbjkaa
open Go.ChangeShapes Go.WideShapes Go.ChangeAt Go.RowKit Go.Mem

theorem sn_step (a : Int) (h0 : 0 ≤ a) : sn a ≤ sn (a + 1) := by
  by_cases c : a % 256 = 255
  · have h1 : (a + 1) / 256 = a / 256 + 1 := by omega
    have h2 : (a + 1) % 256 = 0 := by omega
    have m1 := tb_mono (a / 256).toNat
    unfold sn
    rw [h1, h2, c, show (a / 256 + 1).toNat = (a / 256).toNat + 1 by omega]
    generalize tb (a / 256).toNat = x at *
    generalize tb ((a / 256).toNat + 1) = y at *
    omega
  · have h1 : (a + 1) / 256 = a / 256 := by omega
    have h2 : (a + 1) % 256 = a % 256 + 1 := by omega
    have m1 := tb_mono (a / 256).toNat
    unfold sn
    rw [h1, h2]
    generalize tb (a / 256).toNat = x at *
    generalize tb ((a / 256).toNat + 1) = y at *
    generalize a % 256 = f at *
    have e : x * (256 - (f + 1)) + y * (f + 1) = x * (256 - f) + y * f + (y - x) := by
      simp only [Int.mul_sub, Int.mul_add]; omega
    rw [e]; omega
theorem sn_mono (a : Int) (h0 : 0 ≤ a) : ∀ k : Nat, sn a ≤ sn (a + k)
  | 0 => by simp
  | k + 1 => Int.le_trans (sn_mono a h0 k) (by have := sn_step (a + k) (by omega); rwa [show a + (k : Int) + 1 = a + ((k + 1 : Nat) : Int) by omega] at this)
theorem sn_le (a b : Int) (h0 : 0 ≤ a) (h : a ≤ b) : sn a ≤ sn b := by
  have := sn_mono a h0 (b - a).toNat
  rwa [show a + ((b - a).toNat : Int) = b by omega] at this

theorem cosine_q (m : Int) (h0 : 0 ≤ m) (h1 : m < 16384) : cosine m = sn (16384 - m) := by
  unfold cosine sine0
  rw [show (m % 65536 + 16384) % 65536 = m + 16384 by omega, if_neg (by omega), if_pos (by omega), show 32768 - (m + 16384) = 16384 - m by omega]
theorem sine_q (m : Int) (h0 : 0 ≤ m) (h1 : m < 16384) : sine m = sn m := by
  unfold sine sine0
  rw [show m % 65536 = m by omega, if_pos (by omega)]

/-- The angle a is not beyond the vector (X, Y). -/
def PA (X Y a : Int) : Prop := sn a * X ≤ sn (16384 - a) * Y
theorem PA_zero (X Y : Int) (hY : 0 ≤ Y) : PA X Y 0 := by
  have h : sn 0 = 0 := by decide +kernel
  have h2 := sn_bd (16384 - 0)
  unfold PA
  rw [h, Int.zero_mul]
  exact Int.mul_nonneg h2.1 hY
theorem PA_anti (X Y a b : Int) (hX : 0 ≤ X) (hY : 0 ≤ Y) (h0 : 0 ≤ a) (h : a ≤ b) (hb : b ≤ 16384) (hp : PA X Y b) : PA X Y a := by
  unfold PA at *
  have h1 := Int.mul_le_mul_of_nonneg_right (sn_le a b h0 h) hX
  have h2 := Int.mul_le_mul_of_nonneg_right (sn_le (16384 - b) (16384 - a) (by omega) (by omega)) hY
  omega
/-- What an answer is. -/
def IsAng (X Y r : Int) : Prop := 0 ≤ r ∧ r < 16384 ∧ PA X Y r ∧ (r = 16383 ∨ ¬ PA X Y (r + 1))
theorem IsAng_unique (X Y r s : Int) (hX : 0 ≤ X) (hY : 0 ≤ Y) (h : IsAng X Y r) (k : IsAng X Y s) : r = s := by
  obtain ⟨h1, h2, h3, h4⟩ := h
  obtain ⟨k1, k2, k3, k4⟩ := k
  rcases Int.lt_trichotomy r s with c | c | c
  · rcases h4 with h4 | h4
    · omega
    · exact absurd (PA_anti X Y (r + 1) s hX hY (by omega) (by omega) (by omega) k3) h4
  · exact c
  · rcases k4 with k4 | k4
    · omega
    · exact absurd (PA_anti X Y (s + 1) r hX hY (by omega) (by omega) (by omega) h3) k4
theorem prod_bd (a X : Int) (h0 : 0 ≤ X) (h1 : X ≤ 1099511627776) : 0 ≤ sn a * X ∧ sn a * X ≤ 72057594037927936 := by
  have h := sn_bd a
  have e1 := Int.mul_nonneg h.1 h0
  have e2 : sn a * X ≤ 65536 * 1099511627776 := Int.mul_le_mul h.2 h1 h0 (by omega)
  omega

/-- The vector, turned back by quarters into the first one: how many, and where it lies then. -/
def rot (x y : Int) : Int × Int × Int :=
  if 0 < x ∧ 0 ≤ y then (0, x, y) else if x ≤ 0 ∧ 0 < y then (1, y, -x) else if x < 0 then (2, -x, -y) else (3, -y, x)

/-- What both angles answer, and how they leave the world. -/
def AtanPost (x y : Int) (w : World) (e : Ending) (w' : World) : Prop :=
  ((x = 0 ∧ y = 0 ∧ e = .returned (.int .i64 0)) ∨ (¬ (x = 0 ∧ y = 0) ∧ ∃ r, e = .returned (.int .i64 ((rot x y).1 * 16384 + r)) ∧ IsAng (rot x y).2.1 (rot x y).2.2 r)) ∧ Below w.heap.size w w'
theorem AtanPost.zero {x y : Int} {w : World} (h : x = 0 ∧ y = 0) {w' : World} (hb : Below w.heap.size w w') : AtanPost x y w (.returned (.int .i64 0)) w' := ⟨Or.inl ⟨h.1, h.2, rfl⟩, hb⟩
theorem AtanPost.at {x y : Int} {w : World} (h : ¬ (x = 0 ∧ y = 0)) {w' : World} (hb : Below w.heap.size w w') {t X Y r n : Int} (hr : rot x y = (t, X, Y)) (ha : IsAng X Y r) (hn : n = t * 16384 + r) :
    AtanPost x y w (.returned (.int .i64 n)) w' := by
  refine ⟨Or.inr ⟨h, r, ?_, ?_⟩, hb⟩
  · rw [hr, hn]
  · rw [hr]; exact ha

set_option maxHeartbeats 2000000 in
theorem trig_Atan (y0 x0 : Int) (w : World) : Calls Try.prog 23 #[.int .i64 y0, .int .i64 x0] w (AtanPost (lim x0) (lim y0) w) := by
  have bx := lim_bd x0
  have by' := lim_bd y0
  obtain ⟨x, hx⟩ : ∃ x, x = lim x0 := ⟨_, rfl⟩
  obtain ⟨y, hy⟩ : ∃ y, y = lim y0 := ⟨_, rfl⟩
  have kx : ∀ w, Calls Try.prog 39 #[.int .i64 x0] w fun e w' => e = .returned (.int .i64 x) ∧ w = w' := fun w => by rw [hx]; exact fix_Clamp x0 w
  have ky : ∀ w, Calls Try.prog 39 #[.int .i64 y0] w fun e w' => e = .returned (.int .i64 y) ∧ w = w' := fun w => by rw [hy]; exact fix_Clamp y0 w
  rw [← hx] at bx ⊢
  rw [← hy] at by' ⊢
  have KX := Lib.hid kx
  have KY := Lib.hid ky
  clear hx hy kx ky
  by_cases z : x = 0 ∧ y = 0
  · obtain ⟨z1, z2⟩ := z
    have zx : (x == 0) = true := by simp [z1]
    have zy : (y == 0) = true := by simp [z2]
    have fin := Lib.hid (And.intro z1 z2)
    clear z1 z2
    go_enter Try.func23, Try.ntmps23
    go_wp2_with (go_at_call 39; first | ((with_reducible refine (KX.out _).mono ?_); rintro e w' ⟨rfl, rfl⟩) | ((with_reducible refine (KY.out _).mono ?_); rintro e w' ⟨rfl, rfl⟩))
    go_ret
    exact AtanPost.zero fin.out (Below.refl _ _)
  · have zz : x = 0 → y ≠ 0 := fun h1 h2 => z ⟨h1, h2⟩
    by_cases d0 : 0 < x ∧ 0 ≤ y
    · obtain ⟨d1, d2⟩ := d0
      obtain ⟨X, hX⟩ : ∃ X, X = x := ⟨_, rfl⟩
      subst hX
      obtain ⟨Y, hY⟩ : ∃ Y, Y = y := ⟨_, rfl⟩
      subst hY
      have bX : 0 ≤ X ∧ X ≤ 1099511627776 := by omega
      have bY : 0 ≤ Y ∧ Y ≤ 1099511627776 := by omega
      have HROT := Lib.hid (show rot X Y = (0, X, Y) from by unfold rot; rw [if_pos ⟨d1, d2⟩])
      have hp0 := Lib.hid (PA_zero X Y bY.1)
      have Z := Lib.hid z
      clear z
      go_enter Try.func23, Try.ntmps23
      go_wp2_with (go_at_call 39; first | ((with_reducible refine (KX.out _).mono ?_); rintro e w' ⟨rfl, rfl⟩) | ((with_reducible refine (KY.out _).mono ?_); rintro e w' ⟨rfl, rfl⟩))
      go_loopw [6, 7, 8] (fun lo hi _ wr => ∃ l h : Int, lo = .int .i64 l ∧ hi = .int .i64 h ∧ 0 ≤ l ∧ l < h ∧ h ≤ 16384 ∧ PA X Y l ∧ (h = 16384 ∨ ¬ PA X Y h) ∧ Below w.heap.size w wr) (fun lo hi _ _ => (intOf hi - intOf lo).toNat)
      case atStart => exact ⟨0, 16384, rfl, rfl, by omega, by omega, by omega, hp0.out, Or.inl rfl, Below.refl _ _⟩
      case round =>
        obtain ⟨l, h, rfl, rfl, h0, h1, h2, hpl, hph, hb⟩ := hrel
        have HPL := Lib.hid hpl
        have HPH := Lib.hid hph
        clear hpl hph
        by_cases c1 : l + 1 < h
        · obtain ⟨m, hm⟩ : ∃ m, (l + h) / 2 = m := ⟨_, rfl⟩
          have m0 : l < m := by omega
          have m1 : m < h := by omega
          have pr1 := prod_bd m X bX.1 bX.2
          have pr2 := prod_bd (16384 - m) Y bY.1 bY.2
          by_cases c2 : PA X Y m
          · have c3 : sn m * X ≤ sn (16384 - m) * Y := c2
            have C2 := Lib.hid c2
            clear c2
            go_wp2_with (first
              | (go_at_call 16; refine (trig_Cos _ _).mono ?_; rintro e w1 ⟨rfl, hb1⟩; rw [cosine_q m (by omega) (by omega)]; have hb := bt hb hb1; clear hb1)
              | (go_at_call 14; refine (trig_Sin _ _).mono ?_; rintro e w1 ⟨rfl, hb1⟩; rw [sine_q m (by omega) (by omega)]; have hb := bt hb hb1; clear hb1))
            go_roundw
            case rel => exact ⟨m, h, rfl, rfl, by omega, by omega, by omega, C2.out, HPH.out, hb⟩
            case measure => simp [intOf]; omega
          · have c3 : ¬ sn m * X ≤ sn (16384 - m) * Y := c2
            have C2 := Lib.hid c2
            clear c2
            go_wp2_with (first
              | (go_at_call 16; refine (trig_Cos _ _).mono ?_; rintro e w1 ⟨rfl, hb1⟩; rw [cosine_q m (by omega) (by omega)]; have hb := bt hb hb1; clear hb1)
              | (go_at_call 14; refine (trig_Sin _ _).mono ?_; rintro e w1 ⟨rfl, hb1⟩; rw [sine_q m (by omega) (by omega)]; have hb := bt hb hb1; clear hb1))
            go_roundw
            case rel => exact ⟨l, m, rfl, rfl, by omega, by omega, by omega, HPL.out, Or.inr C2.out, hb⟩
            case measure => simp [intOf]; omega
        · go_wp2
          go_ret
          refine AtanPost.at (r := l) (n := l) Z.out hb HROT.out ⟨h0, by omega, HPL.out, ?_⟩ (by omega)
          rcases HPH.out with q | q
          · exact Or.inl (by omega)
          · exact Or.inr (by rw [show l + 1 = h by omega]; exact q)
    by_cases d3 : x ≤ 0 ∧ 0 < y
    · obtain ⟨d1, d2⟩ := d3
      have zy : (y == 0) = false := by simp; omega
      by_cases q : x = 0
      · have zx : (x == 0) = true := by simp [q]
        have hq : x ≤ 0 ∧ 0 ≤ x := by omega
        clear q
        obtain ⟨Y, hY⟩ : ∃ Y, -x = Y := ⟨_, rfl⟩
        obtain ⟨X, hX⟩ : ∃ X, X = y := ⟨_, rfl⟩
        subst hX
        have bX : 0 ≤ X ∧ X ≤ 1099511627776 := by omega
        have bY : 0 ≤ Y ∧ Y ≤ 1099511627776 := by omega
        have HROT := Lib.hid (show rot x X = (1, X, Y) from by unfold rot; rw [if_neg d0, if_pos ⟨d1, d2⟩, hY])
        have hp0 := Lib.hid (PA_zero X Y bY.1)
        have Z := Lib.hid z
        clear z
        go_enter Try.func23, Try.ntmps23
        go_wp2_with (go_at_call 39; first | ((with_reducible refine (KX.out _).mono ?_); rintro e w' ⟨rfl, rfl⟩) | ((with_reducible refine (KY.out _).mono ?_); rintro e w' ⟨rfl, rfl⟩))
        go_loopw [6, 7, 8] (fun lo hi _ wr => ∃ l h : Int, lo = .int .i64 l ∧ hi = .int .i64 h ∧ 0 ≤ l ∧ l < h ∧ h ≤ 16384 ∧ PA X Y l ∧ (h = 16384 ∨ ¬ PA X Y h) ∧ Below w.heap.size w wr) (fun lo hi _ _ => (intOf hi - intOf lo).toNat)
        case atStart => exact ⟨0, 16384, rfl, rfl, by omega, by omega, by omega, hp0.out, Or.inl rfl, Below.refl _ _⟩
        case round =>
          obtain ⟨l, h, rfl, rfl, h0, h1, h2, hpl, hph, hb⟩ := hrel
          have HPL := Lib.hid hpl
          have HPH := Lib.hid hph
          clear hpl hph
          by_cases c1 : l + 1 < h
          · obtain ⟨m, hm⟩ : ∃ m, (l + h) / 2 = m := ⟨_, rfl⟩
            have m0 : l < m := by omega
            have m1 : m < h := by omega
            have pr1 := prod_bd m X bX.1 bX.2
            have pr2 := prod_bd (16384 - m) Y bY.1 bY.2
            by_cases c2 : PA X Y m
            · have c3 : sn m * X ≤ sn (16384 - m) * Y := c2
              have C2 := Lib.hid c2
              clear c2
              go_wp2_with (first
                | (go_at_call 16; refine (trig_Cos _ _).mono ?_; rintro e w1 ⟨rfl, hb1⟩; rw [cosine_q m (by omega) (by omega)]; have hb := bt hb hb1; clear hb1)
                | (go_at_call 14; refine (trig_Sin _ _).mono ?_; rintro e w1 ⟨rfl, hb1⟩; rw [sine_q m (by omega) (by omega)]; have hb := bt hb hb1; clear hb1))
              go_roundw
              case rel => exact ⟨m, h, rfl, rfl, by omega, by omega, by omega, C2.out, HPH.out, hb⟩
              case measure => simp [intOf]; omega
            · have c3 : ¬ sn m * X ≤ sn (16384 - m) * Y := c2
              have C2 := Lib.hid c2
              clear c2
              go_wp2_with (first
                | (go_at_call 16; refine (trig_Cos _ _).mono ?_; rintro e w1 ⟨rfl, hb1⟩; rw [cosine_q m (by omega) (by omega)]; have hb := bt hb hb1; clear hb1)
                | (go_at_call 14; refine (trig_Sin _ _).mono ?_; rintro e w1 ⟨rfl, hb1⟩; rw [sine_q m (by omega) (by omega)]; have hb := bt hb hb1; clear hb1))
              go_roundw
              case rel => exact ⟨l, m, rfl, rfl, by omega, by omega, by omega, HPL.out, Or.inr C2.out, hb⟩
              case measure => simp [intOf]; omega
          · go_wp2
            go_ret
            refine AtanPost.at (r := l) (n := 16384 + l) Z.out hb HROT.out ⟨h0, by omega, HPL.out, ?_⟩ (by omega)
            rcases HPH.out with q | q
            · exact Or.inl (by omega)
            · exact Or.inr (by rw [show l + 1 = h by omega]; exact q)
      · obtain ⟨Y, hY⟩ : ∃ Y, -x = Y := ⟨_, rfl⟩
        obtain ⟨X, hX⟩ : ∃ X, X = y := ⟨_, rfl⟩
        subst hX
        have bX : 0 ≤ X ∧ X ≤ 1099511627776 := by omega
        have bY : 0 ≤ Y ∧ Y ≤ 1099511627776 := by omega
        have HROT := Lib.hid (show rot x X = (1, X, Y) from by unfold rot; rw [if_neg d0, if_pos ⟨d1, d2⟩, hY])
        have hp0 := Lib.hid (PA_zero X Y bY.1)
        have Z := Lib.hid z
        clear z
        go_enter Try.func23, Try.ntmps23
        go_wp2_with (go_at_call 39; first | ((with_reducible refine (KX.out _).mono ?_); rintro e w' ⟨rfl, rfl⟩) | ((with_reducible refine (KY.out _).mono ?_); rintro e w' ⟨rfl, rfl⟩))
        go_loopw [6, 7, 8] (fun lo hi _ wr => ∃ l h : Int, lo = .int .i64 l ∧ hi = .int .i64 h ∧ 0 ≤ l ∧ l < h ∧ h ≤ 16384 ∧ PA X Y l ∧ (h = 16384 ∨ ¬ PA X Y h) ∧ Below w.heap.size w wr) (fun lo hi _ _ => (intOf hi - intOf lo).toNat)
        case atStart => exact ⟨0, 16384, rfl, rfl, by omega, by omega, by omega, hp0.out, Or.inl rfl, Below.refl _ _⟩
        case round =>
          obtain ⟨l, h, rfl, rfl, h0, h1, h2, hpl, hph, hb⟩ := hrel
          have HPL := Lib.hid hpl
          have HPH := Lib.hid hph
          clear hpl hph
          by_cases c1 : l + 1 < h
          · obtain ⟨m, hm⟩ : ∃ m, (l + h) / 2 = m := ⟨_, rfl⟩
            have m0 : l < m := by omega
            have m1 : m < h := by omega
            have pr1 := prod_bd m X bX.1 bX.2
            have pr2 := prod_bd (16384 - m) Y bY.1 bY.2
            by_cases c2 : PA X Y m
            · have c3 : sn m * X ≤ sn (16384 - m) * Y := c2
              have C2 := Lib.hid c2
              clear c2
              go_wp2_with (first
                | (go_at_call 16; refine (trig_Cos _ _).mono ?_; rintro e w1 ⟨rfl, hb1⟩; rw [cosine_q m (by omega) (by omega)]; have hb := bt hb hb1; clear hb1)
                | (go_at_call 14; refine (trig_Sin _ _).mono ?_; rintro e w1 ⟨rfl, hb1⟩; rw [sine_q m (by omega) (by omega)]; have hb := bt hb hb1; clear hb1))
              go_roundw
              case rel => exact ⟨m, h, rfl, rfl, by omega, by omega, by omega, C2.out, HPH.out, hb⟩
              case measure => simp [intOf]; omega
            · have c3 : ¬ sn m * X ≤ sn (16384 - m) * Y := c2
              have C2 := Lib.hid c2
              clear c2
              go_wp2_with (first
                | (go_at_call 16; refine (trig_Cos _ _).mono ?_; rintro e w1 ⟨rfl, hb1⟩; rw [cosine_q m (by omega) (by omega)]; have hb := bt hb hb1; clear hb1)
                | (go_at_call 14; refine (trig_Sin _ _).mono ?_; rintro e w1 ⟨rfl, hb1⟩; rw [sine_q m (by omega) (by omega)]; have hb := bt hb hb1; clear hb1))
              go_roundw
              case rel => exact ⟨l, m, rfl, rfl, by omega, by omega, by omega, HPL.out, Or.inr C2.out, hb⟩
              case measure => simp [intOf]; omega
          · go_wp2
            go_ret
            refine AtanPost.at (r := l) (n := 16384 + l) Z.out hb HROT.out ⟨h0, by omega, HPL.out, ?_⟩ (by omega)
            rcases HPH.out with q | q
            · exact Or.inl (by omega)
            · exact Or.inr (by rw [show l + 1 = h by omega]; exact q)
    by_cases d4 : x < 0
    · obtain ⟨X, hX⟩ : ∃ X, -x = X := ⟨_, rfl⟩
      obtain ⟨Y, hY⟩ : ∃ Y, -y = Y := ⟨_, rfl⟩
      have bX : 0 ≤ X ∧ X ≤ 1099511627776 := by omega
      have bY : 0 ≤ Y ∧ Y ≤ 1099511627776 := by omega
      have HROT := Lib.hid (show rot x y = (2, X, Y) from by unfold rot; rw [if_neg d0, if_neg d3, if_pos d4, hX, hY])
      have hp0 := Lib.hid (PA_zero X Y bY.1)
      have Z := Lib.hid z
      clear z
      go_enter Try.func23, Try.ntmps23
      go_wp2_with (go_at_call 39; first | ((with_reducible refine (KX.out _).mono ?_); rintro e w' ⟨rfl, rfl⟩) | ((with_reducible refine (KY.out _).mono ?_); rintro e w' ⟨rfl, rfl⟩))
      go_loopw [6, 7, 8] (fun lo hi _ wr => ∃ l h : Int, lo = .int .i64 l ∧ hi = .int .i64 h ∧ 0 ≤ l ∧ l < h ∧ h ≤ 16384 ∧ PA X Y l ∧ (h = 16384 ∨ ¬ PA X Y h) ∧ Below w.heap.size w wr) (fun lo hi _ _ => (intOf hi - intOf lo).toNat)
      case atStart => exact ⟨0, 16384, rfl, rfl, by omega, by omega, by omega, hp0.out, Or.inl rfl, Below.refl _ _⟩
      case round =>
        obtain ⟨l, h, rfl, rfl, h0, h1, h2, hpl, hph, hb⟩ := hrel
        have HPL := Lib.hid hpl
        have HPH := Lib.hid hph
        clear hpl hph
        by_cases c1 : l + 1 < h
        · obtain ⟨m, hm⟩ : ∃ m, (l + h) / 2 = m := ⟨_, rfl⟩
          have m0 : l < m := by omega
          have m1 : m < h := by omega
          have pr1 := prod_bd m X bX.1 bX.2
          have pr2 := prod_bd (16384 - m) Y bY.1 bY.2
          by_cases c2 : PA X Y m
          · have c3 : sn m * X ≤ sn (16384 - m) * Y := c2
            have C2 := Lib.hid c2
            clear c2
            go_wp2_with (first
              | (go_at_call 16; refine (trig_Cos _ _).mono ?_; rintro e w1 ⟨rfl, hb1⟩; rw [cosine_q m (by omega) (by omega)]; have hb := bt hb hb1; clear hb1)
              | (go_at_call 14; refine (trig_Sin _ _).mono ?_; rintro e w1 ⟨rfl, hb1⟩; rw [sine_q m (by omega) (by omega)]; have hb := bt hb hb1; clear hb1))
            go_roundw
            case rel => exact ⟨m, h, rfl, rfl, by omega, by omega, by omega, C2.out, HPH.out, hb⟩
            case measure => simp [intOf]; omega
          · have c3 : ¬ sn m * X ≤ sn (16384 - m) * Y := c2
            have C2 := Lib.hid c2
            clear c2
            go_wp2_with (first
              | (go_at_call 16; refine (trig_Cos _ _).mono ?_; rintro e w1 ⟨rfl, hb1⟩; rw [cosine_q m (by omega) (by omega)]; have hb := bt hb hb1; clear hb1)
              | (go_at_call 14; refine (trig_Sin _ _).mono ?_; rintro e w1 ⟨rfl, hb1⟩; rw [sine_q m (by omega) (by omega)]; have hb := bt hb hb1; clear hb1))
            go_roundw
            case rel => exact ⟨l, m, rfl, rfl, by omega, by omega, by omega, HPL.out, Or.inr C2.out, hb⟩
            case measure => simp [intOf]; omega
        · go_wp2
          go_ret
          refine AtanPost.at (r := l) (n := 32768 + l) Z.out hb HROT.out ⟨h0, by omega, HPL.out, ?_⟩ (by omega)
          rcases HPH.out with q | q
          · exact Or.inl (by omega)
          · exact Or.inr (by rw [show l + 1 = h by omega]; exact q)
    have d5 : 0 ≤ x ∧ y < 0 := by omega
    have zy : (y == 0) = false := by simp; omega
    by_cases q : x = 0
    · have zx : (x == 0) = true := by simp [q]
      have hq : x ≤ 0 ∧ 0 ≤ x := by omega
      clear q
      obtain ⟨X, hX⟩ : ∃ X, -y = X := ⟨_, rfl⟩
      obtain ⟨Y, hY⟩ : ∃ Y, Y = x := ⟨_, rfl⟩
      subst hY
      have bX : 0 ≤ X ∧ X ≤ 1099511627776 := by omega
      have bY : 0 ≤ Y ∧ Y ≤ 1099511627776 := by omega
      have HROT := Lib.hid (show rot Y y = (3, X, Y) from by unfold rot; rw [if_neg d0, if_neg d3, if_neg d4, hX])
      have hp0 := Lib.hid (PA_zero X Y bY.1)
      have Z := Lib.hid z
      clear z
      go_enter Try.func23, Try.ntmps23
      go_wp2_with (go_at_call 39; first | ((with_reducible refine (KX.out _).mono ?_); rintro e w' ⟨rfl, rfl⟩) | ((with_reducible refine (KY.out _).mono ?_); rintro e w' ⟨rfl, rfl⟩))
      go_loopw [6, 7, 8] (fun lo hi _ wr => ∃ l h : Int, lo = .int .i64 l ∧ hi = .int .i64 h ∧ 0 ≤ l ∧ l < h ∧ h ≤ 16384 ∧ PA X Y l ∧ (h = 16384 ∨ ¬ PA X Y h) ∧ Below w.heap.size w wr) (fun lo hi _ _ => (intOf hi - intOf lo).toNat)
      case atStart => exact ⟨0, 16384, rfl, rfl, by omega, by omega, by omega, hp0.out, Or.inl rfl, Below.refl _ _⟩
      case round =>
        obtain ⟨l, h, rfl, rfl, h0, h1, h2, hpl, hph, hb⟩ := hrel
        have HPL := Lib.hid hpl
        have HPH := Lib.hid hph
        clear hpl hph
        by_cases c1 : l + 1 < h
        · obtain ⟨m, hm⟩ : ∃ m, (l + h) / 2 = m := ⟨_, rfl⟩
          have m0 : l < m := by omega
          have m1 : m < h := by omega
          have pr1 := prod_bd m X bX.1 bX.2
          have pr2 := prod_bd (16384 - m) Y bY.1 bY.2
          by_cases c2 : PA X Y m
          · have c3 : sn m * X ≤ sn (16384 - m) * Y := c2
            have C2 := Lib.hid c2
            clear c2
            go_wp2_with (first
              | (go_at_call 16; refine (trig_Cos _ _).mono ?_; rintro e w1 ⟨rfl, hb1⟩; rw [cosine_q m (by omega) (by omega)]; have hb := bt hb hb1; clear hb1)
              | (go_at_call 14; refine (trig_Sin _ _).mono ?_; rintro e w1 ⟨rfl, hb1⟩; rw [sine_q m (by omega) (by omega)]; have hb := bt hb hb1; clear hb1))
            go_roundw
            case rel => exact ⟨m, h, rfl, rfl, by omega, by omega, by omega, C2.out, HPH.out, hb⟩
            case measure => simp [intOf]; omega
          · have c3 : ¬ sn m * X ≤ sn (16384 - m) * Y := c2
            have C2 := Lib.hid c2
            clear c2
            go_wp2_with (first
              | (go_at_call 16; refine (trig_Cos _ _).mono ?_; rintro e w1 ⟨rfl, hb1⟩; rw [cosine_q m (by omega) (by omega)]; have hb := bt hb hb1; clear hb1)
              | (go_at_call 14; refine (trig_Sin _ _).mono ?_; rintro e w1 ⟨rfl, hb1⟩; rw [sine_q m (by omega) (by omega)]; have hb := bt hb hb1; clear hb1))
            go_roundw
            case rel => exact ⟨l, m, rfl, rfl, by omega, by omega, by omega, HPL.out, Or.inr C2.out, hb⟩
            case measure => simp [intOf]; omega
        · go_wp2
          go_ret
          refine AtanPost.at (r := l) (n := 49152 + l) Z.out hb HROT.out ⟨h0, by omega, HPL.out, ?_⟩ (by omega)
          rcases HPH.out with q | q
          · exact Or.inl (by omega)
          · exact Or.inr (by rw [show l + 1 = h by omega]; exact q)
    · obtain ⟨X, hX⟩ : ∃ X, -y = X := ⟨_, rfl⟩
      obtain ⟨Y, hY⟩ : ∃ Y, Y = x := ⟨_, rfl⟩
      subst hY
      have bX : 0 ≤ X ∧ X ≤ 1099511627776 := by omega
      have bY : 0 ≤ Y ∧ Y ≤ 1099511627776 := by omega
      have HROT := Lib.hid (show rot Y y = (3, X, Y) from by unfold rot; rw [if_neg d0, if_neg d3, if_neg d4, hX])
      have hp0 := Lib.hid (PA_zero X Y bY.1)
      have Z := Lib.hid z
      clear z
      go_enter Try.func23, Try.ntmps23
      go_wp2_with (go_at_call 39; first | ((with_reducible refine (KX.out _).mono ?_); rintro e w' ⟨rfl, rfl⟩) | ((with_reducible refine (KY.out _).mono ?_); rintro e w' ⟨rfl, rfl⟩))
      go_loopw [6, 7, 8] (fun lo hi _ wr => ∃ l h : Int, lo = .int .i64 l ∧ hi = .int .i64 h ∧ 0 ≤ l ∧ l < h ∧ h ≤ 16384 ∧ PA X Y l ∧ (h = 16384 ∨ ¬ PA X Y h) ∧ Below w.heap.size w wr) (fun lo hi _ _ => (intOf hi - intOf lo).toNat)
      case atStart => exact ⟨0, 16384, rfl, rfl, by omega, by omega, by omega, hp0.out, Or.inl rfl, Below.refl _ _⟩
      case round =>
        obtain ⟨l, h, rfl, rfl, h0, h1, h2, hpl, hph, hb⟩ := hrel
        have HPL := Lib.hid hpl
        have HPH := Lib.hid hph
        clear hpl hph
        by_cases c1 : l + 1 < h
        · obtain ⟨m, hm⟩ : ∃ m, (l + h) / 2 = m := ⟨_, rfl⟩
          have m0 : l < m := by omega
          have m1 : m < h := by omega
          have pr1 := prod_bd m X bX.1 bX.2
          have pr2 := prod_bd (16384 - m) Y bY.1 bY.2
          by_cases c2 : PA X Y m
          · have c3 : sn m * X ≤ sn (16384 - m) * Y := c2
            have C2 := Lib.hid c2
            clear c2
            go_wp2_with (first
              | (go_at_call 16; refine (trig_Cos _ _).mono ?_; rintro e w1 ⟨rfl, hb1⟩; rw [cosine_q m (by omega) (by omega)]; have hb := bt hb hb1; clear hb1)
              | (go_at_call 14; refine (trig_Sin _ _).mono ?_; rintro e w1 ⟨rfl, hb1⟩; rw [sine_q m (by omega) (by omega)]; have hb := bt hb hb1; clear hb1))
            go_roundw
            case rel => exact ⟨m, h, rfl, rfl, by omega, by omega, by omega, C2.out, HPH.out, hb⟩
            case measure => simp [intOf]; omega
          · have c3 : ¬ sn m * X ≤ sn (16384 - m) * Y := c2
            have C2 := Lib.hid c2
            clear c2
            go_wp2_with (first
              | (go_at_call 16; refine (trig_Cos _ _).mono ?_; rintro e w1 ⟨rfl, hb1⟩; rw [cosine_q m (by omega) (by omega)]; have hb := bt hb hb1; clear hb1)
              | (go_at_call 14; refine (trig_Sin _ _).mono ?_; rintro e w1 ⟨rfl, hb1⟩; rw [sine_q m (by omega) (by omega)]; have hb := bt hb hb1; clear hb1))
            go_roundw
            case rel => exact ⟨l, m, rfl, rfl, by omega, by omega, by omega, HPL.out, Or.inr C2.out, hb⟩
            case measure => simp [intOf]; omega
        · go_wp2
          go_ret
          refine AtanPost.at (r := l) (n := 49152 + l) Z.out hb HROT.out ⟨h0, by omega, HPL.out, ?_⟩ (by omega)
          rcases HPH.out with q | q
          · exact Or.inl (by omega)
          · exact Or.inr (by rw [show l + 1 = h by omega]; exact q)
-- REF
/-- What the reference's closure reads: the variable l, and the sines behind it. -/
def HasL (w : World) (B g cap : Nat) : Prop := w.cell? ⟨B, 0, none⟩ = some (.slice (some ⟨g, 0, none⟩) 65 cap) ∧ ∀ k : Nat, k < 65 → w.cell? ⟨g, k, none⟩ = some (.int .i64 (tb k))

theorem ref_Angle1 (a : Int) (B g cap : Nat) (w : World) (h0 : 0 ≤ a) (h1 : a ≤ 16384) (hl : HasL w B g cap) :
    Calls Try.prog 69 #[.int .i64 a, .pointer (some ⟨B, 0, none⟩)] w fun e w' => e = .returned (.int .i64 (sn a)) ∧ Below w.heap.size w w' := by
  obtain ⟨hb, hc⟩ := hl
  by_cases hf : a % 256 = 0
  · have hs : sn a = tb (a / 256).toNat := by
      have := sn_at (a / 256).toNat
      rwa [show 256 * (((a / 256).toNat : Nat) : Int) = a by omega] at this
    have HS := Lib.hid hs
    have c1 := hc (a / 256).toNat (by omega)
    have hf' : (a % 256 == 0) = true := by simp [hf]
    clear hs hf hc
    go_enter Try.func69, Try.ntmps69
    go_wp2
    go_ret
    exact ⟨ret_i HS.out.symm, Below.refl _ _⟩
  · have h2 : a < 16384 := by omega
    have hf' : (a % 256 == 0) = false := by simp [hf]
    obtain ⟨x, y, HX, c1, c2, p1, p2, p3, p4⟩ := lerp_facts a h0 h2 w g hc
    have b1 : 0 ≤ a / 256 := by omega
    have b2 : a / 256 < 65 := by omega
    have b3 : IntKind.i64.wrap (a / 256 + 1) = a / 256 + 1 := IntWalk.i64_in _ (by omega)
    have b4 : 0 ≤ a / 256 + 1 := by omega
    have b5 : a / 256 + 1 < 65 := by omega
    clear hf hc
    go_enter Try.func69, Try.ntmps69
    go_wp2
    go_quiet (fail)
    go_wp2
    go_ret
    exact ⟨ret_i HX.out.symm, below_drewN (Below.refl _ _) _⟩
end Go.Proofs.Ytehpfkmaikbjkaa
