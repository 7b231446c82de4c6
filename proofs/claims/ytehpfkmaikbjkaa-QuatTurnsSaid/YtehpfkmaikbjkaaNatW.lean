/- The reference's natural numbers: what natOf, cut, times, plus and atMost compute. -/
import Derived.Test.YtehpfkmaikbjkaaNatP
import Derived.Test.YtehpfkmaikbjkaaLim
import Derived.Test.YtehpfkmaikbjkaaMem
import Derived.Deep.DeepMust
namespace Go.Proofs.Ytehpfkmaikbjkaa
open Go.ChangeShapes Go.WideShapes Go.ChangeAt Go.RowKit Go.Mem Go.Nb

/-- The slice of length 'zs.length' at ao has the numbers zs. -/
def RowZ (w : World) (ao : Option Addr) (zs : List Int) : Prop :=
  zs = [] ∨ ∃ g, ao = some ⟨g, 0, none⟩ ∧ g < w.heap.size ∧ ∀ j, j < zs.length → w.cell? ⟨g, j, none⟩ = some (.int .i64 (zs.getD j 0))
theorem RowZ.mono {w w' : World} {ao : Option Addr} {zs : List Int} (h : RowZ w ao zs) (hb : Below w.heap.size w w') : RowZ w' ao zs := by
  rcases h with h | ⟨g, h1, h2, h3⟩
  · exact Or.inl h
  · exact Or.inr ⟨g, h1, Nat.lt_of_lt_of_le h2 hb.size, fun j hj => (hb.cell h2).trans (h3 j hj)⟩
theorem RowZ.take {w : World} {ao : Option Addr} {zs : List Int} (h : RowZ w ao zs) (m : Nat) : RowZ w ao (zs.take m) := by
  rcases h with h | ⟨g, h1, h2, h3⟩
  · subst h; exact Or.inl (by simp)
  · refine Or.inr ⟨g, h1, h2, fun j hj => ?_⟩
    rw [List.length_take] at hj
    rw [getD_take _ _ _ (by omega)]; exact h3 j (by omega)
/-- The slice is the natural number n. -/
def NatS (w : World) (ao : Option Addr) (len : Nat) (n : Int) : Prop := ∃ zs : List Int, zs.length = len ∧ nval zs = n ∧ Digs zs ∧ Norm zs ∧ RowZ w ao zs
theorem NatS.mono {w w' : World} {ao : Option Addr} {len : Nat} {n : Int} (h : NatS w ao len n) (hb : Below w.heap.size w w') : NatS w' ao len n := by
  obtain ⟨zs, h1, h2, h3, h4, h5⟩ := h
  exact ⟨zs, h1, h2, h3, h4, h5.mono hb⟩
theorem NatS.nonneg {w : World} {ao : Option Addr} {len : Nat} {n : Int} (h : NatS w ao len n) : 0 ≤ n := by
  obtain ⟨zs, _, h2, h3, _, _⟩ := h
  rw [← h2]; exact (nval_bd h3).1
theorem NatS.len_le {w : World} {ao : Option Addr} {len : Nat} {n : Int} (h : NatS w ao len n) (k : Nat) (hk : n < pw k) : len ≤ k := by
  obtain ⟨zs, h1, h2, h3, h4, _⟩ := h
  rw [← h1]; exact nval_length_le h3 h4 k (by omega)

def ints (zs : List Int) : List Value := zs.map (.int .i64)
theorem ints_snoc (zs : List Int) (d : Int) : ints zs ++ #[Value.int .i64 d].toList = ints (zs ++ [d]) := by simp [ints]
theorem ints_length (zs : List Int) : (ints zs).length = zs.length := by simp [ints]
theorem own_RowZ {w : World} {base e g n cap : Nat} {zs : List Int} (h : w.ownsRow base e 1 (.slice (some ⟨g, 0, none⟩) n cap) n (ints zs)) (hn : n = zs.length) : RowZ w (some ⟨g, 0, none⟩) zs := by
  refine Or.inr ⟨g, rfl, (h.lt g rfl).2, fun j hj => ?_⟩
  rw [h.cellAt j (by omega)]
  simp [ints, List.getD_eq_getElem?_getD, List.getElem?_eq_getElem hj]

theorem natOf_step (zs : List Int) (m : Int) (c : 0 < m) (hd : Digs zs) (hpw : pw zs.length * max m 0 ≤ 9223372036854775807) :
    zs.length ≤ 4 ∧ nval (zs ++ [m % 32768]) + pw (zs ++ [m % 32768]).length * max (m / 32768) 0 = nval zs + pw zs.length * max m 0 ∧ Digs (zs ++ [m % 32768]) ∧ (m / 32768 = 0 → Norm (zs ++ [m % 32768])) ∧ pw (zs ++ [m % 32768]).length * max (m / 32768) 0 ≤ 9223372036854775807 := by
  have hm : max m 0 = m := by omega
  have hm2 : max (m / 32768) 0 = m / 32768 := by omega
  rw [hm] at hpw ⊢
  rw [hm2]
  have hp := pw_pos zs.length
  have h1 : pw zs.length * 1 ≤ pw zs.length * m := Int.mul_le_mul_of_nonneg_left (by omega) (by omega)
  have e : pw zs.length * m = pw zs.length * (32768 * (m / 32768)) + pw zs.length * (m % 32768) := by rw [← Int.mul_add]; congr 1; omega
  have e2 : pw (zs.length + 1) * (m / 32768) = pw zs.length * (32768 * (m / 32768)) := by rw [pw_succ, Int.mul_comm 32768, Int.mul_assoc]
  have e3 : 0 ≤ pw zs.length * (m % 32768) := Int.mul_nonneg (by omega) (by omega)
  refine ⟨?_, ?_, hd.append (Digs.one (by omega)), ?_, ?_⟩
  · rcases Nat.lt_or_ge 4 zs.length with h | h
    · have := pw_le (show 5 ≤ zs.length by omega)
      have h5 : pw 5 = 37778931862957161709568 := by decide +kernel
      omega
    · exact h
  · rw [nval_snoc, List.length_append, List.length_singleton, e2, e]; omega
  · intro h
    right
    simp [List.getD_eq_getElem?_getD]
    omega
  · rw [List.length_append, List.length_singleton, e2]; omega

set_option maxHeartbeats 400000 in
theorem ref_natOf (n : Int) (hn : n ≤ 9223372036854775807) (w : World) : Calls Try.prog 73 #[.int .i64 n] w fun e w' => ∃ ao len cap, e = .returned (.slice ao len cap) ∧ len ≤ cap ∧ NatS w' ao len (max n 0) ∧ Below w.heap.size w w' := by
  go_enter Try.func73, Try.ntmps73
  go_wp2
  go_loopw [0, 3] (fun nn v wr => ∃ (zs : List Int) (m : Int), nn = .int .i64 m ∧ m ≤ 9223372036854775807 ∧ (0 ≤ m ∨ zs = []) ∧ (max n 0 = nval zs + pw zs.length * max m 0) ∧ Digs zs ∧ (m = 0 → Norm zs) ∧ pw zs.length * max m 0 ≤ 9223372036854775807 ∧ wr.ownsRow w.heap.size 3 1 v zs.length (ints zs) ∧ Below w.heap.size w wr) (fun nn _ _ => (intOf nn).toNat)
  case atStart => exact ⟨[], n, rfl, hn, Or.inr rfl, by simp [nval, pw], Digs.nil, fun _ => Or.inl rfl, by simp [pw]; omega, World.ownsRow_nil _ _ _ _, Below.refl _ _⟩
  case round =>
    obtain ⟨zs, m, rfl, hm, hm0, hval, hd, hnorm, hpw, hown, hb⟩ := hrel
    by_cases c : 0 < m
    · obtain ⟨q1, q2, q3, q4, q5⟩ := natOf_step zs m c hd hpw
      have Q2 := Lib.hid (hval.trans q2.symm)
      have Q3 := Lib.hid q3
      have Q4 := Lib.hid q4
      have Q5 := Lib.hid q5
      clear hval q2 q3 q4 q5 hpw hnorm hd hm0
      go_wp2_with (at_builtin; go_must (refine wpList_append_new rfl _ _ 77 rfl w.heap.size 3 (.int .i64 0) 1 8 Try.underlying77 (by kernel_rfl) rfl (by decide) _ _ _ rfl hown _ _ rfl rfl rfl (by omega) (by decide) hb.size ?_))
      intro g' cap' w' hown' hg hor hlt'
      have hb' : Below w.heap.size w w' := hb.grown hg hb.size (fun j hj => (hown.lt j hj).1)
      rw [ints_snoc, show zs.length + 1 = (zs ++ [m % 32768]).length by simp] at hown'
      clear hown hb hg hor
      go_wp2
      go_roundw
      case rel => exact ⟨zs ++ [m % 32768], m / 32768, rfl, by omega, Or.inl (by omega), Q2.out, Q3.out, Q4.out, Q5.out, by simpa using hown', hb'⟩
      case measure => simp [intOf]; omega
    · have hz : max m 0 = 0 := by omega
      rw [hz] at hval
      simp at hval
      have hn' : Norm zs := by
        rcases hm0 with h | h
        · exact hnorm (by omega)
        · exact Or.inl h
      have fin : ∃ ao len cap, u3 = Value.slice ao len cap ∧ len ≤ cap ∧ NatS wr ao len (max n 0) := by
        rcases hown.2 with ⟨h1, h2⟩ | ⟨g, cap, cur, h1, h2, h3, h4, h5⟩
        · exact ⟨none, 0, 0, h1, by omega, zs, h2, hval.symm, hd, hn', Or.inl (List.length_eq_zero_iff.1 h2)⟩
        · subst h1
          exact ⟨some ⟨g, 0, none⟩, zs.length, cap, rfl, h4, zs, rfl, hval.symm, hd, hn', own_RowZ hown rfl⟩
      obtain ⟨ao, len, cap, hv, hlc, hns⟩ := fin
      have HV := Lib.hid hv
      have HNS := Lib.hid hns
      clear hv hns hown hval hz hpw hnorm hm0
      go_wp2
      go_ret
      exact ⟨ao, len, cap, by rw [← HV.out]; rfl, hlc, HNS.out, hb⟩

theorem RowZ.at {w : World} {ao : Option Addr} {zs : List Int} (h : RowZ w ao zs) (hl : 0 < zs.length) : ∃ g, ao = some ⟨g, 0, none⟩ ∧ g < w.heap.size ∧ ∀ j, j < zs.length → w.cell? ⟨g, j, none⟩ = some (.int .i64 (zs.getD j 0)) := by
  rcases h with h | h
  · subst h; simp at hl
  · exact h

/-- 'cut' strikes the zeros at the end. -/
theorem ref_cut (ao : Option Addr) (n cap : Nat) (zs : List Int) (hz : zs.length = n) (hc : n ≤ cap) (hm : cap ≤ maxLen) (w : World) (hr : RowZ w ao zs) (hd : Digs zs) :
    Calls Try.prog 93 #[.slice ao n cap] w fun e w' => ∃ len, e = .returned (.slice ao len cap) ∧ len ≤ cap ∧ NatS w ao len (nval zs) ∧ w = w' := by
  unfold maxLen at hm
  have hcells : ∀ g, ao = some ⟨g, 0, none⟩ → ∀ j, j < n → w.cell? ⟨g, j, none⟩ = some (.int .i64 (zs.getD j 0)) := by
    intro g hg j hj
    rcases hr with h | ⟨g', h1, h2, h3⟩
    · subst h; simp at hz; omega
    · rw [h1] at hg; simp at hg; subst hg; exact h3 j (by omega)
  have HR := Lib.hid hr
  have HZ := Lib.hid hz
  have HD := Lib.hid hd
  have hao : 0 < n → ∃ g, ao = some ⟨g, 0, none⟩ := fun h => by obtain ⟨g, h1, _⟩ := hr.at (by omega); exact ⟨g, h1⟩
  have HAO := Lib.hid hao
  have HC := Lib.hid hcells
  clear hr hz hd hao hcells
  go_enter Try.func93, Try.ntmps93
  go_wp2
  go_loop [0] (fun v => ∃ m : Nat, m ≤ n ∧ v = .slice ao m cap ∧ ∀ j, m ≤ j → zs.getD j 0 = 0) (fun v => match v with | .slice _ m _ => m | _ => 0)
  case atStart => exact ⟨n, Nat.le_refl _, rfl, fun j hj => by rw [List.getD_eq_getElem?_getD, List.getElem?_eq_none (by have := HZ.out; omega)]; rfl⟩
  case round =>
    obtain ⟨m, hmn, rfl, hzero⟩ := hrel
    have HZR := Lib.hid hzero
    clear hzero
    by_cases c : 0 < m
    · obtain ⟨g, rfl⟩ := HAO.out (by omega)
      have hcell := HC.out g rfl (m - 1) (by omega)
      obtain ⟨d, hd⟩ : ∃ d, d = zs.getD (m - 1) 0 := ⟨_, rfl⟩
      rw [← hd] at hcell
      have HDD := Lib.hid hd
      clear hd
      by_cases cz : d = 0
      · subst cz
        go_wp2
        go_round
        case rel => exact ⟨m - 1, by omega, rfl, fun j hj => by
          by_cases e : j = m - 1
          · rw [e]; exact HDD.out.symm
          · exact HZR.out j (by omega)⟩
        case measure => simp; omega
      · have hdz : (d == 0) = false := by simp [cz]
        have CZ := Lib.hid cz
        clear cz
        go_wp2
        go_ret
        refine ⟨m, rfl, by omega, ⟨zs.take m, ?_, nval_take_zeros zs m HZR.out, HD.out.take m, norm_take (by have := HZ.out; omega) (Or.inr (by rw [← HDD.out]; exact CZ.out)), HR.out.take m⟩, rfl⟩
        rw [List.length_take, HZ.out]; omega
    · go_wp2
      go_ret
      refine ⟨m, rfl, by omega, ⟨zs.take m, ?_, nval_take_zeros zs m HZR.out, HD.out.take m, norm_take (by have := HZ.out; omega) (Or.inl (by omega)), HR.out.take m⟩, rfl⟩
      rw [List.length_take, HZ.out]; omega

set_option linter.unusedVariables false in
/-- 'atMost' compares. -/
theorem ref_atMost (ao bo : Option Addr) (n ca m cb : Nat) (x y : Int) (w : World) (hx : NatS w ao n x) (hy : NatS w bo m y) (hca : n ≤ ca) (hcb : m ≤ cb) (hn : n ≤ 1000) (hm : m ≤ 1000) :
    Calls Try.prog 75 #[.slice ao n ca, .slice bo m cb] w fun e w' => e = .returned (.bool (decide (x ≤ y))) ∧ Below w.heap.size w w' := by
  obtain ⟨zs, hzl, hzv, hzd, hzn, hzr⟩ := hx
  obtain ⟨ys, hyl, hyv, hyd, hyn, hyr⟩ := hy
  by_cases c : n = m
  · subst c
    have hcells : ∀ j, j < n → ∃ g h, ao = some ⟨g, 0, none⟩ ∧ bo = some ⟨h, 0, none⟩ ∧ w.cell? ⟨g, j, none⟩ = some (.int .i64 (zs.getD j 0)) ∧ w.cell? ⟨h, j, none⟩ = some (.int .i64 (ys.getD j 0)) ∧ g < w.heap.size ∧ h < w.heap.size := by
      intro j hj
      obtain ⟨g, h1, h2, h3⟩ := hzr.at (by omega)
      obtain ⟨h, k1, k2, k3⟩ := hyr.at (by omega)
      exact ⟨g, h, h1, k1, h3 j (by omega), k3 j (by omega), h2, k2⟩
    have HC := Lib.hid hcells
    have HL := Lib.hid (And.intro hzl hyl)
    have HV := Lib.hid (And.intro hzv hyv)
    have HD := Lib.hid (And.intro hzd hyd)
    have hne : ((n : Int) != (n : Int)) = false := by simp
    clear hcells hzl hyl hzv hyv hzd hyd hzn hyn hzr hyr
    go_enter Try.func75, Try.ntmps75
    go_wp2
    go_loopw [5] (fun i wr => ∃ k : Nat, k ≤ n ∧ i = .int .i64 ((k : Int) - 1) ∧ (∀ j, k ≤ j → j < n → zs.getD j 0 = ys.getD j 0) ∧ Below w.heap.size w wr) (fun i _ => (intOf i + 1).toNat)
    case atStart => exact ⟨n, Nat.le_refl _, rfl, fun j h1 h2 => by omega, Below.refl _ _⟩
    case round =>
      obtain ⟨k, hk, rfl, heq, hb⟩ := hrel
      have HEQ := Lib.hid heq
      clear heq
      cases k with
      | zero =>
        have hxy : decide (x ≤ y) = true := by
          have := nval_eq_of_digits (by have := HL.out; omega) (fun j hj => HEQ.out j (by omega) (by have := HL.out; omega))
          rw [HV.out.1, HV.out.2] at this; simp; omega
        have HXY := Lib.hid hxy
        clear hxy
        go_wp2
        go_ret
        exact ⟨ret_b HXY.out.symm, hb⟩
      | succ k =>
        obtain ⟨g, h, rfl, rfl, c1, c2, b1, b2⟩ := HC.out k (by omega)
        obtain ⟨d, hd⟩ : ∃ d, d = zs.getD k 0 := ⟨_, rfl⟩
        obtain ⟨f, hf⟩ : ∃ f, f = ys.getD k 0 := ⟨_, rfl⟩
        rw [← hd] at c1
        rw [← hf] at c2
        have HDD := Lib.hid (And.intro hd hf)
        have d1 := (hb.cell b1).trans c1
        have d2 := (hb.cell b2).trans c2
        have hkk : ((k + 1 : Nat) : Int) - 1 = (k : Int) := by omega
        have i1 : (0 : Int) ≤ (k : Int) := by omega
        have i2 : (k : Int) < (n : Int) := by omega
        clear hd hf c1 c2
        rw [hkk]
        clear hkk
        by_cases e : d = f
        · subst e
          have hee : (d != d) = false := by simp
          go_wp2
          go_quiet (fail)
          go_wp2
          go_roundw
          case rel => exact ⟨k, by omega, rfl, fun j h1 h2 => by
            by_cases q : j = k
            · rw [q, ← HDD.out.1, ← HDD.out.2]
            · exact HEQ.out j (by omega) h2, below_drewN hb _⟩
          case measure => simp [intOf]
        · have hee : (d != f) = true := by simp [e]
          have hlt : d < f → x < y := fun q => by
            rw [← HV.out.1, ← HV.out.2]
            exact nval_lt_of_digit HD.out.1 HD.out.2 (by have := HL.out; omega) k (by have := HL.out; omega) (fun j h1 h2 => HEQ.out j (by omega) (by have := HL.out; omega)) (by rw [← HDD.out.1, ← HDD.out.2]; exact q)
          have hgt : f < d → y < x := fun q => by
            rw [← HV.out.1, ← HV.out.2]
            exact nval_lt_of_digit HD.out.2 HD.out.1 (by have := HL.out; omega) k (by have := HL.out; omega) (fun j h1 h2 => (HEQ.out j (by omega) (by have := HL.out; omega)).symm) (by rw [← HDD.out.1, ← HDD.out.2]; exact q)
          have hxy : decide (d < f) = decide (x ≤ y) := by
            by_cases q : d < f
            · have := hlt q; rw [decide_eq_true q, decide_eq_true (by omega)]
            · have := hgt (by omega); rw [decide_eq_false q, decide_eq_false (by omega)]
          have HXY := Lib.hid hxy
          clear hxy e hlt hgt
          go_wp2
          go_quiet (fail)
          go_wp2
          go_quiet (fail)
          go_wp2
          go_ret
          exact ⟨ret_b HXY.out, below_drewN (below_drewN hb _) _⟩
  · have hne : ((n : Int) != (m : Int)) = true := by simp; omega
    have hxy : decide ((n : Int) < (m : Int)) = decide (x ≤ y) := by
      by_cases q : n < m
      · have := nval_lt_of_length hzd hyd hyn (by omega)
        rw [hzv, hyv] at this
        simp; omega
      · have := nval_lt_of_length hyd hzd hzn (by omega)
        rw [hzv, hyv] at this
        simp; omega
    have HXY := Lib.hid hxy
    clear hxy hzl hyl hzv hyv hzd hyd hzn hyn hzr hyr c
    go_enter Try.func75, Try.ntmps75
    go_wp2
    go_ret
    exact ⟨ret_b (by rw [← HXY.out]; simp), Below.refl _ _⟩

/-- One step of the inner loop, on the numbers. -/
theorem times_step (out : List Int) (j : Nat) (x y carry V : Int) (hj : j < out.length) (ho : Digs out) (hx : 0 ≤ x ∧ x < 32768) (hy : 0 ≤ y ∧ y < 32768) (hc : 0 ≤ carry ∧ carry < 32768)
    (hV : nval out + carry * pw j = V) (m : Int) (hm : m = out.getD j 0 + x * y + carry) :
    0 ≤ m ∧ m < 1073741824 ∧ nval (out.set j (m % 32768)) + (m / 32768) * pw (j + 1) = V + x * y * pw j ∧ Digs (out.set j (m % 32768)) ∧ 0 ≤ m / 32768 ∧ m / 32768 < 32768 := by
  have h1 := ho.getD j
  have p1 : 0 ≤ x * y := Int.mul_nonneg hx.1 hy.1
  have p2 : x * y ≤ 32767 * 32767 := Int.mul_le_mul (by omega) (by omega) hy.1 (by omega)
  refine ⟨by omega, by omega, ?_, ho.set j (by omega), by omega, by omega⟩
  rw [nval_set out j _ hj, pw_succ]
  have e : m / 32768 * (32768 * pw j) = (32768 * (m / 32768)) * pw j := by rw [← Int.mul_assoc, Int.mul_comm (m / 32768)]
  rw [e, ← hV]
  have e2 : (m % 32768 - out.getD j 0) * pw j + 32768 * (m / 32768) * pw j = (m - out.getD j 0) * pw j := by rw [← Int.add_mul]; congr 1; omega
  have e3 : (m - out.getD j 0) * pw j = x * y * pw j + carry * pw j := by rw [← Int.add_mul]; congr 1; omega
  omega

theorem ints_set (zs : List Int) (j : Nat) (v : Int) : (ints zs).set j (.int .i64 v) = ints (zs.set j v) := by simp [ints, List.map_set]
theorem ints_replicate (n : Nat) : List.replicate n (Value.int .i64 0) = ints (List.replicate n 0) := by simp [ints]
theorem ints_get (zs : List Int) (j : Nat) (h : j < zs.length) : (ints zs)[j]? = some (.int .i64 (zs.getD j 0)) := by
  simp [ints, List.getD_eq_getElem?_getD, List.getElem?_eq_getElem h]

set_option maxHeartbeats 2000000 in
theorem ref_times (ao bo : Option Addr) (n ca m cb : Nat) (x y : Int) (w : World) (hx : NatS w ao n x) (hy : NatS w bo m y) (hca : n ≤ ca) (hcb : m ≤ cb) (hn : n ≤ 1000) (hm : m ≤ 1000) :
    Calls Try.prog 72 #[.slice ao n ca, .slice bo m cb] w fun e w' => ∃ co len cap, e = .returned (.slice co len cap) ∧ len ≤ cap ∧ NatS w' co len (x * y) ∧ Below w.heap.size w w' := by
  obtain ⟨zs, hzl, hzv, hzd, hzn, hzr⟩ := hx
  obtain ⟨ys, hyl, hyv, hyd, hyn, hyr⟩ := hy
  have hzc : ∀ j, j < n → ∃ g, ao = some ⟨g, 0, none⟩ ∧ w.cell? ⟨g, j, none⟩ = some (.int .i64 (zs.getD j 0)) ∧ g < w.heap.size := fun j hj => by
    obtain ⟨g, h1, h2, h3⟩ := hzr.at (by omega); exact ⟨g, h1, h3 j (by omega), h2⟩
  have hyc : ∀ j, j < m → ∃ g, bo = some ⟨g, 0, none⟩ ∧ w.cell? ⟨g, j, none⟩ = some (.int .i64 (ys.getD j 0)) ∧ g < w.heap.size := fun j hj => by
    obtain ⟨g, h1, h2, h3⟩ := hyr.at (by omega); exact ⟨g, h1, h3 j (by omega), h2⟩
  have ZC := Lib.hid hzc
  have YC := Lib.hid hyc
  have HL := Lib.hid (And.intro hzl hyl)
  have HV := Lib.hid (And.intro hzv hyv)
  have HD := Lib.hid (And.intro hzd hyd)
  clear hzc hyc hzl hyl hzv hyv hzd hyd hzn hyn hzr hyr
  obtain ⟨i0, hi, hz0, hz1, hz2⟩ := info_parts (show (Try.prog.info? 3).map (fun i => (i.zero, i.size, i.bytes)) = some (some (.int .i64 0), 1, 8) by kernel_rfl)
  go_enter Try.func72, Try.ntmps72
  go_wp2_with (at_make; go_must (refine wpList_make_full _ rfl _ _ 77 rfl w.heap.size 3 i0 (.int .i64 0) 1 Try.underlying77 hi hz0 hz1 _ _ _ _ (n + m) rfl rfl (by omega) (by omega) ?b1 ?b2 ?b3 ?_))
  case b1 => rw [hz2]; omega
  case b2 => unfold maxLen; omega
  case b3 => omega
  intro w1 hown hgr
  rw [toList_madeCells_one, ints_replicate] at hown
  have hb1 : Below w.heap.size w w1 := (Below.refl _ _).grown hgr (Nat.le_refl _) (fun k hk => by cases hk)
  have HL2 := HL.out
  clear hgr hi hz0 hz1 hz2
  go_wp2
  go_loopw [20] (fun i wr => ∃ (k : Nat) (out : List Int), k ≤ n ∧ i = .int .i64 k ∧ out.length = n + m ∧ Digs out ∧ nval out = nval (zs.take k) * y ∧ (∀ j, k + m ≤ j → out.getD j 0 = 0) ∧
      wr.ownsRow w.heap.size 3 1 (.slice (some ⟨w.heap.size, 0, none⟩) (n + m) (n + m)) (n + m) (ints out) ∧ Below w.heap.size w wr)
    (fun i _ => n - (intOf i).toNat)
  case atStart => exact ⟨0, List.replicate (n + m) 0, by omega, rfl, by simp, Digs.replicate _, by rw [nval_replicate]; simp [nval], fun j _ => by simp [List.getD_eq_getElem?_getD, List.getElem?_replicate]; split <;> rfl, hown, hb1⟩
  case round =>
    clear hown hb1
    obtain ⟨k, out, hk, rfl, hlen, hod, hval, hzero, hown, hb⟩ := hrel
    by_cases hlt : k < n
    · obtain ⟨g, rfl, c1, hg⟩ := ZC.out k hlt
      obtain ⟨d, hd⟩ : ∃ d, d = zs.getD k 0 := ⟨_, rfl⟩
      rw [← hd] at c1
      have hdd : 0 ≤ d ∧ d < 32768 := by rw [hd]; exact HD.out.1.getD k
      have htk := nval_take_succ zs k (by omega)
      rw [← hd] at htk
      have HTK := Lib.hid htk
      have HVAL := Lib.hid hval
      have HOD := Lib.hid hod
      have HZERO := Lib.hid hzero
      have HLEN := Lib.hid hlen
      have c2 := (hb.cell hg).trans c1
      have hdk : decide ((k : Int) < (n : Int)) = true := by simp; omega
      have hdk' : decide (k < n) = true := by simp; omega
      clear hd htk hval hod hzero hlen c1
      go_wp2
      obtain ⟨wo, rfl⟩ : ∃ wo : World, wo = wr := ⟨_, rfl⟩
      go_loopw [8, 27] (fun cv i wi => ∃ (q : Nat) (o : List Int) (c : Int), q ≤ m ∧ i = .int .i64 q ∧ cv = .int .i64 c ∧ 0 ≤ c ∧ c < 32768 ∧ o.length = n + m ∧ Digs o ∧ nval o + c * pw (k + q) = nval (zs.take k) * y + d * nval (ys.take q) * pw k ∧ (∀ j, k + m ≤ j → o.getD j 0 = 0) ∧
          wi.ownsRow w.heap.size 3 1 (.slice (some ⟨w.heap.size, 0, none⟩) (n + m) (n + m)) (n + m) (ints o) ∧ Below w.heap.size w wi)
        (fun _ i _ => m - (intOf i).toNat)
      case atStart => exact ⟨0, out, 0, by omega, rfl, rfl, by omega, by omega, HLEN.out, HOD.out, by rw [HVAL.out]; simp [nval], HZERO.out, hown, hb⟩
      case round =>
        clear hown hb HVAL HOD HZERO HLEN c2
        obtain ⟨q, o, c, hq, rfl, rfl, hc0, hc1, hlen, hod, hval, hzero, hown, hb⟩ := hrel
        by_cases hltq : q < m
        · obtain ⟨h, rfl, f1, hh⟩ := YC.out q hltq
          obtain ⟨f, hf⟩ : ∃ f, f = ys.getD q 0 := ⟨_, rfl⟩
          rw [← hf] at f1
          have hff : 0 ≤ f ∧ f < 32768 := by rw [hf]; exact HD.out.2.getD q
          have f2 := (hb.cell hh).trans f1
          have htq := nval_take_succ ys q (by omega)
          rw [← hf] at htq
          obtain ⟨e, he⟩ : ∃ e, e = o.getD (k + q) 0 := ⟨_, rfl⟩
          have e1 := (hown.cellAt (k + q) (by omega)).trans (ints_get o (k + q) (by omega))
          have e2 := hown.frozenAt (k + q)
          obtain ⟨t, ht⟩ : ∃ t, e + d * f + c = t := ⟨_, rfl⟩
          obtain ⟨s1, s2, s3, s4, s5, s6⟩ := times_step o (k + q) d f c _ (by omega) hod hdd hff ⟨hc0, hc1⟩ hval t (by rw [← ht, he])
          rw [← he] at e1
          have hst := (hown.stored (k + q) (.int .i64 (t % 32768)))
          rw [ints_set] at hst
          have ebd : 0 ≤ e ∧ e < 32768 := by rw [he]; exact hod.getD _
          have p1 : 0 ≤ d * f := Int.mul_nonneg hdd.1 hff.1
          have p2 : d * f ≤ 32767 * 32767 := Int.mul_le_mul (by omega) (by omega) hff.1 (by omega)
          have S3 := Lib.hid s3
          have S4 := Lib.hid s4
          have HTQ := Lib.hid htq
          have HST := Lib.hid hst
          have HZR := Lib.hid hzero
          have HLN := Lib.hid hlen
          clear hf htq he s3 s4 hst hzero hlen hval hod f1 hown
          go_wp2
          go_roundw
          case rel => exact ⟨q + 1, o.set (k + q) (t % 32768), t / 32768, by omega, by go_num, rfl, s5, s6, by rw [List.length_set]; exact HLN.out, S4.out, by rw [show k + (q + 1) = k + q + 1 by omega, S3.out, HTQ.out, pw_add, Int.mul_add, Int.add_mul]; simp only [Int.mul_assoc, Int.mul_left_comm, Int.mul_comm]; omega,
            fun j hj => by rw [List.getD_eq_getElem?_getD, List.getElem?_set_ne (by omega), ← List.getD_eq_getElem?_getD]; exact HZR.out j hj, HST.out.1, hb.setCell (by simp) _⟩
          case measure => simp [intOf]; omega
        · obtain rfl : q = m := by omega
          have e0 : o.getD (k + q) 0 = 0 := hzero _ (Nat.le_refl _)
          have e1 := (hown.cellAt (k + q) (by omega)).trans (ints_get o (k + q) (by omega))
          rw [e0] at e1
          have e2 := hown.frozenAt (k + q)
          have hst := (hown.stored (k + q) (.int .i64 c))
          rw [ints_set] at hst
          have hvs := nval_set o (k + q) c (by omega)
          rw [e0] at hvs
          have htm : ys.take q = ys := List.take_of_length_le (by omega)
          rw [htm] at hval
          have S4 := Lib.hid (hod.set (k + q) ⟨hc0, hc1⟩)
          have HVS := Lib.hid hvs
          have HVV := Lib.hid hval
          have HST := Lib.hid hst
          have HZR := Lib.hid hzero
          have HLN := Lib.hid hlen
          clear htm hst hzero hlen hval hod hown hvs e0
          go_wp2
          go_roundw
          case rel => exact ⟨k + 1, o.set (k + q) c, by omega, by go_num, by rw [List.length_set]; exact HLN.out, S4.out, by
              have h1 := HVS.out; have h2 := HVV.out; have h3 := HTK.out; have h4 := HV.out.2
              rw [h1, h3, Int.add_mul, Int.sub_zero, h2, h4, Int.mul_comm d y, Int.mul_assoc, Int.mul_comm d (pw k), Int.mul_comm (pw k * d) y],
            fun j hj => by rw [List.getD_eq_getElem?_getD, List.getElem?_set_ne (by omega), ← List.getD_eq_getElem?_getD]; exact HZR.out j (by omega), HST.out.1, hb.setCell (by simp) _⟩
          case measure => simp [intOf]; omega
    · obtain rfl : k = n := by omega
      have htm : zs.take k = zs := List.take_of_length_le (by omega)
      rw [htm, HV.out.1] at hval
      have HVV := Lib.hid hval
      have HRZ := Lib.hid (own_RowZ hown hlen.symm)
      have HOD := Lib.hid hod
      have HLN := Lib.hid hlen
      clear htm hval hod hlen hzero hown
      go_wp2_with (go_at_call 93; refine (ref_cut _ _ _ out HLN.out (Nat.le_refl _) (by unfold maxLen; omega) _ HRZ.out HOD.out).mono ?_; rintro e w2 ⟨len, rfl, hlc, hns, rfl⟩; rw [HVV.out] at hns)
      go_ret
      exact ⟨_, _, _, rfl, hlc, hns, hb⟩
end Go.Proofs.Ytehpfkmaikbjkaa
