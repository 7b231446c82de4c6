/- The reference's Clash. -/
import Derived.Test.YtembjokbhbdoeaaPlanConf
namespace Go.Proofs.Ytembjokbhbdoeaa
open Go.ChangeShapes Go.WideShapes Go.ChangeAt Go.RowKit Go.Mem
set_option linter.unusedVariables false
theorem conf_true {y z : SysV} {x : Int} (h : (x ∈ y.writes ∧ (x ∈ z.reads ∨ x ∈ z.writes)) ∨ (x ∈ y.reads ∧ x ∈ z.writes)) : confB y z = true := by
  unfold confB
  simp only [Bool.or_eq_true, meetB_iff]
  rcases h with ⟨h1, h2 | h2⟩ | ⟨h1, h2⟩
  · exact Or.inr (Or.inl ⟨x, h1, h2⟩)
  · exact Or.inl ⟨x, h1, h2⟩
  · exact Or.inr (Or.inr ⟨x, h1, h2⟩)
theorem conf_false {y z : SysV} (h1 : ∀ x ∈ y.writes, ¬ x ∈ z.reads ∧ ¬ x ∈ z.writes) (h2 : ∀ x ∈ y.reads, ¬ x ∈ z.writes) : confB y z = false := by
  rw [Bool.eq_false_iff]
  intro h
  unfold confB at h
  simp only [Bool.or_eq_true, meetB_iff] at h
  rcases h with ⟨x, a, b⟩ | ⟨x, a, b⟩ | ⟨x, a, b⟩
  · exact (h1 x a).2 b
  · exact (h1 x a).1 b
  · exact h2 x a b
theorem all_getD {l : List Int} {p : Int → Prop} (h : ∀ j, j < l.length → p (l.getD j 0)) : ∀ x ∈ l, p x := by
  intro x hx
  obtain ⟨i, hi, rfl⟩ := mem_getD hx
  exact h i hi
set_option maxHeartbeats 8000000 in
theorem ref_Clash (v u : Value) (y z : SysV) (w : World) (hv : SysIn w v y) (hu : SysIn w u z) : Calls Try.prog 12 #[v, u] w fun e w' => e = .returned (.bool (confB y z)) ∧ Below w.heap.size w w' := by
  obtain ⟨s0, a1, n1, c1, a2, n2, c2, a3, c3, a4, c4, a5, n5, c5, a6, n6, c6, rfl, r1, r2, r3, r4⟩ := hv
  obtain ⟨t0, b1, m1, d1, b2, m2, d2, b3, d3, b4, d4, b5, m5, d5, b6, m6, d6, rfl, q1, q2, q3, q4⟩ := hu
  obtain ⟨yr, hyr⟩ : ∃ yr, yr = y.reads.length := ⟨_, rfl⟩
  obtain ⟨yw, hyw⟩ : ∃ yw, yw = y.writes.length := ⟨_, rfl⟩
  obtain ⟨zr, hzr⟩ : ∃ zr, zr = z.reads.length := ⟨_, rfl⟩
  obtain ⟨zw, hzw⟩ : ∃ zw, zw = z.writes.length := ⟨_, rfl⟩
  have hml : maxLen = 9223372036854775807 := rfl
  rw [hml] at r3 r4 q3 q4
  rw [← hyr] at r3
  rw [← hyw] at r4
  rw [← hzr] at q3
  rw [← hzw] at q4
  rw [← hyr, ← hyw, ← hzr, ← hzw]
  obtain ⟨C, hC⟩ : ∃ C, C = confB y z := ⟨_, rfl⟩
  rw [← hC]
  have HC := Lib.hid hC
  have YR := Lib.hid hyr
  have YW := Lib.hid hyw
  have ZR := Lib.hid hzr
  have ZW := Lib.hid hzw
  have R1 := Lib.hid r1
  have R2 := Lib.hid r2
  have Q1 := Lib.hid q1
  have Q2 := Lib.hid q2
  clear hml r1 r2 q1 q2 hyr hyw hzr hzw hC
  obtain ⟨o1, ho1⟩ : ∃ o : Obj, o = .cells #[.string s0, .slice a1 n1 c1, .slice a2 n2 c2, .slice a3 yr c3, .slice a4 yw c4, .slice a5 n5 c5, .slice a6 n6 c6] 30 (0, 0) := ⟨_, rfl⟩
  obtain ⟨o2, ho2⟩ : ∃ o : Obj, o = .cells #[.string t0, .slice b1 m1 d1, .slice b2 m2 d2, .slice b3 zr d3, .slice b4 zw d4, .slice b5 m5 d5, .slice b6 m6 d6] 30 (0, 0) := ⟨_, rfl⟩
  have hr1 := row_first w o1 o2
  have hr2 := row_second w o1 o2
  have hb := ((Below.refl w.heap.size w).alloc (Nat.le_refl _) o1).alloc (by simp) o2
  rw [ho1, ho2] at hr1 hr2 hb
  have HR1 := Lib.hid hr1
  have HR2 := Lib.hid hr2
  have HB := Lib.hid hb
  clear ho1 ho2 hr1 hr2 hb o1 o2
  go_enter Try.func12, Try.ntmps12
  go_wp2_with fail
  go_loopg [18] yw (fun gk vi wx => ∃ i : Nat, i ≤ yw ∧ gk = yw - i ∧ vi = .int .i64 i ∧ (∀ j, j < i → ¬ y.writes.getD j 0 ∈ z.reads ∧ ¬ y.writes.getD j 0 ∈ z.writes) ∧
    wx.heap[w.heap.size]? = some (.cells #[.string s0, .slice a1 n1 c1, .slice a2 n2 c2, .slice a3 yr c3, .slice a4 yw c4, .slice a5 n5 c5, .slice a6 n6 c6] 30 (0, 0)) ∧
    wx.heap[w.heap.size + 1]? = some (.cells #[.string t0, .slice b1 m1 d1, .slice b2 m2 d2, .slice b3 zr d3, .slice b4 zw d4, .slice b5 m5 d5, .slice b6 m6 d6] 30 (0, 0)) ∧ Below w.heap.size w wx)
  case atStart => exact ⟨0, by omega, rfl, rfl, fun j h => by omega, HR1.out, HR2.out, HB.out⟩
  case round =>
    clear HR1 HR2 HB
    obtain ⟨i, g1, g2, rfl, hno, hr1, hr2, hb⟩ := hrel
    have G2 := Lib.hid g2
    have HNO := Lib.hid hno
    have e13 := cell_of_row _ _ 3 _ _ _ hr1
    have e23 := cell_of_row _ _ 3 _ _ _ hr2
    have e24 := cell_of_row _ _ 4 _ _ _ hr2
    have HR1 := Lib.hid hr1
    have HR2 := Lib.hid hr2
    clear g2 hno hr1 hr2
    by_cases hlt : i < yw
    · obtain ⟨ad, rfl, hx, hcx⟩ := R2.out (by rw [← YW.out]; omega)
      obtain ⟨x, hxx⟩ : ∃ x, x = y.writes.getD i 0 := ⟨_, rfl⟩
      have cx := (hb.cell (by rw [block_of_add]; exact hx)).trans (hcx i (by rw [← YW.out]; exact hlt))
      rw [← hxx] at cx
      have HXX := Lib.hid hxx
      have HMX := Lib.hid (show x ∈ y.writes by rw [hxx]; exact getD_mem (by rw [← YW.out]; exact hlt))
      clear hcx hxx e13
      go_wp2_with fail
      have hrow := heap_alloc_new wr (.cells #[.slice b3 zr d3, .slice b4 zw d4] 26)
      have hr1 := heap_keep HR1.out (.cells #[.slice b3 zr d3, .slice b4 zw d4] 26)
      have hr2 := heap_keep HR2.out (.cells #[.slice b3 zr d3, .slice b4 zw d4] 26)
      have hbn := hb.alloc hb.size (.cells #[.slice b3 zr d3, .slice b4 zw d4] 26)
      obtain ⟨wn, hwn⟩ : ∃ wn, wn = wr.alloc (.cells #[.slice b3 zr d3, .slice b4 zw d4] 26) := ⟨_, rfl⟩
      obtain ⟨G, hG⟩ : ∃ G, G = wr.heap.size := ⟨_, rfl⟩
      rw [← hwn] at hrow hr1 hr2 hbn ⊢
      rw [← hG] at hrow ⊢
      have HROW := Lib.hid hrow
      replace HR1 := Lib.hid hr1
      replace HR2 := Lib.hid hr2
      clear hrow hr1 hr2 hwn hG hb e23 e24 cx
      go_loopg [28] 2 (fun gk vi wx => ∃ k : Nat, k ≤ 2 ∧ gk = 2 - k ∧ vi = .int .i64 k ∧ (1 ≤ k → ¬ x ∈ z.reads) ∧ (2 ≤ k → ¬ x ∈ z.writes) ∧ wx = wn)
      case atStart => exact ⟨0, by omega, rfl, rfl, fun h => by omega, fun h => by omega, rfl⟩
      case round =>
        obtain ⟨k, f1, f2, rfl, k1, k2, rfl⟩ := hrel
        have F2 := Lib.hid f2
        have K1 := Lib.hid k1
        have K2 := Lib.hid k2
        clear f2 k1 k2
        by_cases hk : k < 2
        · obtain ⟨al, nl, cl, zs, hz, hcell, hia, hnl, h0, h1⟩ : ∃ al nl cl zs, wr.cell? ⟨G, k, none⟩ = some (.slice al nl cl) ∧ zs.length = nl ∧ IntsAt .i64 wr al zs ∧ nl ≤ 9223372036854775807 ∧ (k = 0 → zs = z.reads) ∧ (k = 1 → zs = z.writes) := by
            rcases (show k = 0 ∨ k = 1 by omega) with rfl | rfl
            · exact ⟨b3, zr, d3, z.reads, cell_of_row _ _ 0 _ _ _ HROW.out, ZR.out.symm, Q1.out.below hbn, q3, fun _ => rfl, fun h => by omega⟩
            · exact ⟨b4, zw, d4, z.writes, cell_of_row _ _ 1 _ _ _ HROW.out, ZW.out.symm, Q2.out.below hbn, q4, fun h => by omega, fun _ => rfl⟩
          have HZL := Lib.hid hcell
          have HIA := Lib.hid hia
          have H0 := Lib.hid h0
          have H1 := Lib.hid h1
          have lG := World.block_lt_of_cell? _ _ hz
          clear hcell hia h0 h1
          go_wp2_with fail
          go_loopg [34] nl (fun gk vi wx => ∃ j : Nat, j ≤ nl ∧ gk = nl - j ∧ vi = .int .i64 j ∧ (∀ q, q < j → ¬ zs.getD q 0 = x) ∧ wx = wr)
          case atStart => exact ⟨0, by omega, rfl, rfl, fun h => by omega, rfl⟩
          case round =>
            obtain ⟨j, f3, f4, rfl, hnj, rfl⟩ := hrel
            have F4 := Lib.hid f4
            have HNJ := Lib.hid hnj
            clear f4 hnj
            by_cases hj : j < nl
            · obtain ⟨ae, rfl, hxe, hce⟩ := HIA.out (by rw [HZL.out]; omega)
              obtain ⟨p, hp⟩ : ∃ p, p = zs.getD j 0 := ⟨_, rfl⟩
              have cp := hce j (by rw [HZL.out]; exact hj)
              rw [← hp] at cp
              have HP := Lib.hid hp
              clear hce hp
              by_cases exp : x = p
              · subst exp
                have hee : (x == x) = true := by simp
                have HCT := Lib.hid (show C = true by
                  rw [HC.out]
                  refine conf_true (x := x) (Or.inl ⟨HMX.out, ?_⟩)
                  have hmz : x ∈ zs := by rw [HP.out]; exact getD_mem (by rw [HZL.out]; exact hj)
                  rcases (show k = 0 ∨ k = 1 by omega) with h | h
                  · exact Or.inl (by rw [← H0.out h]; exact hmz)
                  · exact Or.inr (by rw [← H1.out h]; exact hmz))
                go_wp2
                go_ret
                exact ⟨by rw [HCT.out]; rfl, hbn⟩
              · have hee : (x == p) = false := by rw [beq_eq_false_iff_ne]; exact exp
                go_wp2
                go_roundg (nl - (j + 1))
                case measure => rw [F4.out]; omega
                case rel => exact ⟨j + 1, by omega, rfl, by go_num, fun q hq => by
                  by_cases e : q = j
                  · rw [e, ← HP.out]; exact fun h => exp h.symm
                  · exact HNJ.out q (by omega), rfl⟩
            · have hnx : ¬ x ∈ zs := fun h => by
                obtain ⟨q, hq, e⟩ := mem_getD h
                exact HNJ.out q (by rw [HZL.out] at hq; omega) e
              have HNX := Lib.hid hnx
              clear hnx
              go_wp2_with fail
              go_roundg (2 - (k + 1))
              case measure => rw [F2.out]; omega
              case rel => exact ⟨k + 1, by omega, rfl, by go_num, fun _ => by
                by_cases e : k = 0
                · rw [← H0.out e]; exact HNX.out
                · exact K1.out (by omega), fun h => by
                rw [← H1.out (by omega)]; exact HNX.out, rfl⟩
        · obtain rfl : k = 2 := by omega
          go_wp2_with fail
          go_roundg (yw - (i + 1))
          case measure => rw [G2.out]; omega
          case rel => exact ⟨i + 1, by omega, rfl, by go_num, fun j hj => by
            by_cases e : j = i
            · rw [e, ← HXX.out]; exact ⟨K1.out (by omega), K2.out (by omega)⟩
            · exact HNO.out j (by omega), HR1.out, HR2.out, hbn⟩
    · obtain rfl : i = yw := by omega
      have HNW := Lib.hid (all_getD (p := fun x => ¬ x ∈ z.reads ∧ ¬ x ∈ z.writes) fun j hj => HNO.out j (by rw [YW.out]; exact hj))
      clear HNO G2 hlt e23
      have e14 := cell_of_row _ _ 4 _ _ _ HR1.out
      go_wp2_with fail
      go_loopg [47] yr (fun gk vi wx => ∃ j : Nat, j ≤ yr ∧ gk = yr - j ∧ vi = .int .i64 j ∧ (∀ q, q < j → ¬ y.reads.getD q 0 ∈ z.writes) ∧ wx = wr)
      case atStart => exact ⟨0, by omega, rfl, rfl, fun h => by omega, rfl⟩
      case round =>
        obtain ⟨j, f1, f2, rfl, hnj, rfl⟩ := hrel
        have F2 := Lib.hid f2
        have HNJ := Lib.hid hnj
        clear f2 hnj
        by_cases hj : j < yr
        · obtain ⟨ad, rfl, hx, hcx⟩ := R1.out (by rw [← YR.out]; omega)
          obtain ⟨x, hxx⟩ : ∃ x, x = y.reads.getD j 0 := ⟨_, rfl⟩
          have cx := (hb.cell (by rw [block_of_add]; exact hx)).trans (hcx j (by rw [← YR.out]; exact hj))
          rw [← hxx] at cx
          have HXX := Lib.hid hxx
          have HMX := Lib.hid (show x ∈ y.reads by rw [hxx]; exact getD_mem (by rw [← YR.out]; exact hj))
          clear hcx hxx
          go_wp2_with fail
          obtain ⟨wn, hwn⟩ : ∃ wn, wn = wr := ⟨_, rfl⟩
          rw [← hwn]
          have HWN := Lib.hid hwn
          go_loopg [54] zw (fun gk vi wx => ∃ q : Nat, q ≤ zw ∧ gk = zw - q ∧ vi = .int .i64 q ∧ (∀ t, t < q → ¬ z.writes.getD t 0 = x) ∧ wx = wn)
          case atStart => exact ⟨0, by omega, rfl, rfl, fun h => by omega, rfl⟩
          case round =>
            clear hwn
            obtain ⟨q, f3, f4, rfl, hnq, rfl⟩ := hrel
            have F4 := Lib.hid f4
            have HNQ := Lib.hid hnq
            clear f4 hnq
            have hbn : Below w.heap.size w wr := by rw [HWN.out]; exact hb
            by_cases hq : q < zw
            · obtain ⟨ae, rfl, hxe, hce⟩ := Q2.out (by rw [← ZW.out]; omega)
              obtain ⟨p, hp⟩ : ∃ p, p = z.writes.getD q 0 := ⟨_, rfl⟩
              have cp := (hbn.cell (by rw [block_of_add]; exact hxe)).trans (hce q (by rw [← ZW.out]; exact hq))
              rw [← hp] at cp
              have HP := Lib.hid hp
              clear hce hp
              by_cases exp : x = p
              · subst exp
                have hee : (x == x) = true := by simp
                have HCT := Lib.hid (show C = true by
                  rw [HC.out]
                  exact conf_true (x := x) (Or.inr ⟨HMX.out, by rw [HP.out]; exact getD_mem (by rw [← ZW.out]; exact hq)⟩))
                go_wp2
                go_ret
                exact ⟨by rw [HCT.out]; rfl, hbn⟩
              · have hee : (x == p) = false := by rw [beq_eq_false_iff_ne]; exact exp
                go_wp2
                go_roundg (zw - (q + 1))
                case measure => rw [F4.out]; omega
                case rel => exact ⟨q + 1, by omega, rfl, by go_num, fun t ht => by
                  by_cases e : t = q
                  · rw [e, ← HP.out]; exact fun h => exp h.symm
                  · exact HNQ.out t (by omega), rfl⟩
            · have hnx : ¬ x ∈ z.writes := fun h => by
                obtain ⟨t, ht, e⟩ := mem_getD h
                exact HNQ.out t (by rw [← ZW.out] at ht; omega) e
              have HNX := Lib.hid hnx
              clear hnx
              go_wp2_with fail
              go_roundg (yr - (j + 1))
              case measure => rw [F2.out]; omega
              case rel => exact ⟨j + 1, by omega, rfl, by go_num, fun t ht => by
                by_cases e : t = j
                · rw [e, ← HXX.out]; exact HNX.out
                · exact HNJ.out t (by omega), HWN.out⟩
        · have HCF := Lib.hid (show C = false by
            rw [HC.out]
            exact conf_false HNW.out (all_getD fun q hq => HNJ.out q (by rw [← YR.out] at hq; omega)))
          go_wp2
          go_ret
          exact ⟨by rw [HCF.out]; rfl, hb⟩
end Go.Proofs.Ytembjokbhbdoeaa
