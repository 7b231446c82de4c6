/- plan.Right. -/
import Derived.Test.YtembjokbhbdoeaaPlanRiP
import Derived.Test.YtembjokbhbdoeaaPlanRe
namespace Go.Proofs.Ytembjokbhbdoeaa
open Go.ChangeShapes Go.WideShapes Go.ChangeAt Go.RowKit Go.Mem
set_option linter.unusedVariables false
theorem keepR {w w1 w2 : World} {G i j xb xo : Nat} {vi vj u1 u2 : Value} {yi yj : SysV} {zs : List Int} {t : TypeId} {s0 s1 s2 s3 s4 s5 s6 t0 t1 t2 t3 t4 t5 t6 : Value}
    (hb : Below w1.heap.size w1 w2) (h : (w1.cell? ⟨xb, xo + i * 7, none⟩ = some s0 ∧ w1.cell? ⟨xb, xo + i * 7 + 1, none⟩ = some s1 ∧ w1.cell? ⟨xb, xo + i * 7 + 2, none⟩ = some s2 ∧ w1.cell? ⟨xb, xo + i * 7 + 3, none⟩ = some s3 ∧ w1.cell? ⟨xb, xo + i * 7 + 4, none⟩ = some s4 ∧ w1.cell? ⟨xb, xo + i * 7 + 5, none⟩ = some s5 ∧ w1.cell? ⟨xb, xo + i * 7 + 6, none⟩ = some s6) ∧ (w1.cell? ⟨xb, xo + j * 7, none⟩ = some t0 ∧ w1.cell? ⟨xb, xo + j * 7 + 1, none⟩ = some t1 ∧ w1.cell? ⟨xb, xo + j * 7 + 2, none⟩ = some t2 ∧ w1.cell? ⟨xb, xo + j * 7 + 3, none⟩ = some t3 ∧ w1.cell? ⟨xb, xo + j * 7 + 4, none⟩ = some t4 ∧ w1.cell? ⟨xb, xo + j * 7 + 5, none⟩ = some t5 ∧ w1.cell? ⟨xb, xo + j * 7 + 6, none⟩ = some t6) ∧ (w1.cell? ⟨G, j, none⟩ = some u1 ∧ w1.cell? ⟨G, i, none⟩ = some u2) ∧ SysIn w1 vi yi ∧ SysIn w1 vj yj ∧ RowB w1 G t .i64 zs ∧ Below G w w1) :
    (w2.cell? ⟨xb, xo + i * 7, none⟩ = some s0 ∧ w2.cell? ⟨xb, xo + i * 7 + 1, none⟩ = some s1 ∧ w2.cell? ⟨xb, xo + i * 7 + 2, none⟩ = some s2 ∧ w2.cell? ⟨xb, xo + i * 7 + 3, none⟩ = some s3 ∧ w2.cell? ⟨xb, xo + i * 7 + 4, none⟩ = some s4 ∧ w2.cell? ⟨xb, xo + i * 7 + 5, none⟩ = some s5 ∧ w2.cell? ⟨xb, xo + i * 7 + 6, none⟩ = some s6) ∧ (w2.cell? ⟨xb, xo + j * 7, none⟩ = some t0 ∧ w2.cell? ⟨xb, xo + j * 7 + 1, none⟩ = some t1 ∧ w2.cell? ⟨xb, xo + j * 7 + 2, none⟩ = some t2 ∧ w2.cell? ⟨xb, xo + j * 7 + 3, none⟩ = some t3 ∧ w2.cell? ⟨xb, xo + j * 7 + 4, none⟩ = some t4 ∧ w2.cell? ⟨xb, xo + j * 7 + 5, none⟩ = some t5 ∧ w2.cell? ⟨xb, xo + j * 7 + 6, none⟩ = some t6) ∧ (w2.cell? ⟨G, j, none⟩ = some u1 ∧ w2.cell? ⟨G, i, none⟩ = some u2) ∧ SysIn w2 vi yi ∧ SysIn w2 vj yj ∧ RowB w2 G t .i64 zs ∧ Below G w w2 :=
  ⟨Cells7.below h.1 hb, Cells7.below h.2.1 hb, ⟨cell_abides h.2.2.1.1 hb, cell_abides h.2.2.1.2 hb⟩, h.2.2.2.1.below hb, h.2.2.2.2.1.below hb, h.2.2.2.2.2.1.below hb, h.2.2.2.2.2.2.trans (hb.mono (Nat.le_of_lt h.2.2.2.2.2.1.lt))⟩
theorem list20 {α : Type} {vs : List α} (h : vs.length = 20) : ∃ x0 x1 x2 x3 x4 x5 x6 x7 x8 x9 x10 x11 x12 x13 x14 x15 x16 x17 x18 x19, vs = [x0, x1, x2, x3, x4, x5, x6, x7, x8, x9, x10, x11, x12, x13, x14, x15, x16, x17, x18, x19] := by
  obtain ⟨x0, t0, rfl, h0⟩ := cons_of h
  obtain ⟨x1, t1, rfl, h1⟩ := cons_of h0
  obtain ⟨x2, t2, rfl, h2⟩ := cons_of h1
  obtain ⟨x3, t3, rfl, h3⟩ := cons_of h2
  obtain ⟨x4, t4, rfl, h4⟩ := cons_of h3
  obtain ⟨x5, t5, rfl, h5⟩ := cons_of h4
  obtain ⟨x6, t6, rfl, h6⟩ := cons_of h5
  obtain ⟨x7, t7, rfl, h7⟩ := cons_of h6
  obtain ⟨x8, t8, rfl, h8⟩ := cons_of h7
  obtain ⟨x9, t9, rfl, h9⟩ := cons_of h8
  obtain ⟨x10, t10, rfl, h10⟩ := cons_of h9
  obtain ⟨x11, t11, rfl, h11⟩ := cons_of h10
  obtain ⟨x12, t12, rfl, h12⟩ := cons_of h11
  obtain ⟨x13, t13, rfl, h13⟩ := cons_of h12
  obtain ⟨x14, t14, rfl, h14⟩ := cons_of h13
  obtain ⟨x15, t15, rfl, h15⟩ := cons_of h14
  obtain ⟨x16, t16, rfl, h16⟩ := cons_of h15
  obtain ⟨x17, t17, rfl, h17⟩ := cons_of h16
  obtain ⟨x18, t18, rfl, h18⟩ := cons_of h17
  obtain ⟨x19, t19, rfl, h19⟩ := cons_of h18
  exact ⟨x0, x1, x2, x3, x4, x5, x6, x7, x8, x9, x10, x11, x12, x13, x14, x15, x16, x17, x18, x19, by rw [List.eq_nil_of_length_eq_zero h19]⟩
def F_ri (xb xo n c i j : Nat) (s0 : ByteArray) (a1 : Option Addr) (n1 c1 : Nat) (a2 : Option Addr) (n2 c2 : Nat) (a3 : Option Addr) (n3 c3 : Nat) (a4 : Option Addr) (n4 c4 : Nat) (a5 : Option Addr) (n5 c5 : Nat) (a6 : Option Addr) (n6 c6 : Nat) (t0 : ByteArray) (b1 : Option Addr) (m1 d1 : Nat) (b2 : Option Addr) (m2 d2 : Nat) (b3 : Option Addr) (m3 d3 : Nat) (b4 : Option Addr) (m4 d4 : Nat) (b5 : Option Addr) (m5 d5 : Nat) (b6 : Option Addr) (m6 d6 : Nat) (jq : Nat) (v : Value) (w : World) : Prop :=
  match jq with
  | 0 => v = .slice (some ⟨xb, xo, none⟩) n c
  | 1 => v = .int .i64 j
  | 2 => v = .pointer (some ⟨xb, xo + j * 7, none⟩)
  | 3 => v = .agg #[.string t0, .slice b1 m1 d1, .slice b2 m2 d2, .slice b3 m3 d3, .slice b4 m4 d4, .slice b5 m5 d5, .slice b6 m6 d6]
  | 4 => v = .slice (some ⟨xb, xo, none⟩) n c
  | 5 => v = .int .i64 i
  | 6 => v = .pointer (some ⟨xb, xo + i * 7, none⟩)
  | 7 => v = .agg #[.string s0, .slice a1 n1 c1, .slice a2 n2 c2, .slice a3 n3 c3, .slice a4 n4 c4, .slice a5 n5 c5, .slice a6 n6 c6]
  | 8 => v = .bool false
  | 9 => v = .bool false
  | 10 => True
  | 11 => True
  | 12 => True
  | 13 => True
  | 14 => True
  | 15 => True
  | 16 => True
  | 17 => True
  | 18 => True
  | 19 => v = .bool false
  | _ => True
theorem F_ri_mono (xb xo n c i j : Nat) (s0 : ByteArray) (a1 : Option Addr) (n1 c1 : Nat) (a2 : Option Addr) (n2 c2 : Nat) (a3 : Option Addr) (n3 c3 : Nat) (a4 : Option Addr) (n4 c4 : Nat) (a5 : Option Addr) (n5 c5 : Nat) (a6 : Option Addr) (n6 c6 : Nat) (t0 : ByteArray) (b1 : Option Addr) (m1 d1 : Nat) (b2 : Option Addr) (m2 d2 : Nat) (b3 : Option Addr) (m3 d3 : Nat) (b4 : Option Addr) (m4 d4 : Nat) (b5 : Option Addr) (m5 d5 : Nat) (b6 : Option Addr) (m6 d6 : Nat) : Facts (F_ri xb xo n c i j s0 a1 n1 c1 a2 n2 c2 a3 n3 c3 a4 n4 c4 a5 n5 c5 a6 n6 c6 t0 b1 m1 d1 b2 m2 d2 b3 m3 d3 b4 m4 d4 b5 m5 d5 b6 m6 d6) := ⟨by
  intro jq v w w' h hb
  unfold F_ri at h ⊢
  split at h
  all_goals first
    | exact h
    | trivial⟩

/-- a Bool that tells whether S -/
def BoolPost (S : Prop) (e : Ending) : Prop := ∃ r : Bool, e = .returned (.bool r) ∧ (r = true ↔ S)
set_option maxHeartbeats 8000000 in
set_option maxRecDepth 20000 in
theorem plan_Right (a b : Option Addr) (c cb m nl : Nat) (l : List SysV) (ls : List (List Int)) (hm : l.length = m) (hnl : ls.length = nl) (h1 : m ≤ 1048576) (h2 : nl ≤ 1048576) (h3 : lens ls ≤ 1048576) (w : World) (ha : SlAt 7 SysAt w a l) (hb0 : SlAt 1 IntsIn w b ls) :
    Calls Try.prog 6 #[.slice a m c, .slice b nl cb] w fun e w' => BoolPost (RightS l m ls) e ∧ Below w.heap.size w w' := by
  have HM := Lib.hid hm
  have HNL := Lib.hid hnl
  have HA := Lib.hid ha
  have HLS := Lib.hid hb0
  obtain ⟨Z, hZ⟩ : ∃ Z, Z = fillRows m 0 ls (List.replicate m 0) := ⟨_, rfl⟩
  obtain ⟨T, hT⟩ : ∃ T, T = lens ls := ⟨_, rfl⟩
  rw [← hT] at h3
  have HR := Lib.hid (show RightS l m ls ↔ ∃ at_, Z = some at_ ∧ T = m ∧ ∀ i j, j < i → i < m → confB (sysN l j) (sysN l i) = true → at_.getD j 0 < at_.getD i 0 by rw [hZ, hT]; exact Iff.rfl)
  have HZ := Lib.hid hZ
  have HT := Lib.hid hT
  clear hm hnl ha hb0 hZ hT
  go_enter Try.func6, Try.ntmps6
  go_wp2_with (at_make; go_must (refine wpList_make_rowB rfl _ _ 26 rfl 3 .i64 8 Try.underlying26 (by kernel_rfl) _ _ _ _ m rfl rfl rfl rfl ?b1 ?b2 ?_); (case b1 => omega); (case b2 => unfold maxLen; omega))
  intro w1 hro hb1 hz1
  obtain ⟨G, hG⟩ : ∃ G, G = w.heap.size := ⟨_, rfl⟩
  rw [← hG] at hro hb1 ⊢
  have HRO := Lib.hid hro
  have HG := Lib.hid hG
  clear hro hz1 hG
  go_wp2_with fail
  go_loopg [6, 7, 8, 9, 10, 18] nl (fun gk v6 _ _ _ _ vi wx => ∃ (d n : Nat) (at_ : List Int), d ≤ nl ∧ gk = nl - d ∧ v6 = .int .i64 n ∧ vi = .int .i64 d ∧ at_.length = m ∧ fillRows m d (ls.drop d) at_ = Z ∧ n + lens (ls.drop d) = T ∧ RowB wx G 3 .i64 at_ ∧ Below G w wx)
  case atStart => exact ⟨0, 0, List.replicate m 0, Nat.zero_le _, rfl, rfl, rfl, by simp, HZ.out.symm, by rw [HT.out]; simp, HRO.out, hb1⟩
  case round =>
    clear HRO hb1
    obtain ⟨d, n, at_, g1, g2, rfl, rfl, hal, hfi, hn, hro, hb⟩ := hrel
    have G2 := Lib.hid g2
    have HAL := Lib.hid hal
    have HFI := Lib.hid hfi
    have HN := Lib.hid hn
    have HRO := Lib.hid hro
    clear g2 hal hfi hn hro
    by_cases hlt : d < nl
    · obtain ⟨x, rfl, hx, hcx⟩ := HLS.out (by rw [HNL.out]; omega)
      obtain ⟨ax, cx, e0, hia⟩ := hcx d (by rw [HNL.out]; exact hlt)
      rw [Nat.mul_one] at e0
      have hdr : ls.drop d = ls[d]'(by rw [HNL.out]; exact hlt) :: ls.drop (d + 1) := List.drop_eq_getElem_cons (by rw [HNL.out]; exact hlt)
      obtain ⟨row, hrow⟩ : ∃ row, row = ls[d]'(by rw [HNL.out]; exact hlt) := ⟨_, rfl⟩
      rw [← hrow] at hdr e0 hia
      have hfi := HFI.out
      have hn := HN.out
      rw [hdr, fillRows_cons] at hfi
      rw [hdr, lens_cons] at hn
      obtain ⟨nr, hnr⟩ : ∃ nr, nr = row.length := ⟨_, rfl⟩
      rw [← hnr] at e0 hn
      have e1 := cell_abides e0 (show Below w.heap.size w wr by rw [← HG.out]; exact hb)
      obtain ⟨T2, hT2⟩ : ∃ T2, T2 = lens (ls.drop (d + 1)) := ⟨_, rfl⟩
      rw [← hT2] at hn
      have HFI2 := Lib.hid hfi
      have HNR := Lib.hid hnr
      have HT2 := Lib.hid hT2
      have HIA := Lib.hid hia
      clear e0 hcx hdr hfi hrow hnr hT2 hia HFI HN
      go_wp2_with fail
      have HFI3 := Lib.hid (show (fillRow m d (prevI row 0) (row.drop 0) at_).bind (fun a => fillRows m (d + 1) (ls.drop (d + 1)) a) = Z from HFI2.out)
      clear HFI2 e1
      have hnrb : nr ≤ 1048576 := by omega
      go_loopg [6, 9, 10, 25] nr (fun gk v6 _ _ vi wx => ∃ (i n : Nat) (at_ : List Int), i ≤ nr ∧ gk = nr - i ∧ v6 = .int .i64 n ∧ vi = .int .i64 i ∧ at_.length = m ∧ (fillRow m d (prevI row i) (row.drop i) at_).bind (fun a => fillRows m (d + 1) (ls.drop (d + 1)) a) = Z ∧ n + (nr - i) + T2 = T ∧ RowB wx G 3 .i64 at_ ∧ Below G w wx)
      case atStart => exact ⟨0, n, at_, Nat.zero_le _, rfl, rfl, rfl, HAL.out, HFI3.out, by omega, HRO.out, hb⟩
      case round =>
        clear HFI3 HRO HAL hb hn
        obtain ⟨i, n, at_, f1, f2, rfl, rfl, hal, hfi, hn, hro, hb⟩ := hrel
        have F2 := Lib.hid f2
        have HAL := Lib.hid hal
        have HFI := Lib.hid hfi
        have HRO := Lib.hid hro
        clear f2 hal hfi hro
        by_cases hi : i < nr
        · obtain ⟨ay, hay, hxy, hcy⟩ := HIA.out (by rw [← HNR.out]; omega)
          subst hay
          have c0 := hcy 0 (by rw [← HNR.out]; omega)
          obtain ⟨yb, yo, sp⟩ := ay
          have hsp : sp = none := by simpa [Addr.add] using World.cell?_spot c0
          subst hsp
          clear c0
          have hbw : Below w.heap.size w wr := by rw [← HG.out]; exact hb
          obtain ⟨k, hk⟩ : ∃ k, k = row.getD i 0 := ⟨_, rfl⟩
          have ck := (hbw.cell (by rw [block_of_add]; exact hxy)).trans (hcy i (by rw [← HNR.out]; exact hi))
          rw [← hk, Addr.add_lit] at ck
          have hfc := HFI.out
          rw [prev_at row i (by rw [← HNR.out]; exact hi), ← hk, fillRow_cons] at hfc
          have HFC := Lib.hid hfc
          have HNO := fun (h : k < 0 ∨ (m : Int) ≤ k ∨ 0 < at_.getD k.toNat 0 ∨ k ≤ prevI row i) => Lib.hid (show ¬ RightS l m ls by
            intro hr
            obtain ⟨a2, hz, _⟩ := HR.out.1 hr
            have := HFC.out
            rw [if_pos h, hz] at this
            cases this)
          clear hfc HFI
          by_cases c1 : k < 0
          · replace HNO := HNO (Or.inl c1)
            clear hcy hk HFC
            go_wp2
            go_ret
            exact ⟨⟨false, rfl, ⟨fun h => (by cases h), fun h => absurd h HNO.out⟩⟩, hbw⟩
          · by_cases c2 : (m : Int) ≤ k
            · replace HNO := HNO (Or.inr (Or.inl c2))
              clear hcy hk HFC
              go_wp2
              go_ret
              exact ⟨⟨false, rfl, ⟨fun h => (by cases h), fun h => absurd h HNO.out⟩⟩, hbw⟩
            · obtain ⟨kn, rfl⟩ : ∃ kn : Nat, k = kn := ⟨k.toNat, by omega⟩
              have hkm : kn < m := by omega
              have e1 := HRO.out.cell kn (by rw [HAL.out]; exact hkm)
              have e2 := HRO.out.frozen kn
              obtain ⟨z, hz⟩ : ∃ z, z = at_.getD kn 0 := ⟨_, rfl⟩
              rw [← hz] at e1
              by_cases c3 : 0 < z
              · replace HNO := HNO (Or.inr (Or.inr (Or.inl (by rw [Int.toNat_natCast, ← hz]; exact c3))))
                clear hcy hk HFC hz
                go_wp2
                go_ret
                exact ⟨⟨false, rfl, ⟨fun h => (by cases h), fun h => absurd h HNO.out⟩⟩, hbw⟩
              · rcases Nat.eq_zero_or_pos i with rfl | hip
                · have HNX := Lib.hid (show (fillRow m d (prevI row (0 + 1)) (row.drop (0 + 1)) (at_.set kn ((d : Int) + 1))).bind (fun a => fillRows m (d + 1) (ls.drop (d + 1)) a) = Z by
                    have := HFC.out
                    rw [if_neg (by
                      rintro (h | h | h | h)
                      · exact c1 h
                      · exact c2 h
                      · rw [Int.toNat_natCast, ← hz] at h; exact c3 h
                      · unfold prevI at h; simp at h; omega), Int.toNat_natCast] at this
                    rw [prevI_succ, ← hk]
                    exact this)
                  rw [Nat.add_zero] at ck
                  clear hcy HNO HFC hz hk
                  go_wp2
                  go_roundg (nr - 1)
                  case measure => rw [F2.out]; omega
                  case rel => exact ⟨1, n + 1, at_.set kn ((d : Int) + 1), by omega, rfl, by go_num, rfl, by rw [List.length_set]; exact HAL.out, HNX.out, by omega, HRO.out.set kn _, hb.setCell (Nat.le_refl _) _⟩
                · obtain ⟨I, hI⟩ : ∃ I, i = I + 1 := ⟨i - 1, by omega⟩
                  obtain ⟨p, hp⟩ : ∃ p, p = row.getD I 0 := ⟨_, rfl⟩
                  have cp := (hbw.cell (by rw [block_of_add]; exact hxy)).trans (hcy I (by rw [← HNR.out]; omega))
                  rw [← hp, Addr.add_lit] at cp
                  have li : i ≤ 1048576 := by omega
                  have t1 : ((i : Int) - 1).toNat = I := by omega
                  have w1 : IntKind.i64.wrap ((i : Int) - 1) = (i : Int) - 1 := by rw [IntKind.wrap_i64]; omega
                  have i0 : (0 : Int) ≤ (i : Int) - 1 := by omega
                  have i1 : (i : Int) - 1 < (nr : Int) := by omega
                  have i3 : (1 : Int) ≤ (i : Int) := by omega
                  have i4 : (i : Int) ≤ (nr : Int) := by omega
                  have i5 : 1 ≤ i := by omega
                  have i6 : i ≤ nr := by omega
                  have hpi : prevI row i = p := by rw [hI, prevI_succ, ← hp]
                  have HII := Lib.hid hI
                  by_cases c4 : (kn : Int) ≤ p
                  · replace HNO := HNO (Or.inr (Or.inr (Or.inr (by rw [hpi]; exact c4))))
                    clear hcy hk HFC hz hp hpi hI
                    go_wp2
                    go_ret
                    exact ⟨⟨false, rfl, ⟨fun h => (by cases h), fun h => absurd h HNO.out⟩⟩, hbw⟩
                  · have HNX := Lib.hid (show (fillRow m d (prevI row (i + 1)) (row.drop (i + 1)) (at_.set kn ((d : Int) + 1))).bind (fun a => fillRows m (d + 1) (ls.drop (d + 1)) a) = Z by
                      have := HFC.out
                      rw [if_neg (by
                        rintro (h | h | h | h)
                        · exact c1 h
                        · exact c2 h
                        · rw [Int.toNat_natCast, ← hz] at h; exact c3 h
                        · rw [hpi] at h; exact c4 h), Int.toNat_natCast] at this
                      rw [prevI_succ, ← hk]
                      exact this)
                    clear hcy HNO HFC hz hk hp hpi hI
                    go_wp2
                    go_roundg (nr - (i + 1))
                    case measure => rw [F2.out]; omega
                    case rel => exact ⟨i + 1, n + 1, at_.set kn ((d : Int) + 1), by omega, rfl, by go_num, by go_num, by rw [List.length_set]; exact HAL.out, HNX.out, by omega, HRO.out.set kn _, hb.setCell (Nat.le_refl _) _⟩
        · have hii : i = nr := by omega
          have HNX := Lib.hid (show fillRows m (d + 1) (ls.drop (d + 1)) at_ = Z by
            have := HFI.out
            rw [hii, HNR.out, List.drop_length, fillRow_nil] at this
            exact this)
          have hn2 : n + T2 = T := by omega
          clear HFI hn
          go_wp2_with fail
          go_roundg (nl - (d + 1))
          case measure => rw [G2.out]; omega
          case rel => exact ⟨d + 1, n, at_, hlt, rfl, rfl, by go_num, HAL.out, HNX.out, by rw [← HT2.out]; exact hn2, HRO.out, hb⟩
    · have hdd : d = nl := by omega
      have hzz : Z = some at_ := by
        have := HFI.out
        rw [hdd, ← HNL.out, List.drop_length, fillRows_nil] at this
        exact this.symm
      have hnt : n = T := by
        have := HN.out
        rw [hdd, ← HNL.out, List.drop_length] at this
        exact this
      have HR2 := Lib.hid (show RightS l m ls ↔ n = m ∧ ∀ i j, j < i → i < m → confB (sysN l j) (sysN l i) = true → at_.getD j 0 < at_.getD i 0 by
        rw [HR.out, hzz, hnt]
        constructor
        · rintro ⟨a2, e, h⟩
          injection e with e
          subst e
          exact h
        · intro h
          exact ⟨at_, rfl, h⟩)
      have hnT : n ≤ 1048576 := by omega
      clear hdd hzz hnt HFI HN HZ HR HT
      by_cases hnm : n = m
      · subst hnm
        have t0 : ((n : Int) == (n : Int)) = true := by simp
        go_wp2_with fail
        go_loopg [11, 12, 73] n (fun gk _ _ vi wx => ∃ i : Nat, i ≤ n ∧ gk = n - i ∧ vi = .int .i64 i ∧ (∀ p q, q < p → p < i → confB (sysN l q) (sysN l p) = true → at_.getD q 0 < at_.getD p 0) ∧ RowB wx G 3 .i64 at_ ∧ Below G w wx)
        case atStart => exact ⟨0, Nat.zero_le _, rfl, rfl, fun p q h1 h2 => by omega, HRO.out, hb⟩
        case round =>
          clear HRO hb
          obtain ⟨i, f1, f2, rfl, hok, hro, hb⟩ := hrel
          have F2 := Lib.hid f2
          have HOK := Lib.hid hok
          have HRO := Lib.hid hro
          clear f2 hok hro
          by_cases hi : i < n
          · go_wp2_with fail
            go_loopg [12, 77] i (fun gk _ vi wx => ∃ j : Nat, j ≤ i ∧ gk = i - j ∧ vi = .int .i64 j ∧ (∀ q, q < j → confB (sysN l q) (sysN l i) = true → at_.getD q 0 < at_.getD i 0) ∧ RowB wx G 3 .i64 at_ ∧ Below G w wx)
            case atStart => exact ⟨0, Nat.zero_le _, rfl, rfl, fun q h => by omega, HRO.out, hb⟩
            case round =>
              clear HRO hb
              obtain ⟨j, k1, k2, rfl, hoj, hro, hb⟩ := hrel
              have K2 := Lib.hid k2
              have HOJ := Lib.hid hoj
              have HRO := Lib.hid hro
              clear k2 hoj hro
              by_cases hj : j < i
              · have hbs := hb
                rw [HG.out] at hbs
                have hal := HA.out.below SysAt.abides hbs
                obtain ⟨x, rfl, hx, _⟩ := HA.out (by rw [HM.out]; omega)
                obtain ⟨xb, xo, rfl, s0, a1, n1, c1, a2, n2, c2, a3, n3, c3, a4, n4, c4, a5, n5, c5, a6, n6, c6, ⟨p0, p1, p2, p3, p4, p5, p6⟩, hyi⟩ := sys_cells hal i (by rw [HM.out]; exact hi)
                obtain ⟨xb2, xo2, hxx, t0, b1, m1, d1, b2, m2, d2, b3, m3, d3, b4, m4, d4, b5, m5, d5, b6, m6, d6, ⟨q0, q1, q2, q3, q4, q5, q6⟩, hyj⟩ := sys_cells hal j (by rw [HM.out]; omega)
                injection hxx with hx1 hx2
                subst hx1 hx2
                have i1 : (0 : Int) ≤ (j : Int) := by omega
                have i2 : (j : Int) < (n : Int) := by omega
                have i3 : (0 : Int) ≤ (i : Int) := by omega
                have i4 : (i : Int) < (n : Int) := by omega
                have ej := HRO.out.cell j (by rw [HAL.out]; omega)
                have ei := HRO.out.cell i (by rw [HAL.out]; exact hi)
                obtain ⟨zi, hzi⟩ : ∃ z, z = at_.getD i 0 := ⟨_, rfl⟩
                obtain ⟨zj, hzj⟩ : ∃ z, z = at_.getD j 0 := ⟨_, rfl⟩
                rw [← hzi] at ei
                rw [← hzj] at ej
                have HZI := Lib.hid (And.intro hzi hzj)
                have CC := Lib.hid (fun w' => plan_Conflict (.agg #[.string t0, .slice b1 m1 d1, .slice b2 m2 d2, .slice b3 m3 d3, .slice b4 m4 d4, .slice b5 m5 d5, .slice b6 m6 d6]) (.agg #[.string s0, .slice a1 n1 c1, .slice a2 n2 c2, .slice a3 n3 c3, .slice a4 n4 c4, .slice a5 n5 c5, .slice a6 n6 c6]) (sysN l j) (sysN l i) w')
                obtain ⟨cf, hcf⟩ : ∃ cf, cf = confB (sysN l j) (sysN l i) := ⟨_, rfl⟩
                rw [← hcf] at CC
                have HCF := Lib.hid hcf
                have hS : (fun w' => (w'.cell? ⟨xb, xo + i * 7, none⟩ = some (.string s0) ∧ w'.cell? ⟨xb, xo + i * 7 + 1, none⟩ = some (.slice a1 n1 c1) ∧ w'.cell? ⟨xb, xo + i * 7 + 2, none⟩ = some (.slice a2 n2 c2) ∧ w'.cell? ⟨xb, xo + i * 7 + 3, none⟩ = some (.slice a3 n3 c3) ∧ w'.cell? ⟨xb, xo + i * 7 + 4, none⟩ = some (.slice a4 n4 c4) ∧ w'.cell? ⟨xb, xo + i * 7 + 5, none⟩ = some (.slice a5 n5 c5) ∧ w'.cell? ⟨xb, xo + i * 7 + 6, none⟩ = some (.slice a6 n6 c6)) ∧ (w'.cell? ⟨xb, xo + j * 7, none⟩ = some (.string t0) ∧ w'.cell? ⟨xb, xo + j * 7 + 1, none⟩ = some (.slice b1 m1 d1) ∧ w'.cell? ⟨xb, xo + j * 7 + 2, none⟩ = some (.slice b2 m2 d2) ∧ w'.cell? ⟨xb, xo + j * 7 + 3, none⟩ = some (.slice b3 m3 d3) ∧ w'.cell? ⟨xb, xo + j * 7 + 4, none⟩ = some (.slice b4 m4 d4) ∧ w'.cell? ⟨xb, xo + j * 7 + 5, none⟩ = some (.slice b5 m5 d5) ∧ w'.cell? ⟨xb, xo + j * 7 + 6, none⟩ = some (.slice b6 m6 d6)) ∧ (w'.cell? ⟨G, j, none⟩ = some (.int .i64 zj) ∧ w'.cell? ⟨G, i, none⟩ = some (.int .i64 zi)) ∧ SysIn w' (.agg #[.string s0, .slice a1 n1 c1, .slice a2 n2 c2, .slice a3 n3 c3, .slice a4 n4 c4, .slice a5 n5 c5, .slice a6 n6 c6]) (sysN l i) ∧ SysIn w' (.agg #[.string t0, .slice b1 m1 d1, .slice b2 m2 d2, .slice b3 m3 d3, .slice b4 m4 d4, .slice b5 m5 d5, .slice b6 m6 d6]) (sysN l j) ∧ RowB w' G 3 .i64 at_ ∧ Below G w w') wr.drew := ⟨⟨p0, p1, p2, p3, p4, p5, p6⟩, ⟨q0, q1, q2, q3, q4, q5, q6⟩, ⟨ej, ei⟩, hyi, hyj, HRO.out.drew, hb.drew⟩
                have HS := Lib.hid hS
                have KEEP := Lib.hid (show ∀ w7 w8, (fun w' => (w'.cell? ⟨xb, xo + i * 7, none⟩ = some (.string s0) ∧ w'.cell? ⟨xb, xo + i * 7 + 1, none⟩ = some (.slice a1 n1 c1) ∧ w'.cell? ⟨xb, xo + i * 7 + 2, none⟩ = some (.slice a2 n2 c2) ∧ w'.cell? ⟨xb, xo + i * 7 + 3, none⟩ = some (.slice a3 n3 c3) ∧ w'.cell? ⟨xb, xo + i * 7 + 4, none⟩ = some (.slice a4 n4 c4) ∧ w'.cell? ⟨xb, xo + i * 7 + 5, none⟩ = some (.slice a5 n5 c5) ∧ w'.cell? ⟨xb, xo + i * 7 + 6, none⟩ = some (.slice a6 n6 c6)) ∧ (w'.cell? ⟨xb, xo + j * 7, none⟩ = some (.string t0) ∧ w'.cell? ⟨xb, xo + j * 7 + 1, none⟩ = some (.slice b1 m1 d1) ∧ w'.cell? ⟨xb, xo + j * 7 + 2, none⟩ = some (.slice b2 m2 d2) ∧ w'.cell? ⟨xb, xo + j * 7 + 3, none⟩ = some (.slice b3 m3 d3) ∧ w'.cell? ⟨xb, xo + j * 7 + 4, none⟩ = some (.slice b4 m4 d4) ∧ w'.cell? ⟨xb, xo + j * 7 + 5, none⟩ = some (.slice b5 m5 d5) ∧ w'.cell? ⟨xb, xo + j * 7 + 6, none⟩ = some (.slice b6 m6 d6)) ∧ (w'.cell? ⟨G, j, none⟩ = some (.int .i64 zj) ∧ w'.cell? ⟨G, i, none⟩ = some (.int .i64 zi)) ∧ SysIn w' (.agg #[.string s0, .slice a1 n1 c1, .slice a2 n2 c2, .slice a3 n3 c3, .slice a4 n4 c4, .slice a5 n5 c5, .slice a6 n6 c6]) (sysN l i) ∧ SysIn w' (.agg #[.string t0, .slice b1 m1 d1, .slice b2 m2 d2, .slice b3 m3 d3, .slice b4 m4 d4, .slice b5 m5 d5, .slice b6 m6 d6]) (sysN l j) ∧ RowB w' G 3 .i64 at_ ∧ Below G w w') w7 → Below w7.heap.size w7 w8 → (fun w' => (w'.cell? ⟨xb, xo + i * 7, none⟩ = some (.string s0) ∧ w'.cell? ⟨xb, xo + i * 7 + 1, none⟩ = some (.slice a1 n1 c1) ∧ w'.cell? ⟨xb, xo + i * 7 + 2, none⟩ = some (.slice a2 n2 c2) ∧ w'.cell? ⟨xb, xo + i * 7 + 3, none⟩ = some (.slice a3 n3 c3) ∧ w'.cell? ⟨xb, xo + i * 7 + 4, none⟩ = some (.slice a4 n4 c4) ∧ w'.cell? ⟨xb, xo + i * 7 + 5, none⟩ = some (.slice a5 n5 c5) ∧ w'.cell? ⟨xb, xo + i * 7 + 6, none⟩ = some (.slice a6 n6 c6)) ∧ (w'.cell? ⟨xb, xo + j * 7, none⟩ = some (.string t0) ∧ w'.cell? ⟨xb, xo + j * 7 + 1, none⟩ = some (.slice b1 m1 d1) ∧ w'.cell? ⟨xb, xo + j * 7 + 2, none⟩ = some (.slice b2 m2 d2) ∧ w'.cell? ⟨xb, xo + j * 7 + 3, none⟩ = some (.slice b3 m3 d3) ∧ w'.cell? ⟨xb, xo + j * 7 + 4, none⟩ = some (.slice b4 m4 d4) ∧ w'.cell? ⟨xb, xo + j * 7 + 5, none⟩ = some (.slice b5 m5 d5) ∧ w'.cell? ⟨xb, xo + j * 7 + 6, none⟩ = some (.slice b6 m6 d6)) ∧ (w'.cell? ⟨G, j, none⟩ = some (.int .i64 zj) ∧ w'.cell? ⟨G, i, none⟩ = some (.int .i64 zi)) ∧ SysIn w' (.agg #[.string s0, .slice a1 n1 c1, .slice a2 n2 c2, .slice a3 n3 c3, .slice a4 n4 c4, .slice a5 n5 c5, .slice a6 n6 c6]) (sysN l i) ∧ SysIn w' (.agg #[.string t0, .slice b1 m1 d1, .slice b2 m2 d2, .slice b3 m3 d3, .slice b4 m4 d4, .slice b5 m5 d5, .slice b6 m6 d6]) (sysN l j) ∧ RowB w' G 3 .i64 at_ ∧ Below G w w') w8 from fun w7 w8 h hb => keepR hb h)
                clear hal hyi hyj hx hcf hbs hS p0 p1 p2 p3 p4 p5 p6 q0 q1 q2 q3 q4 q5 q6 hb ej ei hzi hzj
                cases cf with
                | true =>
                  go_wp2_with fail
                  go_region_held3 (fun w' => (w'.cell? ⟨xb, xo + i * 7, none⟩ = some (.string s0) ∧ w'.cell? ⟨xb, xo + i * 7 + 1, none⟩ = some (.slice a1 n1 c1) ∧ w'.cell? ⟨xb, xo + i * 7 + 2, none⟩ = some (.slice a2 n2 c2) ∧ w'.cell? ⟨xb, xo + i * 7 + 3, none⟩ = some (.slice a3 n3 c3) ∧ w'.cell? ⟨xb, xo + i * 7 + 4, none⟩ = some (.slice a4 n4 c4) ∧ w'.cell? ⟨xb, xo + i * 7 + 5, none⟩ = some (.slice a5 n5 c5) ∧ w'.cell? ⟨xb, xo + i * 7 + 6, none⟩ = some (.slice a6 n6 c6)) ∧ (w'.cell? ⟨xb, xo + j * 7, none⟩ = some (.string t0) ∧ w'.cell? ⟨xb, xo + j * 7 + 1, none⟩ = some (.slice b1 m1 d1) ∧ w'.cell? ⟨xb, xo + j * 7 + 2, none⟩ = some (.slice b2 m2 d2) ∧ w'.cell? ⟨xb, xo + j * 7 + 3, none⟩ = some (.slice b3 m3 d3) ∧ w'.cell? ⟨xb, xo + j * 7 + 4, none⟩ = some (.slice b4 m4 d4) ∧ w'.cell? ⟨xb, xo + j * 7 + 5, none⟩ = some (.slice b5 m5 d5) ∧ w'.cell? ⟨xb, xo + j * 7 + 6, none⟩ = some (.slice b6 m6 d6)) ∧ (w'.cell? ⟨G, j, none⟩ = some (.int .i64 zj) ∧ w'.cell? ⟨G, i, none⟩ = some (.int .i64 zi)) ∧ SysIn w' (.agg #[.string s0, .slice a1 n1 c1, .slice a2 n2 c2, .slice a3 n3 c3, .slice a4 n4 c4, .slice a5 n5 c5, .slice a6 n6 c6]) (sysN l i) ∧ SysIn w' (.agg #[.string t0, .slice b1 m1 d1, .slice b2 m2 d2, .slice b3 m3 d3, .slice b4 m4 d4, .slice b5 m5 d5, .slice b6 m6 d6]) (sysN l j) ∧ RowB w' G 3 .i64 at_ ∧ Below G w w')
                    (first | exact HS.out | assumption | exact KEEP.out _ _ (by assumption) (by assumption))
                    ((go_at_call 11; refine (CC.out _ (And.left (And.right (And.right (And.right (And.right (by assumption)))))) (And.left (And.right (And.right (And.right (by assumption)))))).mono ?_; rintro e w8 ⟨rfl, hb8⟩))
                  rename_i hHeld
                  have hro2 := hHeld.2.2.2.2.2.1
                  have hb2 := hHeld.2.2.2.2.2.2
                  clear hHeld hb8 HS KEEP
                  have HRO2 := Lib.hid hro2
                  clear hro2
                  by_cases hz : zi ≤ zj
                  · have HNO := Lib.hid (show ¬ RightS l n ls by
                      intro hr
                      have := (HR2.out.1 hr).2 i j hj hi HCF.out.symm
                      rw [← HZI.out.1, ← HZI.out.2] at this
                      omega)
                    have tz : decide (zi ≤ zj) = true := decide_eq_true hz
                    go_wp2
                    go_ret
                    exact ⟨⟨false, rfl, ⟨fun h => (by cases h), fun h => absurd h HNO.out⟩⟩, by rw [← HG.out]; exact hb2⟩
                  · have tz : decide (zi ≤ zj) = false := decide_eq_false hz
                    go_wp2
                    go_roundg (i - (j + 1))
                    case measure => rw [K2.out]; omega
                    case rel => exact ⟨j + 1, hj, rfl, by go_num, fun q hq hc => by
                      by_cases e : q = j
                      · rw [e, ← HZI.out.1, ← HZI.out.2]; omega
                      · exact HOJ.out q (by omega) hc, HRO2.out, hb2⟩
                | false =>
                  obtain ⟨p, q, _, hyi, hyj, hro2, hb2⟩ := HS.out
                  have C7i := Lib.hid (show Cells7 wr xb (xo + i * 7) _ _ _ _ _ _ _ from p)
                  have C7j := Lib.hid (show Cells7 wr xb (xo + j * 7) _ _ _ _ _ _ _ from q)
                  have HYI := Lib.hid (show SysIn wr _ _ from hyi)
                  have HYJ := Lib.hid (show SysIn wr _ _ from hyj)
                  have HRO2 := Lib.hid (show RowB wr G 3 .i64 at_ from hro2)
                  have HB2 := Lib.hid (show Below G w wr from ⟨hb2.os, hb2.tape, hb2.output, hb2.size, hb2.block⟩)
                  clear HS KEEP p q hyi hyj hro2 hb2
                  go_wp2_with fail
                  refine wp_region_facts_t rfl 20 (by kernel_rfl) (F_ri xb xo n c i j s0 a1 n1 c1 a2 n2 c2 a3 n3 c3 a4 n4 c4 a5 n5 c5 a6 n6 c6 t0 b1 m1 d1 b2 m2 d2 b3 m3 d3 b4 m4 d4 b5 m5 d5 b6 m6 d6) (F_ri_mono xb xo n c i j s0 a1 n1 c1 a2 n2 c2 a3 n3 c3 a4 n4 c4 a5 n5 c5 a6 n6 c6 t0 b1 m1 d1 b2 m2 d2 b3 m3 d3 b4 m4 d4 b5 m5 d5 b6 m6 d6) ?_ ?_
                  · refine ⟨?_, ?_, ?_, ?_, ?_, ?_, ?_, ?_, ?_, ?_, ?_, ?_, ?_, ?_, ?_, ?_, ?_, ?_, ?_, ?_, trivial⟩
                    · intro vs w' F hb hd hF hl hT
                      have e := (hF 0).trans (look_out _ 0 _ _ (by kernel_rfl))
                      exact one_move _ rfl (by first | exact Or.inl rfl | exact Or.inr rfl) ⟨_, rfl, Below.refl _ _, e⟩
                    · intro vs w' F hb hd hF hl hT
                      have e := (hF 12).trans (look_out _ 12 _ _ (by kernel_rfl))
                      exact one_move _ rfl (by first | exact Or.inl rfl | exact Or.inr rfl) ⟨_, rfl, Below.refl _ _, e⟩
                    · intro vs w' F hb hd hF hl hT
                      have ex := (((hF 80).trans (look_at _ 80 0 _ _ (by kernel_rfl) (by kernel_rfl) hl)).trans (dep_of (Fact := F_ri xb xo n c i j s0 a1 n1 c1 a2 n2 c2 a3 n3 c3 a4 n4 c4 a5 n5 c5 a6 n6 c6 t0 b1 m1 d1 b2 m2 d2 b3 m3 d3 b4 m4 d4 b5 m5 d5 b6 m6 d6) hd 0 (by kernel_rfl)))
                      have ey := (((hF 81).trans (look_at _ 81 1 _ _ (by kernel_rfl) (by kernel_rfl) hl)).trans (dep_of (Fact := F_ri xb xo n c i j s0 a1 n1 c1 a2 n2 c2 a3 n3 c3 a4 n4 c4 a5 n5 c5 a6 n6 c6 t0 b1 m1 d1 b2 m2 d2 b3 m3 d3 b4 m4 d4 b5 m5 d5 b6 m6 d6) hd 1 (by kernel_rfl)))
                      exact one_index 22 _ _ rfl rfl (.slice (some ⟨xb, xo, none⟩) n c) (.int .i64 j) (.pointer (some ⟨xb, xo + j * 7, none⟩)) ex ey (fun w => idx_sys xb xo n c j (by omega) w) ⟨_, rfl, Below.refl _ _, rfl⟩
                    · intro vs w' F hb hd hF hl hT
                      have e := (((hF 82).trans (look_at _ 82 2 _ _ (by kernel_rfl) (by kernel_rfl) hl)).trans (dep_of (Fact := F_ri xb xo n c i j s0 a1 n1 c1 a2 n2 c2 a3 n3 c3 a4 n4 c4 a5 n5 c5 a6 n6 c6 t0 b1 m1 d1 b2 m2 d2 b3 m3 d3 b4 m4 d4 b5 m5 d5 b6 m6 d6) hd 2 (by kernel_rfl)))
                      exact one_load7 30 _ rfl rfl xb (xo + j * 7) _ _ _ _ _ _ _ e (C7j.out.below hb) _ Try.underlying30 rfl (by kernel_rfl) ⟨_, rfl, Below.refl _ _, rfl⟩
                    · intro vs w' F hb hd hF hl hT
                      have e := (hF 0).trans (look_out _ 0 _ _ (by kernel_rfl))
                      exact one_move _ rfl (by first | exact Or.inl rfl | exact Or.inr rfl) ⟨_, rfl, Below.refl _ _, e⟩
                    · intro vs w' F hb hd hF hl hT
                      have e := (hF 11).trans (look_out _ 11 _ _ (by kernel_rfl))
                      exact one_move _ rfl (by first | exact Or.inl rfl | exact Or.inr rfl) ⟨_, rfl, Below.refl _ _, e⟩
                    · intro vs w' F hb hd hF hl hT
                      have ex := (((hF 84).trans (look_at _ 84 4 _ _ (by kernel_rfl) (by kernel_rfl) hl)).trans (dep_of (Fact := F_ri xb xo n c i j s0 a1 n1 c1 a2 n2 c2 a3 n3 c3 a4 n4 c4 a5 n5 c5 a6 n6 c6 t0 b1 m1 d1 b2 m2 d2 b3 m3 d3 b4 m4 d4 b5 m5 d5 b6 m6 d6) hd 4 (by kernel_rfl)))
                      have ey := (((hF 85).trans (look_at _ 85 5 _ _ (by kernel_rfl) (by kernel_rfl) hl)).trans (dep_of (Fact := F_ri xb xo n c i j s0 a1 n1 c1 a2 n2 c2 a3 n3 c3 a4 n4 c4 a5 n5 c5 a6 n6 c6 t0 b1 m1 d1 b2 m2 d2 b3 m3 d3 b4 m4 d4 b5 m5 d5 b6 m6 d6) hd 5 (by kernel_rfl)))
                      exact one_index 22 _ _ rfl rfl (.slice (some ⟨xb, xo, none⟩) n c) (.int .i64 i) (.pointer (some ⟨xb, xo + i * 7, none⟩)) ex ey (fun w => idx_sys xb xo n c i (by omega) w) ⟨_, rfl, Below.refl _ _, rfl⟩
                    · intro vs w' F hb hd hF hl hT
                      have e := (((hF 86).trans (look_at _ 86 6 _ _ (by kernel_rfl) (by kernel_rfl) hl)).trans (dep_of (Fact := F_ri xb xo n c i j s0 a1 n1 c1 a2 n2 c2 a3 n3 c3 a4 n4 c4 a5 n5 c5 a6 n6 c6 t0 b1 m1 d1 b2 m2 d2 b3 m3 d3 b4 m4 d4 b5 m5 d5 b6 m6 d6) hd 6 (by kernel_rfl)))
                      exact one_load7 30 _ rfl rfl xb (xo + i * 7) _ _ _ _ _ _ _ e (C7i.out.below hb) _ Try.underlying30 rfl (by kernel_rfl) ⟨_, rfl, Below.refl _ _, rfl⟩
                    · intro vs w' F hb hd hF hl hT
                      refine one_call _ _ rfl rfl (enters_of Try.func11 (by kernel_rfl) rfl) #[.agg #[.string t0, .slice b1 m1 d1, .slice b2 m2 d2, .slice b3 m3 d3, .slice b4 m4 d4, .slice b5 m5 d5, .slice b6 m6 d6], .agg #[.string s0, .slice a1 n1 c1, .slice a2 n2 c2, .slice a3 n3 c3, .slice a4 n4 c4, .slice a5 n5 c5, .slice a6 n6 c6]] (eval2 (((hF 83).trans (look_at _ 83 3 _ _ (by kernel_rfl) (by kernel_rfl) hl)).trans (dep_of (Fact := F_ri xb xo n c i j s0 a1 n1 c1 a2 n2 c2 a3 n3 c3 a4 n4 c4 a5 n5 c5 a6 n6 c6 t0 b1 m1 d1 b2 m2 d2 b3 m3 d3 b4 m4 d4 b5 m5 d5 b6 m6 d6) hd 3 (by kernel_rfl))) (((hF 87).trans (look_at _ 87 7 _ _ (by kernel_rfl) (by kernel_rfl) hl)).trans (dep_of (Fact := F_ri xb xo n c i j s0 a1 n1 c1 a2 n2 c2 a3 n3 c3 a4 n4 c4 a5 n5 c5 a6 n6 c6 t0 b1 m1 d1 b2 m2 d2 b3 m3 d3 b4 m4 d4 b5 m5 d5 b6 m6 d6) hd 7 (by kernel_rfl)))) ?_
                      refine (CC.out w' (HYJ.out.below hb) (HYI.out.below hb)).mono ?_
                      rintro e2 w2 ⟨rfl, hb2⟩
                      exact ⟨_, rfl, _, rfl, hb2, rfl⟩
                    · intro vs w' F hb hd hF hl hT
                      have e := ((hF 88).trans (look_at _ 88 8 _ _ (by kernel_rfl) (by kernel_rfl) hl)).trans (dep_of (Fact := F_ri xb xo n c i j s0 a1 n1 c1 a2 n2 c2 a3 n3 c3 a4 n4 c4 a5 n5 c5 a6 n6 c6 t0 b1 m1 d1 b2 m2 d2 b3 m3 d3 b4 m4 d4 b5 m5 d5 b6 m6 d6) hd 8 (by kernel_rfl))
                      exact one_move _ rfl (by first | exact Or.inl rfl | exact Or.inr rfl) ⟨_, rfl, Below.refl _ _, e⟩
                    · intro vs w' F hb hd hF hl hT
                      have eg := ((hF 89).trans (look_at _ 89 9 _ _ (by kernel_rfl) (by kernel_rfl) hl)).trans (dep_of (Fact := F_ri xb xo n c i j s0 a1 n1 c1 a2 n2 c2 a3 n3 c3 a4 n4 c4 a5 n5 c5 a6 n6 c6 t0 b1 m1 d1 b2 m2 d2 b3 m3 d3 b4 m4 d4 b5 m5 d5 b6 m6 d6) hd 9 (by kernel_rfl))
                      exact wpList_off rfl (t := 89) (d := false) (by kernel_rfl) eg (by decide) ⟨_, rfl, Below.refl _ _, trivial⟩
                    · intro vs w' F hb hd hF hl hT
                      have eg := ((hF 89).trans (look_at _ 89 9 _ _ (by kernel_rfl) (by kernel_rfl) hl)).trans (dep_of (Fact := F_ri xb xo n c i j s0 a1 n1 c1 a2 n2 c2 a3 n3 c3 a4 n4 c4 a5 n5 c5 a6 n6 c6 t0 b1 m1 d1 b2 m2 d2 b3 m3 d3 b4 m4 d4 b5 m5 d5 b6 m6 d6) hd 9 (by kernel_rfl))
                      exact wpList_off rfl (t := 89) (d := false) (by kernel_rfl) eg (by decide) ⟨_, rfl, Below.refl _ _, trivial⟩
                    · intro vs w' F hb hd hF hl hT
                      have eg := ((hF 89).trans (look_at _ 89 9 _ _ (by kernel_rfl) (by kernel_rfl) hl)).trans (dep_of (Fact := F_ri xb xo n c i j s0 a1 n1 c1 a2 n2 c2 a3 n3 c3 a4 n4 c4 a5 n5 c5 a6 n6 c6 t0 b1 m1 d1 b2 m2 d2 b3 m3 d3 b4 m4 d4 b5 m5 d5 b6 m6 d6) hd 9 (by kernel_rfl))
                      exact wpList_off rfl (t := 89) (d := false) (by kernel_rfl) eg (by decide) ⟨_, rfl, Below.refl _ _, trivial⟩
                    · intro vs w' F hb hd hF hl hT
                      have eg := ((hF 89).trans (look_at _ 89 9 _ _ (by kernel_rfl) (by kernel_rfl) hl)).trans (dep_of (Fact := F_ri xb xo n c i j s0 a1 n1 c1 a2 n2 c2 a3 n3 c3 a4 n4 c4 a5 n5 c5 a6 n6 c6 t0 b1 m1 d1 b2 m2 d2 b3 m3 d3 b4 m4 d4 b5 m5 d5 b6 m6 d6) hd 9 (by kernel_rfl))
                      exact wpList_off rfl (t := 89) (d := false) (by kernel_rfl) eg (by decide) ⟨_, rfl, Below.refl _ _, trivial⟩
                    · intro vs w' F hb hd hF hl hT
                      have eg := ((hF 89).trans (look_at _ 89 9 _ _ (by kernel_rfl) (by kernel_rfl) hl)).trans (dep_of (Fact := F_ri xb xo n c i j s0 a1 n1 c1 a2 n2 c2 a3 n3 c3 a4 n4 c4 a5 n5 c5 a6 n6 c6 t0 b1 m1 d1 b2 m2 d2 b3 m3 d3 b4 m4 d4 b5 m5 d5 b6 m6 d6) hd 9 (by kernel_rfl))
                      exact wpList_off rfl (t := 89) (d := false) (by kernel_rfl) eg (by decide) ⟨_, rfl, Below.refl _ _, trivial⟩
                    · intro vs w' F hb hd hF hl hT
                      have eg := ((hF 89).trans (look_at _ 89 9 _ _ (by kernel_rfl) (by kernel_rfl) hl)).trans (dep_of (Fact := F_ri xb xo n c i j s0 a1 n1 c1 a2 n2 c2 a3 n3 c3 a4 n4 c4 a5 n5 c5 a6 n6 c6 t0 b1 m1 d1 b2 m2 d2 b3 m3 d3 b4 m4 d4 b5 m5 d5 b6 m6 d6) hd 9 (by kernel_rfl))
                      exact wpList_off rfl (t := 89) (d := false) (by kernel_rfl) eg (by decide) ⟨_, rfl, Below.refl _ _, trivial⟩
                    · intro vs w' F hb hd hF hl hT
                      have eg := ((hF 89).trans (look_at _ 89 9 _ _ (by kernel_rfl) (by kernel_rfl) hl)).trans (dep_of (Fact := F_ri xb xo n c i j s0 a1 n1 c1 a2 n2 c2 a3 n3 c3 a4 n4 c4 a5 n5 c5 a6 n6 c6 t0 b1 m1 d1 b2 m2 d2 b3 m3 d3 b4 m4 d4 b5 m5 d5 b6 m6 d6) hd 9 (by kernel_rfl))
                      exact wpList_off rfl (t := 89) (d := false) (by kernel_rfl) eg (by decide) ⟨_, rfl, Below.refl _ _, trivial⟩
                    · intro vs w' F hb hd hF hl hT
                      have eg := ((hF 89).trans (look_at _ 89 9 _ _ (by kernel_rfl) (by kernel_rfl) hl)).trans (dep_of (Fact := F_ri xb xo n c i j s0 a1 n1 c1 a2 n2 c2 a3 n3 c3 a4 n4 c4 a5 n5 c5 a6 n6 c6 t0 b1 m1 d1 b2 m2 d2 b3 m3 d3 b4 m4 d4 b5 m5 d5 b6 m6 d6) hd 9 (by kernel_rfl))
                      exact wpList_off rfl (t := 89) (d := false) (by kernel_rfl) eg (by decide) ⟨_, rfl, Below.refl _ _, trivial⟩
                    · intro vs w' F hb hd hF hl hT
                      have eg := ((hF 89).trans (look_at _ 89 9 _ _ (by kernel_rfl) (by kernel_rfl) hl)).trans (dep_of (Fact := F_ri xb xo n c i j s0 a1 n1 c1 a2 n2 c2 a3 n3 c3 a4 n4 c4 a5 n5 c5 a6 n6 c6 t0 b1 m1 d1 b2 m2 d2 b3 m3 d3 b4 m4 d4 b5 m5 d5 b6 m6 d6) hd 9 (by kernel_rfl))
                      exact wpList_off rfl (t := 89) (d := false) (by kernel_rfl) eg (by decide) ⟨_, rfl, Below.refl _ _, trivial⟩
                    · intro vs w' F hb hd hF hl hT
                      have ec := ((hF 89).trans (look_at _ 89 9 _ _ (by kernel_rfl) (by kernel_rfl) hl)).trans (dep_of (Fact := F_ri xb xo n c i j s0 a1 n1 c1 a2 n2 c2 a3 n3 c3 a4 n4 c4 a5 n5 c5 a6 n6 c6 t0 b1 m1 d1 b2 m2 d2 b3 m3 d3 b4 m4 d4 b5 m5 d5 b6 m6 d6) hd 9 (by kernel_rfl))
                      exact one_pick_f _ _ _ rfl rfl _ ec rfl ⟨_, rfl, Below.refl _ _, rfl⟩
                  · intro vs W1 hl hb hI
                    have hv : vs.getD 19 undef = .bool false := hI 19 (by omega)
                    obtain ⟨x0, x1, x2, x3, x4, x5, x6, x7, x8, x9, x10, x11, x12, x13, x14, x15, x16, x17, x18, x19, hvs⟩ := list20 hl
                    subst hvs
                    replace hv : x19 = .bool false := hv
                    subst hv
                    have hro3 : RowB W1 G 3 .i64 at_ := HRO2.out.below hb
                    have hb3 : Below G w W1 := HB2.out.trans (hb.mono (Nat.le_of_lt HRO2.out.lt))
                    have HRO3 := Lib.hid hro3
                    clear hI hl hb HRO2 HB2 hro3 CC C7i C7j HYI HYJ
                    simp only [fillAll, Act.put, List.setIfInBounds_toArray, List.set_cons_succ, List.set_cons_zero]
                    show wpList _ _ _ [] _ _
                    go_wp2
                    go_roundg (i - (j + 1))
                    case measure => rw [K2.out]; omega
                    case rel => exact ⟨j + 1, hj, rfl, by go_num, fun q hq hc => by
                      by_cases e : q = j
                      · rw [e, ← HCF.out] at hc; cases hc
                      · exact HOJ.out q (by omega) hc, HRO3.out, hb3⟩
              · obtain rfl : j = i := by omega
                go_wp2_with fail
                go_roundg (n - (j + 1))
                case measure => rw [F2.out]; omega
                case rel => exact ⟨j + 1, hi, rfl, by go_num, fun p q hq hp hc => by
                  by_cases e : p = j
                  · rw [e] at hc ⊢; exact HOJ.out q (by omega) hc
                  · exact HOK.out p q hq (by omega) hc, HRO.out, hb⟩
          · obtain rfl : i = n := by omega
            have HYES := Lib.hid (show RightS l i ls from HR2.out.2 ⟨by trivial, fun p q hq hp hc => HOK.out p q hq hp hc⟩)
            go_wp2
            go_ret
            exact ⟨⟨true, rfl, ⟨fun _ => HYES.out, fun _ => rfl⟩⟩, by rw [← HG.out]; exact hb⟩
      · have t0 : ((n : Int) != (m : Int)) = true := by rw [bne_iff_ne]; omega
        have t1 : ((n : Int) == (m : Int)) = false := by rw [beq_eq_false_iff_ne]; omega
        go_wp2
        go_ret
        exact ⟨⟨false, rfl, ⟨fun h => (by cases h), fun h => absurd (HR2.out.1 h).1 hnm⟩⟩, by rw [← HG.out]; exact hb⟩
end Go.Proofs.Ytembjokbhbdoeaa
