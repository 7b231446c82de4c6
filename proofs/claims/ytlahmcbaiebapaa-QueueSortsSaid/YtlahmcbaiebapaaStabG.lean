/- slices.symMergeCmpFunc at integers: both runs have two elements at least. -/
import Derived.Test.YtlahmcbaiebapaaStabR
import Derived.Deep.DeepCutAuto
namespace Go.Proofs.Ytlahmcbaiebapaa
open Go.ChangeShapes Go.WideShapes Go.ChangeAt Go.RowKit Go.Mem Go.Sb
set_option linter.unusedVariables false
/-- What symMerge does to all rows shorter than L. -/
def SymOk (fid : Nat) (caps : Array Value) (K : Int → Int) (n g : Nat) (W0 : World) (N c L : Nat) : Prop := ∀ (D P A B S : List Int) (a m b : Nat), b - a < L → Runs K D P A B S a m b → 0 < A.length → 0 < B.length → D.length = N → InR n (A ++ B) → ∀ w, StS g W0 w D →
  Calls Try.prog 122 #[.slice (some ⟨g, 0, none⟩) N c, .int .i64 (a : Int), .int .i64 (m : Int), .int .i64 (b : Int), .func (.func fid) #[] caps] w (MPost K g W0 P A B S)
/-- What the search over both runs knows. -/
structure Srch (K : Int → Int) (D : List Int) (lo hi p i j : Nat) : Prop where
  li : lo ≤ i
  ij : i ≤ j
  jh : j ≤ hi
  flo : ∀ d, lo ≤ d → d < i → ¬ K (D.getD (p - d) 0) < K (D.getD d 0)
  fhi : ∀ d, j ≤ d → d < hi → K (D.getD (p - d) 0) < K (D.getD d 0)
/-- The bounds of the search. -/
structure Bnds (a m b mid lo hi p : Nat) : Prop where
  flo : a ≤ lo
  fhi : hi ≤ m
  fle : lo ≤ hi
  fmid : mid = (a + b) / 2
  fp : p + 1 = mid + m
  fright : ∀ d, lo ≤ d → d < hi → m ≤ p - d ∧ p - d < b ∧ d ≤ p
  flow : lo = a ∨ mid + m - lo = b
  fhigh : hi = m ∨ mid + m - hi = m
theorem bnds1 {a m b : Nat} (ha : a + 2 ≤ m) (hb : m + 2 ≤ b) (h : (a + b) / 2 < m) : Bnds a m b ((a + b) / 2) ((a + b) / 2 + m - b) ((a + b) / 2) ((a + b) / 2 + m - 1) :=
  ⟨by omega, by omega, by omega, rfl, by omega, fun d h1 h2 => by omega, .inr (by omega), .inr (by omega)⟩
theorem bnds2 {a m b : Nat} (ha : a + 2 ≤ m) (hb : m + 2 ≤ b) (h : ¬ (a + b) / 2 < m) : Bnds a m b ((a + b) / 2) a m ((a + b) / 2 + m - 1) :=
  ⟨by omega, by omega, by omega, rfl, by omega, fun d h1 h2 => by omega, .inl rfl, .inl rfl⟩
theorem Srch.start {K : Int → Int} {D : List Int} {lo hi p : Nat} (h : lo ≤ hi) : Srch K D lo hi p lo hi := ⟨Nat.le_refl _, h, Nat.le_refl _, fun d h1 h2 => by omega, fun d h1 h2 => by omega⟩
theorem Srch.up {K : Int → Int} {D P A B S : List Int} {a m b mid lo hi p i j h : Nat} (hR : Runs K D P A B S a m b) (hB : Bnds a m b mid lo hi p) (hs : Srch K D lo hi p i j) (h1 : i ≤ h) (h2 : h < j) (hq : ¬ K (D.getD (p - h) 0) < K (D.getD h 0)) : Srch K D lo hi p (h + 1) j := by
  have := hs.jh; have := hs.li; have := hB.flo; have := hB.fhi
  refine ⟨by omega, by omega, hs.jh, fun d d1 d2 => ?_, hs.fhi⟩
  by_cases e : d = h
  · rw [e]; exact hq
  · have r1 := hB.fright d d1 (by omega)
    have r2 := hB.fright h (by omega) (by omega)
    have k1 := key_mono (hR.mono_l (c := d) (d := h) (by omega) (by omega) (by omega))
    have k2 := key_mono (hR.mono_r (c := p - h) (d := p - d) (by omega) (by omega) (by omega))
    omega
theorem Srch.down {K : Int → Int} {D P A B S : List Int} {a m b mid lo hi p i j h : Nat} (hR : Runs K D P A B S a m b) (hB : Bnds a m b mid lo hi p) (hs : Srch K D lo hi p i j) (h1 : i ≤ h) (h2 : h < j) (hq : K (D.getD (p - h) 0) < K (D.getD h 0)) : Srch K D lo hi p i h := by
  have := hs.jh; have := hs.li; have := hB.flo; have := hB.fhi
  refine ⟨hs.li, h1, by omega, hs.flo, fun d d1 d2 => ?_⟩
  by_cases e : d = h
  · rw [e]; exact hq
  · have r1 := hB.fright d (by omega) (by omega)
    have r2 := hB.fright h (by omega) (by omega)
    have k1 := key_mono (hR.mono_l (c := h) (d := d) (by omega) (by omega) (by omega))
    have k2 := key_mono (hR.mono_r (c := p - d) (d := p - h) (by omega) (by omega) (by omega))
    omega
/-- What the search has found. -/
theorem Srch.found {K : Int → Int} {D P A B S : List Int} {a m b mid lo hi p i : Nat} (hR : Runs K D P A B S a m b) (hB : Bnds a m b mid lo hi p) (hs : Srch K D lo hi p i i) :
    ∃ stop, stop = mid + m - i ∧ a ≤ i ∧ i ≤ m ∧ m ≤ stop ∧ stop ≤ b ∧ ∃ A1 A2 B1 B2, A = A1 ++ A2 ∧ B = B1 ++ B2 ∧ a + A1.length = i ∧ m + B1.length = stop ∧ Before K A1 B2 ∧ Before K B1 A2 := by
  have q1 := hs.li; have q2 := hs.jh; have q3 := hB.flo; have q4 := hB.fhi; have q5 := hB.fp; have q6 := hB.fmid; have q7 := hB.fle
  have q8 := hR.hm; have q9 := hR.hb
  have s1 : m ≤ mid + m - i ∧ mid + m - i ≤ b := by
    rcases Nat.lt_or_ge i hi with h | h
    · have := hB.fright i q1 h; omega
    · have e : i = hi := by omega
      rcases Nat.lt_or_ge lo hi with h2 | h2
      · have := hB.fright (hi - 1) (by omega) (by omega); omega
      · rcases hB.flow with h3 | h3 <;> rcases hB.fhigh with h4 | h4 <;> omega
  refine ⟨_, rfl, by omega, by omega, s1.1, s1.2, ?_⟩
  refine hR.cut (start := i) (stop := mid + m - i) (by omega) (by omega) s1.1 s1.2 ?_ ?_
  · by_cases e : lo < i
    · have r := hB.fright (i - 1) (by omega) (by omega)
      have h := hs.flo (i - 1) (by omega) (by omega)
      rw [show p - (i - 1) = mid + m - i by omega] at h
      exact .inr (.inr ((lt_left (hR.ixlt (by omega) (by omega) (by omega) (by omega))).2 h))
    · have e2 : i = lo := by omega
      rcases hB.flow with h | h
      · exact .inl (by omega)
      · exact .inr (.inl (by rw [e2]; exact h))
  · by_cases e : i < hi
    · have r := hB.fright i q1 e
      have h := hs.fhi i (Nat.le_refl _) e
      rw [show p - i = mid + m - i - 1 by omega] at h
      exact .inr (.inr (.inl h))
    · have e2 : i = hi := by omega
      rcases hB.fhigh with h | h
      · exact .inl (by omega)
      · exact .inr (.inl (by rw [e2]; exact h))

set_option maxRecDepth 100000 in
set_option maxHeartbeats 16000000 in
theorem sym_gen (fid : Nat) (caps : Array Value) (K : Int → Int) (n g : Nat) (W0 : World) (hc : CmpOk fid caps K n g W0) (he : ∀ args w, (callFunc fid args).run Try.prog w = .ok (.enter fid args) w) (D P A B S : List Int) (a m b N c : Nat) (hR : Runs K D P A B S a m b) (hA : 2 ≤ A.length) (hB : 2 ≤ B.length) (hN : D.length = N) (h1 : N ≤ 1048576)
    (hr : InR n (A ++ B)) (hih : SymOk fid caps K n g W0 N c (b - a)) (w : World) (hs : StS g W0 w D) :
    Calls Try.prog 122 #[.slice (some ⟨g, 0, none⟩) N c, .int .i64 (a : Int), .int .i64 (m : Int), .int .i64 (b : Int), .func (.func fid) #[] caps] w (MPost K g W0 P A B S) := by
  have hmA : a + 2 ≤ m := by have := hR.hm; omega
  have hmB : m + 2 ≤ b := by have := hR.hb; omega
  have hbN : b ≤ N := by have := hR.len; omega
  have e0 : ((m : Int) - (a : Int) == 1) = false := by rw [beq_eq_false_iff_ne]; omega
  have e00 : ((b : Int) - (m : Int) == 1) = false := by rw [beq_eq_false_iff_ne]; omega
  obtain ⟨s, mid, f1, f2, f3, f4, f5⟩ := half_facts a b (by omega)
  obtain ⟨n0, hn0⟩ : ∃ n0, n0 = mid + m := ⟨_, rfl⟩
  obtain ⟨p, hp⟩ : ∃ p, p = mid + m - 1 := ⟨_, rfl⟩
  have f6 : (mid : Int) + (m : Int) = (n0 : Int) := by omega
  have f7 : (n0 : Int) - 1 = (p : Int) := by omega
  have HC := Lib.hid hc
  have HR := Lib.hid hR
  have HIN := Lib.hid hr
  have HN := Lib.hid hN
  have HS := Lib.hid hs
  have HIH := Lib.hid hih
  have HMID := Lib.hid (And.intro f5 (And.intro hn0 hp))
  have hmid1 : a ≤ mid := by omega
  have hmid2 : mid ≤ b := by omega
  have hn01 : n0 ≤ 2097152 := by omega
  have hpn1 : p + 1 ≤ n0 := by omega
  have hpn2 : n0 ≤ p + 1 := by omega
  clear hc hR hr hN hs hih hA hB
  obtain ⟨lo, hi, hB, hcase⟩ : ∃ lo hi, Bnds a m b mid lo hi p ∧ ((mid < m ∧ lo = n0 - b ∧ hi = mid ∧ b ≤ n0) ∨ (¬ mid < m ∧ lo = a ∧ hi = m)) := by
    rw [hn0, hp, f5]
    by_cases h : (a + b) / 2 < m
    · exact ⟨_, _, bnds1 hmA hmB h, .inl ⟨h, rfl, rfl, by omega⟩⟩
    · exact ⟨_, _, bnds2 hmA hmB h, .inr ⟨h, rfl, rfl⟩⟩
  obtain ⟨SR, hSR⟩ : ∃ SR : Nat → Nat → Prop, SR = Srch K D lo hi p := ⟨_, rfl⟩
  have HST := Lib.hid (show SR lo hi by rw [hSR]; exact Srch.start hB.fle)
  have HUP := Lib.hid (show ∀ i j h, SR i j → i ≤ h → h < j → K (D.getD h 0) ≤ K (D.getD (p - h) 0) → SR (h + 1) j by rw [hSR]; exact fun i j h hs h1 h2 h3 => Srch.up HR.out hB hs h1 h2 (by omega))
  have HDN := Lib.hid (show ∀ i j h, SR i j → i ≤ h → h < j → K (D.getD (p - h) 0) < K (D.getD h 0) → SR i h by rw [hSR]; exact fun i j h hs => Srch.down HR.out hB hs)
  have HFD := Lib.hid (show ∀ i, SR i i → ∃ stop, stop = mid + m - i ∧ a ≤ i ∧ i ≤ m ∧ m ≤ stop ∧ stop ≤ b ∧ ∃ A1 A2 B1 B2, A = A1 ++ A2 ∧ B = B1 ++ B2 ∧ a + A1.length = i ∧ m + B1.length = stop ∧ Before K A1 B2 ∧ Before K B1 A2 by rw [hSR]; exact fun i hs => Srch.found HR.out hB hs)
  have HBD := Lib.hid (show ∀ i j, SR i j → i ≤ j ∧ j ≤ m ∧ ∀ h, i ≤ h → h < j → a ≤ h ∧ h < m ∧ m ≤ p - h ∧ p - h < b ∧ h ≤ p by
    rw [hSR]
    intro i j hs
    have u1 := hs.li; have u2 := hs.jh; have u3 := hB.flo; have u4 := hB.fhi
    refine ⟨hs.ij, by omega, fun h h1 h2 => ?_⟩
    have := hB.fright h (by omega) (by omega)
    exact ⟨by omega, by omega, this.1, this.2.1, this.2.2⟩)
  clear f5 hn0 hp hB hSR
  have hcase2 : (decide ((mid : Int) < (m : Int)) = true ∧ decide (mid < m) = true ∧ (n0 : Int) - (b : Int) = (lo : Int) ∧ mid = hi) ∨ (decide ((mid : Int) < (m : Int)) = false ∧ decide (mid < m) = false ∧ a = lo ∧ m = hi) := by
    rcases hcase with ⟨q1, q2, q3, q4⟩ | ⟨q1, q2, q3⟩
    · exact .inl ⟨by simp; omega, by simp; omega, by omega, q3.symm⟩
    · exact .inr ⟨by simp; omega, by simp; omega, q2.symm, q3.symm⟩
  clear hcase
  rcases hcase2 with ⟨t1, t2, e1, rfl⟩ | ⟨t1, t2, rfl, rfl⟩
  all_goals
    go_enter Try.func122, Try.ntmps122
    go_wp2_with fail
    go_loopg [20, 21, 23] N (fun gk vi vj _ wx => ∃ (i j : Nat), j - i ≤ gk ∧ vi = .int .i64 i ∧ vj = .int .i64 j ∧ SR i j ∧ StS g W0 wx D)
    case atStart => exact ⟨_, _, by have := (HBD.out _ _ HST.out).2.1; omega, rfl, rfl, HST.out, HS.out⟩
    case round =>
      clear HS HST
      obtain ⟨i, j, g2, rfl, rfl, hsr, hst⟩ := hrel
      have HSR := Lib.hid hsr
      have HS := Lib.hid hst
      obtain ⟨hij, hjm, hbd⟩ := HBD.out i j hsr
      have HBH := Lib.hid hbd
      clear hsr hst hbd
      by_cases hlt : i < j
      · obtain ⟨s2, h, r1, r2, r3, r4, r5⟩ := half_facts i j (by omega)
        have hh1 : i ≤ h := by omega
        have hh2 : h < j := by omega
        obtain ⟨u1, u2, u3, u4, u5⟩ := HBH.out h hh1 hh2
        obtain ⟨ph, hph⟩ : ∃ ph, ph = p - h := ⟨_, rfl⟩
        rw [← hph] at u3 u4
        have v2 : IntKind.i64.wrap ((p : Int) - (h : Int)) = (p : Int) - (h : Int) := by rw [IntKind.wrap_i64]; omega
        have v3 : (0 : Int) ≤ (p : Int) - (h : Int) := by omega
        have v4 : (p : Int) - (h : Int) < (N : Int) := by omega
        have v5 : ((p : Int) - (h : Int)).toNat = ph := by omega
        have v6 : (h : Int) ≤ (p : Int) := by omega
        have v7 : (h : Int) ≤ (N : Int) := by omega
        obtain ⟨x, hx⟩ : ∃ x, x = D.getD h 0 := ⟨_, rfl⟩
        obtain ⟨y, hy⟩ : ∃ y, y = D.getD ph 0 := ⟨_, rfl⟩
        have cy := HS.out.1.cell ph (by rw [HN.out]; omega)
        have cx := HS.out.1.cell h (by rw [HN.out]; omega)
        rw [← hy] at cy
        rw [← hx] at cx
        have HC2 := Lib.hid (show Cells2 g W0 D ph h y x wr from ⟨HS.out, cy, cx⟩)
        have hxr : 0 ≤ x ∧ x < (n : Int) := by rw [hx]; exact runs_in HR.out HIN.out u1 (by omega)
        have hyr : 0 ≤ y ∧ y < (n : Int) := by rw [hy]; exact runs_in HR.out HIN.out (by omega) u4
        obtain ⟨q, hq⟩ : ∃ q, q = cmN K y x := ⟨_, rfl⟩
        have CC := fun w1 (hw : Cells2 g W0 D ph h y x w1) => HC.out.call y x w1 hyr hxr hw.st.2
        rw [← hq] at CC
        have HCC := Lib.hid CC
        have HQ := Lib.hid (show q < 0 ↔ K (D.getD (p - h) 0) < K (D.getD h 0) by rw [← hph, ← hx, ← hy, hq]; exact cmN_lt K y x)
        have a0 : (0 : Int) ≤ (ph : Int) := by omega
        have a1 : (ph : Int) < (N : Int) := by omega
        have b0 : (0 : Int) ≤ (h : Int) := by omega
        have b1 : (h : Int) < (N : Int) := by omega
        clear r5 hx hy hxr hyr hq CC hph
        by_cases hcq : q < 0
        · have tq : decide (q < 0) = true := decide_eq_true hcq
          have HNW := Lib.hid (HDN.out i j h HSR.out hh1 hh2 (HQ.out.1 hcq))
          go_wp2_with fail
          go_region_held3 (fun w' => w'.cell? ⟨g, ph, none⟩ = some (.int .i64 y) ∧ w'.cell? ⟨g, h, none⟩ = some (.int .i64 x) ∧ Cells2 g W0 D ph h y x w')
            (first | exact ⟨HC2.out.cx, HC2.out.cy, HC2.out.below (Below.refl _ _).drew⟩ | assumption | exact keep_c2 (by assumption) (by assumption))
            ((refine (HCC.out _ (And.right (And.right (by assumption)))).mono ?_; rintro e w8 ⟨rfl, hb8⟩))
          rename_i hHeld
          have HS2 := Lib.hid hHeld.2.2.st
          clear hHeld hb8 cx cy HC2 HCC
          go_wp2_with fail
          go_roundg (gk - 1)
          case measure => omega
          case rel => exact ⟨i, h, by omega, rfl, rfl, HNW.out, HS2.out⟩
        · have tq : decide (q < 0) = false := decide_eq_false hcq
          have HNW := Lib.hid (HUP.out i j h HSR.out hh1 hh2 (Int.not_lt.1 (fun h5 => hcq (HQ.out.2 h5))))
          go_wp2_with fail
          go_region_held3 (fun w' => w'.cell? ⟨g, ph, none⟩ = some (.int .i64 y) ∧ w'.cell? ⟨g, h, none⟩ = some (.int .i64 x) ∧ Cells2 g W0 D ph h y x w')
            (first | exact ⟨HC2.out.cx, HC2.out.cy, HC2.out.below (Below.refl _ _).drew⟩ | assumption | exact keep_c2 (by assumption) (by assumption))
            ((refine (HCC.out _ (And.right (And.right (by assumption)))).mono ?_; rintro e w8 ⟨rfl, hb8⟩))
          rename_i hHeld
          have HS2 := Lib.hid hHeld.2.2.st
          clear hHeld hb8 cx cy HC2 HCC
          go_wp2_with fail
          go_roundg (gk - 1)
          case measure => omega
          case rel => exact ⟨h + 1, j, by omega, by go_num, rfl, HNW.out, HS2.out⟩
      · obtain rfl : i = j := by omega
        obtain ⟨stop, hstop, w1, w2, w3, w4, A1, A2, B1, B2, hA, hB, l1, l2, bf1, bf2⟩ := HFD.out i HSR.out
        have z1 : (n0 : Int) - (i : Int) = (stop : Int) := by have := HMID.out.2.1; omega
        have HSTOP := Lib.hid hstop
        have HAB := Lib.hid (And.intro hA hB)
        have HL := Lib.hid (And.intro l1 l2)
        have HBF := Lib.hid (And.intro bf1 bf2)
        clear hstop hA hB l1 l2 bf1 bf2
        have y1 : i + B1.length = mid := by have := HL.out.2; have := HMID.out.2.1; have := HSTOP.out; omega
        have y2 : mid + A2.length = stop := by have := HL.out.1; have := HR.out.hm; have := congrArg List.length HAB.out.1; simp at this; have := HSTOP.out; omega
        have y3 : stop + B2.length = b := by have := HL.out.2; have := HR.out.hb; have := congrArg List.length HAB.out.2; simp at this; omega
        have HEQ := Lib.hid (show D = P ++ A1 ++ A2 ++ B1 ++ (B2 ++ S) by rw [HR.out.eq, HAB.out.1, HAB.out.2]; simp)
        have HLN := Lib.hid (show (P ++ A1 ++ A2 ++ B1 ++ (B2 ++ S)).length = N by rw [← HEQ.out]; exact HN.out)
        have HPA := Lib.hid (show (P ++ A1).length = i by rw [List.length_append, HR.out.ha, HL.out.1])
        have y4 : i + A2.length = m := by have := HL.out.1; have := HR.out.hm; have := congrArg List.length HAB.out.1; simp at this; omega
        have hi0 := HL.out.1
        have HY := Lib.hid (And.intro y1 (And.intro y2 (And.intro y3 (And.intro y4 hi0))))
        have hsa := Lib.hid (show Srt K (A1 ++ A2) by rw [← HAB.out.1]; exact HR.out.sa)
        have hsb := Lib.hid (show Srt K (B1 ++ B2) by rw [← HAB.out.2]; exact HR.out.sb)
        have HFIN := Lib.hid (show ∀ M1 M2, Merged K A1 B1 M1 → Merged K A2 B2 M2 → Merged K A B (M1 ++ M2) by
          intro M1 M2 hm1 hm2
          rw [HAB.out.1, HAB.out.2]
          exact hm1.of_two hm2 hsa.out hsb.out HBF.out.1 HBF.out.2)
        have HX1 := Lib.hid (show InR n (A1 ++ B1) from fun z hz => HIN.out z (by rw [HAB.out.1, HAB.out.2]; rcases List.mem_append.1 hz with h | h <;> simp [h]))
        have HX2 := Lib.hid (show InR n (A2 ++ B2) from fun z hz => HIN.out z (by rw [HAB.out.1, HAB.out.2]; rcases List.mem_append.1 hz with h | h <;> simp [h]))
        have HI1 := Lib.hid (show Ix A1 B1 from fun z hz u hu => HR.out.ix z (by rw [HAB.out.1]; exact List.mem_append_left _ hz) u (by rw [HAB.out.2]; exact List.mem_append_left _ hu))
        have HI2 := Lib.hid (show Ix A2 B2 from fun z hz u hu => HR.out.ix z (by rw [HAB.out.1]; exact List.mem_append_right _ hz) u (by rw [HAB.out.2]; exact List.mem_append_right _ hu))
        have hs0 := HS.out
        rw [HEQ.out] at hs0
        have HS0 := Lib.hid hs0
        clear hs0 HS hlt hij hjm HBH HSR g2
        rcases (show (i < m ∧ m < stop) ∨ m ≤ i ∨ (i < m ∧ stop ≤ m) by omega) with ⟨c1, c2⟩ | c1 | ⟨c1, c2⟩
        · have CR := rotate g W0 (P ++ A1) A2 B1 (B2 ++ S) i m stop N c (.func (.func fid) #[] caps) HPA.out y4 HL.out.2 (by omega) (by omega) HLN.out h1 wr HS0.out
          have HCR := Lib.hid CR
          have d1 : decide ((i : Int) < (m : Int)) = true := by simp; omega
          have d2 : decide ((m : Int) < (stop : Int)) = true := by simp; omega
          clear CR HS0
          go_wp2_with fail
          refine HCR.out.mono ?_
          rintro e w1 ⟨rfl, hs1⟩
          have HS1 := Lib.hid (show StS g W0 w1 (P ++ A1 ++ B1 ++ (A2 ++ B2 ++ S)) by simpa using hs1)
          clear hs1 HCR d1 d2
          go_upto_region 41 with (fail)
          rcases (show (a < i ∧ i < mid) ∨ i ≤ a ∨ (a < i ∧ mid ≤ i) by omega) with ⟨z1, z2⟩ | z1 | ⟨z1, z2⟩
          · have hlen1 : (P ++ A1 ++ B1 ++ (A2 ++ B2 ++ S)).length = N := by have := HLN.out; simp at this ⊢; omega
            have CR := HIH.out (P ++ A1 ++ B1 ++ (A2 ++ B2 ++ S)) P A1 B1 (A2 ++ B2 ++ S) a i mid (by omega) ⟨rfl, HR.out.ha, hi0, y1, srt_left hsa.out, srt_left hsb.out, HI1.out⟩ (by omega) (by omega) hlen1 HX1.out w1 HS1.out
            have HCR := Lib.hid CR
            have d1 : decide ((a : Int) < (i : Int)) = true := by simp; omega
            have d2 : decide ((i : Int) < (mid : Int)) = true := by simp; omega
            clear CR HS1 hlen1
            go_wp2_with fail
            refine HCR.out.mono ?_
            rintro e w2 ⟨M1, hm1, rfl, hs2⟩
            have HM1 := Lib.hid hm1
            have HS2 := Lib.hid (show StS g W0 w2 (P ++ M1 ++ A2 ++ B2 ++ S) by simpa using hs2)
            clear hs2 HCR d1 d2 hm1
            go_upto_region 43 with (fail)
            have hpm : (P ++ M1).length = mid := by rw [List.length_append, HM1.out.len, HR.out.ha]; omega
            have hlen2 : (P ++ M1 ++ A2 ++ B2 ++ S).length = N := by have := HLN.out; have := HM1.out.len; simp at *; omega
            rcases (show (mid < stop ∧ stop < b) ∨ stop ≤ mid ∨ (mid < stop ∧ b ≤ stop) by omega) with ⟨x1, x2⟩ | x1 | ⟨x1, x2⟩
            · have CR := HIH.out (P ++ M1 ++ A2 ++ B2 ++ S) (P ++ M1) A2 B2 S mid stop b (by omega) ⟨rfl, hpm, y2, y3, srt_right hsa.out, srt_right hsb.out, HI2.out⟩ (by omega) (by omega) hlen2 HX2.out w2 HS2.out
              have HCR := Lib.hid CR
              have d1 : decide ((mid : Int) < (stop : Int)) = true := by simp; omega
              have d2 : decide ((stop : Int) < (b : Int)) = true := by simp; omega
              clear CR HS2 hlen2 hpm
              go_wp2_with fail
              refine HCR.out.mono ?_
              rintro e w3 ⟨M2, hm2, rfl, hs3⟩
              have HM2 := Lib.hid hm2
              have HS3 := Lib.hid (show StS g W0 w3 (P ++ (M1 ++ M2) ++ S) by simpa using hs3)
              clear hs3 HCR hm2
              go_wp2_with fail
              go_end0
              exact ⟨_, HFIN.out _ _ HM1.out HM2.out, rfl, HS3.out⟩
            · have d1 : decide ((mid : Int) < (stop : Int)) = false := by simp; omega
              have d2 : decide (mid < stop) = false := by simp; omega
              have ha2 : A2 = [] := List.eq_nil_of_length_eq_zero (by omega)
              have HM2 := Lib.hid (show Merged K A2 B2 B2 by rw [ha2]; exact merged_nil_left (srt_right hsb.out))
              have HS3 := Lib.hid (show StS g W0 w2 (P ++ (M1 ++ B2) ++ S) by have := HS2.out; rw [ha2] at this; simpa using this)
              clear ha2 HS2 hlen2 hpm
              go_wp2_with fail
              go_end0
              exact ⟨_, HFIN.out _ _ HM1.out HM2.out, rfl, HS3.out⟩
            · have d1 : decide ((mid : Int) < (stop : Int)) = true := by simp; omega
              have d2 : decide ((stop : Int) < (b : Int)) = false := by simp; omega
              have d3 : decide (stop < b) = false := by simp; omega
              have hb2 : B2 = [] := List.eq_nil_of_length_eq_zero (by omega)
              have HM2 := Lib.hid (show Merged K A2 B2 A2 by rw [hb2]; exact merged_nil_right (srt_right hsa.out))
              have HS3 := Lib.hid (show StS g W0 w2 (P ++ (M1 ++ A2) ++ S) by have := HS2.out; rw [hb2] at this; simpa using this)
              clear hb2 HS2 hlen2 hpm
              go_wp2_with fail
              go_end0
              exact ⟨_, HFIN.out _ _ HM1.out HM2.out, rfl, HS3.out⟩
          · have d1 : decide ((a : Int) < (i : Int)) = false := by simp; omega
            have d2 : decide (a < i) = false := by simp; omega
            have HM1 := Lib.hid (show Merged K A1 B1 (A1 ++ B1) by
              have ha1 : A1 = [] := List.eq_nil_of_length_eq_zero (by omega)
              rw [ha1]; simpa using merged_nil_left (srt_left hsb.out))
            obtain ⟨M1, hM1⟩ : ∃ M1, M1 = A1 ++ B1 := ⟨_, rfl⟩
            have HS2 := Lib.hid (show StS g W0 w1 (P ++ M1 ++ A2 ++ B2 ++ S) by rw [hM1]; simpa using HS1.out)
            rw [← hM1] at HM1
            obtain ⟨w2, rfl⟩ : ∃ w2 : World, w2 = w1 := ⟨_, rfl⟩
            clear hM1 HS1
            go_upto_region 43 with (fail)
            clear d1 d2
            have hpm : (P ++ M1).length = mid := by rw [List.length_append, HM1.out.len, HR.out.ha]; omega
            have hlen2 : (P ++ M1 ++ A2 ++ B2 ++ S).length = N := by have := HLN.out; have := HM1.out.len; simp at *; omega
            rcases (show (mid < stop ∧ stop < b) ∨ stop ≤ mid ∨ (mid < stop ∧ b ≤ stop) by omega) with ⟨x1, x2⟩ | x1 | ⟨x1, x2⟩
            · have CR := HIH.out (P ++ M1 ++ A2 ++ B2 ++ S) (P ++ M1) A2 B2 S mid stop b (by omega) ⟨rfl, hpm, y2, y3, srt_right hsa.out, srt_right hsb.out, HI2.out⟩ (by omega) (by omega) hlen2 HX2.out w2 HS2.out
              have HCR := Lib.hid CR
              have d1 : decide ((mid : Int) < (stop : Int)) = true := by simp; omega
              have d2 : decide ((stop : Int) < (b : Int)) = true := by simp; omega
              clear CR HS2 hlen2 hpm
              go_wp2_with fail
              refine HCR.out.mono ?_
              rintro e w3 ⟨M2, hm2, rfl, hs3⟩
              have HM2 := Lib.hid hm2
              have HS3 := Lib.hid (show StS g W0 w3 (P ++ (M1 ++ M2) ++ S) by simpa using hs3)
              clear hs3 HCR hm2
              go_wp2_with fail
              go_end0
              exact ⟨_, HFIN.out _ _ HM1.out HM2.out, rfl, HS3.out⟩
            · have d1 : decide ((mid : Int) < (stop : Int)) = false := by simp; omega
              have d2 : decide (mid < stop) = false := by simp; omega
              have ha2 : A2 = [] := List.eq_nil_of_length_eq_zero (by omega)
              have HM2 := Lib.hid (show Merged K A2 B2 B2 by rw [ha2]; exact merged_nil_left (srt_right hsb.out))
              have HS3 := Lib.hid (show StS g W0 w2 (P ++ (M1 ++ B2) ++ S) by have := HS2.out; rw [ha2] at this; simpa using this)
              clear ha2 HS2 hlen2 hpm
              go_wp2_with fail
              go_end0
              exact ⟨_, HFIN.out _ _ HM1.out HM2.out, rfl, HS3.out⟩
            · have d1 : decide ((mid : Int) < (stop : Int)) = true := by simp; omega
              have d2 : decide ((stop : Int) < (b : Int)) = false := by simp; omega
              have d3 : decide (stop < b) = false := by simp; omega
              have hb2 : B2 = [] := List.eq_nil_of_length_eq_zero (by omega)
              have HM2 := Lib.hid (show Merged K A2 B2 A2 by rw [hb2]; exact merged_nil_right (srt_right hsa.out))
              have HS3 := Lib.hid (show StS g W0 w2 (P ++ (M1 ++ A2) ++ S) by have := HS2.out; rw [hb2] at this; simpa using this)
              clear hb2 HS2 hlen2 hpm
              go_wp2_with fail
              go_end0
              exact ⟨_, HFIN.out _ _ HM1.out HM2.out, rfl, HS3.out⟩
          · have d1 : decide ((a : Int) < (i : Int)) = true := by simp; omega
            have d2 : decide ((i : Int) < (mid : Int)) = false := by simp; omega
            have d3 : decide (i < mid) = false := by simp; omega
            have HM1 := Lib.hid (show Merged K A1 B1 (A1 ++ B1) by
              have hb1 : B1 = [] := List.eq_nil_of_length_eq_zero (by omega)
              rw [hb1]; simpa using merged_nil_right (srt_left hsa.out))
            obtain ⟨M1, hM1⟩ : ∃ M1, M1 = A1 ++ B1 := ⟨_, rfl⟩
            have HS2 := Lib.hid (show StS g W0 w1 (P ++ M1 ++ A2 ++ B2 ++ S) by rw [hM1]; simpa using HS1.out)
            rw [← hM1] at HM1
            obtain ⟨w2, rfl⟩ : ∃ w2 : World, w2 = w1 := ⟨_, rfl⟩
            clear hM1 HS1
            go_upto_region 43 with (fail)
            clear d1 d2 d3
            have hpm : (P ++ M1).length = mid := by rw [List.length_append, HM1.out.len, HR.out.ha]; omega
            have hlen2 : (P ++ M1 ++ A2 ++ B2 ++ S).length = N := by have := HLN.out; have := HM1.out.len; simp at *; omega
            rcases (show (mid < stop ∧ stop < b) ∨ stop ≤ mid ∨ (mid < stop ∧ b ≤ stop) by omega) with ⟨x1, x2⟩ | x1 | ⟨x1, x2⟩
            · have CR := HIH.out (P ++ M1 ++ A2 ++ B2 ++ S) (P ++ M1) A2 B2 S mid stop b (by omega) ⟨rfl, hpm, y2, y3, srt_right hsa.out, srt_right hsb.out, HI2.out⟩ (by omega) (by omega) hlen2 HX2.out w2 HS2.out
              have HCR := Lib.hid CR
              have d1 : decide ((mid : Int) < (stop : Int)) = true := by simp; omega
              have d2 : decide ((stop : Int) < (b : Int)) = true := by simp; omega
              clear CR HS2 hlen2 hpm
              go_wp2_with fail
              refine HCR.out.mono ?_
              rintro e w3 ⟨M2, hm2, rfl, hs3⟩
              have HM2 := Lib.hid hm2
              have HS3 := Lib.hid (show StS g W0 w3 (P ++ (M1 ++ M2) ++ S) by simpa using hs3)
              clear hs3 HCR hm2
              go_wp2_with fail
              go_end0
              exact ⟨_, HFIN.out _ _ HM1.out HM2.out, rfl, HS3.out⟩
            · have d1 : decide ((mid : Int) < (stop : Int)) = false := by simp; omega
              have d2 : decide (mid < stop) = false := by simp; omega
              have ha2 : A2 = [] := List.eq_nil_of_length_eq_zero (by omega)
              have HM2 := Lib.hid (show Merged K A2 B2 B2 by rw [ha2]; exact merged_nil_left (srt_right hsb.out))
              have HS3 := Lib.hid (show StS g W0 w2 (P ++ (M1 ++ B2) ++ S) by have := HS2.out; rw [ha2] at this; simpa using this)
              clear ha2 HS2 hlen2 hpm
              go_wp2_with fail
              go_end0
              exact ⟨_, HFIN.out _ _ HM1.out HM2.out, rfl, HS3.out⟩
            · have d1 : decide ((mid : Int) < (stop : Int)) = true := by simp; omega
              have d2 : decide ((stop : Int) < (b : Int)) = false := by simp; omega
              have d3 : decide (stop < b) = false := by simp; omega
              have hb2 : B2 = [] := List.eq_nil_of_length_eq_zero (by omega)
              have HM2 := Lib.hid (show Merged K A2 B2 A2 by rw [hb2]; exact merged_nil_right (srt_right hsa.out))
              have HS3 := Lib.hid (show StS g W0 w2 (P ++ (M1 ++ A2) ++ S) by have := HS2.out; rw [hb2] at this; simpa using this)
              clear hb2 HS2 hlen2 hpm
              go_wp2_with fail
              go_end0
              exact ⟨_, HFIN.out _ _ HM1.out HM2.out, rfl, HS3.out⟩
        · have d1 : decide ((i : Int) < (m : Int)) = false := by simp; omega
          have d2 : decide (i < m) = false := by simp; omega
          have HS1 := Lib.hid (show StS g W0 wr (P ++ A1 ++ B1 ++ (A2 ++ B2 ++ S)) by
            have ha2 : A2 = [] := List.eq_nil_of_length_eq_zero (by omega)
            have := HS0.out
            rw [ha2] at this ⊢
            simpa using this)
          obtain ⟨w1, rfl⟩ : ∃ w1 : World, w1 = wr := ⟨_, rfl⟩
          clear HS0
          go_upto_region 41 with (fail)
          clear d1 d2
          rcases (show (a < i ∧ i < mid) ∨ i ≤ a ∨ (a < i ∧ mid ≤ i) by omega) with ⟨z1, z2⟩ | z1 | ⟨z1, z2⟩
          · have hlen1 : (P ++ A1 ++ B1 ++ (A2 ++ B2 ++ S)).length = N := by have := HLN.out; simp at this ⊢; omega
            have CR := HIH.out (P ++ A1 ++ B1 ++ (A2 ++ B2 ++ S)) P A1 B1 (A2 ++ B2 ++ S) a i mid (by omega) ⟨rfl, HR.out.ha, hi0, y1, srt_left hsa.out, srt_left hsb.out, HI1.out⟩ (by omega) (by omega) hlen1 HX1.out w1 HS1.out
            have HCR := Lib.hid CR
            have d1 : decide ((a : Int) < (i : Int)) = true := by simp; omega
            have d2 : decide ((i : Int) < (mid : Int)) = true := by simp; omega
            clear CR HS1 hlen1
            go_wp2_with fail
            refine HCR.out.mono ?_
            rintro e w2 ⟨M1, hm1, rfl, hs2⟩
            have HM1 := Lib.hid hm1
            have HS2 := Lib.hid (show StS g W0 w2 (P ++ M1 ++ A2 ++ B2 ++ S) by simpa using hs2)
            clear hs2 HCR d1 d2 hm1
            go_upto_region 43 with (fail)
            have hpm : (P ++ M1).length = mid := by rw [List.length_append, HM1.out.len, HR.out.ha]; omega
            have hlen2 : (P ++ M1 ++ A2 ++ B2 ++ S).length = N := by have := HLN.out; have := HM1.out.len; simp at *; omega
            rcases (show (mid < stop ∧ stop < b) ∨ stop ≤ mid ∨ (mid < stop ∧ b ≤ stop) by omega) with ⟨x1, x2⟩ | x1 | ⟨x1, x2⟩
            · have CR := HIH.out (P ++ M1 ++ A2 ++ B2 ++ S) (P ++ M1) A2 B2 S mid stop b (by omega) ⟨rfl, hpm, y2, y3, srt_right hsa.out, srt_right hsb.out, HI2.out⟩ (by omega) (by omega) hlen2 HX2.out w2 HS2.out
              have HCR := Lib.hid CR
              have d1 : decide ((mid : Int) < (stop : Int)) = true := by simp; omega
              have d2 : decide ((stop : Int) < (b : Int)) = true := by simp; omega
              clear CR HS2 hlen2 hpm
              go_wp2_with fail
              refine HCR.out.mono ?_
              rintro e w3 ⟨M2, hm2, rfl, hs3⟩
              have HM2 := Lib.hid hm2
              have HS3 := Lib.hid (show StS g W0 w3 (P ++ (M1 ++ M2) ++ S) by simpa using hs3)
              clear hs3 HCR hm2
              go_wp2_with fail
              go_end0
              exact ⟨_, HFIN.out _ _ HM1.out HM2.out, rfl, HS3.out⟩
            · have d1 : decide ((mid : Int) < (stop : Int)) = false := by simp; omega
              have d2 : decide (mid < stop) = false := by simp; omega
              have ha2 : A2 = [] := List.eq_nil_of_length_eq_zero (by omega)
              have HM2 := Lib.hid (show Merged K A2 B2 B2 by rw [ha2]; exact merged_nil_left (srt_right hsb.out))
              have HS3 := Lib.hid (show StS g W0 w2 (P ++ (M1 ++ B2) ++ S) by have := HS2.out; rw [ha2] at this; simpa using this)
              clear ha2 HS2 hlen2 hpm
              go_wp2_with fail
              go_end0
              exact ⟨_, HFIN.out _ _ HM1.out HM2.out, rfl, HS3.out⟩
            · have d1 : decide ((mid : Int) < (stop : Int)) = true := by simp; omega
              have d2 : decide ((stop : Int) < (b : Int)) = false := by simp; omega
              have d3 : decide (stop < b) = false := by simp; omega
              have hb2 : B2 = [] := List.eq_nil_of_length_eq_zero (by omega)
              have HM2 := Lib.hid (show Merged K A2 B2 A2 by rw [hb2]; exact merged_nil_right (srt_right hsa.out))
              have HS3 := Lib.hid (show StS g W0 w2 (P ++ (M1 ++ A2) ++ S) by have := HS2.out; rw [hb2] at this; simpa using this)
              clear hb2 HS2 hlen2 hpm
              go_wp2_with fail
              go_end0
              exact ⟨_, HFIN.out _ _ HM1.out HM2.out, rfl, HS3.out⟩
          · have d1 : decide ((a : Int) < (i : Int)) = false := by simp; omega
            have d2 : decide (a < i) = false := by simp; omega
            have HM1 := Lib.hid (show Merged K A1 B1 (A1 ++ B1) by
              have ha1 : A1 = [] := List.eq_nil_of_length_eq_zero (by omega)
              rw [ha1]; simpa using merged_nil_left (srt_left hsb.out))
            obtain ⟨M1, hM1⟩ : ∃ M1, M1 = A1 ++ B1 := ⟨_, rfl⟩
            have HS2 := Lib.hid (show StS g W0 w1 (P ++ M1 ++ A2 ++ B2 ++ S) by rw [hM1]; simpa using HS1.out)
            rw [← hM1] at HM1
            obtain ⟨w2, rfl⟩ : ∃ w2 : World, w2 = w1 := ⟨_, rfl⟩
            clear hM1 HS1
            go_upto_region 43 with (fail)
            clear d1 d2
            have hpm : (P ++ M1).length = mid := by rw [List.length_append, HM1.out.len, HR.out.ha]; omega
            have hlen2 : (P ++ M1 ++ A2 ++ B2 ++ S).length = N := by have := HLN.out; have := HM1.out.len; simp at *; omega
            rcases (show (mid < stop ∧ stop < b) ∨ stop ≤ mid ∨ (mid < stop ∧ b ≤ stop) by omega) with ⟨x1, x2⟩ | x1 | ⟨x1, x2⟩
            · have CR := HIH.out (P ++ M1 ++ A2 ++ B2 ++ S) (P ++ M1) A2 B2 S mid stop b (by omega) ⟨rfl, hpm, y2, y3, srt_right hsa.out, srt_right hsb.out, HI2.out⟩ (by omega) (by omega) hlen2 HX2.out w2 HS2.out
              have HCR := Lib.hid CR
              have d1 : decide ((mid : Int) < (stop : Int)) = true := by simp; omega
              have d2 : decide ((stop : Int) < (b : Int)) = true := by simp; omega
              clear CR HS2 hlen2 hpm
              go_wp2_with fail
              refine HCR.out.mono ?_
              rintro e w3 ⟨M2, hm2, rfl, hs3⟩
              have HM2 := Lib.hid hm2
              have HS3 := Lib.hid (show StS g W0 w3 (P ++ (M1 ++ M2) ++ S) by simpa using hs3)
              clear hs3 HCR hm2
              go_wp2_with fail
              go_end0
              exact ⟨_, HFIN.out _ _ HM1.out HM2.out, rfl, HS3.out⟩
            · have d1 : decide ((mid : Int) < (stop : Int)) = false := by simp; omega
              have d2 : decide (mid < stop) = false := by simp; omega
              have ha2 : A2 = [] := List.eq_nil_of_length_eq_zero (by omega)
              have HM2 := Lib.hid (show Merged K A2 B2 B2 by rw [ha2]; exact merged_nil_left (srt_right hsb.out))
              have HS3 := Lib.hid (show StS g W0 w2 (P ++ (M1 ++ B2) ++ S) by have := HS2.out; rw [ha2] at this; simpa using this)
              clear ha2 HS2 hlen2 hpm
              go_wp2_with fail
              go_end0
              exact ⟨_, HFIN.out _ _ HM1.out HM2.out, rfl, HS3.out⟩
            · have d1 : decide ((mid : Int) < (stop : Int)) = true := by simp; omega
              have d2 : decide ((stop : Int) < (b : Int)) = false := by simp; omega
              have d3 : decide (stop < b) = false := by simp; omega
              have hb2 : B2 = [] := List.eq_nil_of_length_eq_zero (by omega)
              have HM2 := Lib.hid (show Merged K A2 B2 A2 by rw [hb2]; exact merged_nil_right (srt_right hsa.out))
              have HS3 := Lib.hid (show StS g W0 w2 (P ++ (M1 ++ A2) ++ S) by have := HS2.out; rw [hb2] at this; simpa using this)
              clear hb2 HS2 hlen2 hpm
              go_wp2_with fail
              go_end0
              exact ⟨_, HFIN.out _ _ HM1.out HM2.out, rfl, HS3.out⟩
          · have d1 : decide ((a : Int) < (i : Int)) = true := by simp; omega
            have d2 : decide ((i : Int) < (mid : Int)) = false := by simp; omega
            have d3 : decide (i < mid) = false := by simp; omega
            have HM1 := Lib.hid (show Merged K A1 B1 (A1 ++ B1) by
              have hb1 : B1 = [] := List.eq_nil_of_length_eq_zero (by omega)
              rw [hb1]; simpa using merged_nil_right (srt_left hsa.out))
            obtain ⟨M1, hM1⟩ : ∃ M1, M1 = A1 ++ B1 := ⟨_, rfl⟩
            have HS2 := Lib.hid (show StS g W0 w1 (P ++ M1 ++ A2 ++ B2 ++ S) by rw [hM1]; simpa using HS1.out)
            rw [← hM1] at HM1
            obtain ⟨w2, rfl⟩ : ∃ w2 : World, w2 = w1 := ⟨_, rfl⟩
            clear hM1 HS1
            go_upto_region 43 with (fail)
            clear d1 d2 d3
            have hpm : (P ++ M1).length = mid := by rw [List.length_append, HM1.out.len, HR.out.ha]; omega
            have hlen2 : (P ++ M1 ++ A2 ++ B2 ++ S).length = N := by have := HLN.out; have := HM1.out.len; simp at *; omega
            rcases (show (mid < stop ∧ stop < b) ∨ stop ≤ mid ∨ (mid < stop ∧ b ≤ stop) by omega) with ⟨x1, x2⟩ | x1 | ⟨x1, x2⟩
            · have CR := HIH.out (P ++ M1 ++ A2 ++ B2 ++ S) (P ++ M1) A2 B2 S mid stop b (by omega) ⟨rfl, hpm, y2, y3, srt_right hsa.out, srt_right hsb.out, HI2.out⟩ (by omega) (by omega) hlen2 HX2.out w2 HS2.out
              have HCR := Lib.hid CR
              have d1 : decide ((mid : Int) < (stop : Int)) = true := by simp; omega
              have d2 : decide ((stop : Int) < (b : Int)) = true := by simp; omega
              clear CR HS2 hlen2 hpm
              go_wp2_with fail
              refine HCR.out.mono ?_
              rintro e w3 ⟨M2, hm2, rfl, hs3⟩
              have HM2 := Lib.hid hm2
              have HS3 := Lib.hid (show StS g W0 w3 (P ++ (M1 ++ M2) ++ S) by simpa using hs3)
              clear hs3 HCR hm2
              go_wp2_with fail
              go_end0
              exact ⟨_, HFIN.out _ _ HM1.out HM2.out, rfl, HS3.out⟩
            · have d1 : decide ((mid : Int) < (stop : Int)) = false := by simp; omega
              have d2 : decide (mid < stop) = false := by simp; omega
              have ha2 : A2 = [] := List.eq_nil_of_length_eq_zero (by omega)
              have HM2 := Lib.hid (show Merged K A2 B2 B2 by rw [ha2]; exact merged_nil_left (srt_right hsb.out))
              have HS3 := Lib.hid (show StS g W0 w2 (P ++ (M1 ++ B2) ++ S) by have := HS2.out; rw [ha2] at this; simpa using this)
              clear ha2 HS2 hlen2 hpm
              go_wp2_with fail
              go_end0
              exact ⟨_, HFIN.out _ _ HM1.out HM2.out, rfl, HS3.out⟩
            · have d1 : decide ((mid : Int) < (stop : Int)) = true := by simp; omega
              have d2 : decide ((stop : Int) < (b : Int)) = false := by simp; omega
              have d3 : decide (stop < b) = false := by simp; omega
              have hb2 : B2 = [] := List.eq_nil_of_length_eq_zero (by omega)
              have HM2 := Lib.hid (show Merged K A2 B2 A2 by rw [hb2]; exact merged_nil_right (srt_right hsa.out))
              have HS3 := Lib.hid (show StS g W0 w2 (P ++ (M1 ++ A2) ++ S) by have := HS2.out; rw [hb2] at this; simpa using this)
              clear hb2 HS2 hlen2 hpm
              go_wp2_with fail
              go_end0
              exact ⟨_, HFIN.out _ _ HM1.out HM2.out, rfl, HS3.out⟩
        · have d1 : decide ((i : Int) < (m : Int)) = true := by simp; omega
          have d2 : decide ((m : Int) < (stop : Int)) = false := by simp; omega
          have d3 : decide (m < stop) = false := by simp; omega
          have HS1 := Lib.hid (show StS g W0 wr (P ++ A1 ++ B1 ++ (A2 ++ B2 ++ S)) by
            have hb1 : B1 = [] := List.eq_nil_of_length_eq_zero (by have := HL.out.2; omega)
            have := HS0.out
            rw [hb1] at this ⊢
            simpa using this)
          obtain ⟨w1, rfl⟩ : ∃ w1 : World, w1 = wr := ⟨_, rfl⟩
          clear HS0
          go_upto_region 41 with (fail)
          clear d1 d2 d3
          rcases (show (a < i ∧ i < mid) ∨ i ≤ a ∨ (a < i ∧ mid ≤ i) by omega) with ⟨z1, z2⟩ | z1 | ⟨z1, z2⟩
          · have hlen1 : (P ++ A1 ++ B1 ++ (A2 ++ B2 ++ S)).length = N := by have := HLN.out; simp at this ⊢; omega
            have CR := HIH.out (P ++ A1 ++ B1 ++ (A2 ++ B2 ++ S)) P A1 B1 (A2 ++ B2 ++ S) a i mid (by omega) ⟨rfl, HR.out.ha, hi0, y1, srt_left hsa.out, srt_left hsb.out, HI1.out⟩ (by omega) (by omega) hlen1 HX1.out w1 HS1.out
            have HCR := Lib.hid CR
            have d1 : decide ((a : Int) < (i : Int)) = true := by simp; omega
            have d2 : decide ((i : Int) < (mid : Int)) = true := by simp; omega
            clear CR HS1 hlen1
            go_wp2_with fail
            refine HCR.out.mono ?_
            rintro e w2 ⟨M1, hm1, rfl, hs2⟩
            have HM1 := Lib.hid hm1
            have HS2 := Lib.hid (show StS g W0 w2 (P ++ M1 ++ A2 ++ B2 ++ S) by simpa using hs2)
            clear hs2 HCR d1 d2 hm1
            go_upto_region 43 with (fail)
            have hpm : (P ++ M1).length = mid := by rw [List.length_append, HM1.out.len, HR.out.ha]; omega
            have hlen2 : (P ++ M1 ++ A2 ++ B2 ++ S).length = N := by have := HLN.out; have := HM1.out.len; simp at *; omega
            rcases (show (mid < stop ∧ stop < b) ∨ stop ≤ mid ∨ (mid < stop ∧ b ≤ stop) by omega) with ⟨x1, x2⟩ | x1 | ⟨x1, x2⟩
            · have CR := HIH.out (P ++ M1 ++ A2 ++ B2 ++ S) (P ++ M1) A2 B2 S mid stop b (by omega) ⟨rfl, hpm, y2, y3, srt_right hsa.out, srt_right hsb.out, HI2.out⟩ (by omega) (by omega) hlen2 HX2.out w2 HS2.out
              have HCR := Lib.hid CR
              have d1 : decide ((mid : Int) < (stop : Int)) = true := by simp; omega
              have d2 : decide ((stop : Int) < (b : Int)) = true := by simp; omega
              clear CR HS2 hlen2 hpm
              go_wp2_with fail
              refine HCR.out.mono ?_
              rintro e w3 ⟨M2, hm2, rfl, hs3⟩
              have HM2 := Lib.hid hm2
              have HS3 := Lib.hid (show StS g W0 w3 (P ++ (M1 ++ M2) ++ S) by simpa using hs3)
              clear hs3 HCR hm2
              go_wp2_with fail
              go_end0
              exact ⟨_, HFIN.out _ _ HM1.out HM2.out, rfl, HS3.out⟩
            · have d1 : decide ((mid : Int) < (stop : Int)) = false := by simp; omega
              have d2 : decide (mid < stop) = false := by simp; omega
              have ha2 : A2 = [] := List.eq_nil_of_length_eq_zero (by omega)
              have HM2 := Lib.hid (show Merged K A2 B2 B2 by rw [ha2]; exact merged_nil_left (srt_right hsb.out))
              have HS3 := Lib.hid (show StS g W0 w2 (P ++ (M1 ++ B2) ++ S) by have := HS2.out; rw [ha2] at this; simpa using this)
              clear ha2 HS2 hlen2 hpm
              go_wp2_with fail
              go_end0
              exact ⟨_, HFIN.out _ _ HM1.out HM2.out, rfl, HS3.out⟩
            · have d1 : decide ((mid : Int) < (stop : Int)) = true := by simp; omega
              have d2 : decide ((stop : Int) < (b : Int)) = false := by simp; omega
              have d3 : decide (stop < b) = false := by simp; omega
              have hb2 : B2 = [] := List.eq_nil_of_length_eq_zero (by omega)
              have HM2 := Lib.hid (show Merged K A2 B2 A2 by rw [hb2]; exact merged_nil_right (srt_right hsa.out))
              have HS3 := Lib.hid (show StS g W0 w2 (P ++ (M1 ++ A2) ++ S) by have := HS2.out; rw [hb2] at this; simpa using this)
              clear hb2 HS2 hlen2 hpm
              go_wp2_with fail
              go_end0
              exact ⟨_, HFIN.out _ _ HM1.out HM2.out, rfl, HS3.out⟩
          · have d1 : decide ((a : Int) < (i : Int)) = false := by simp; omega
            have d2 : decide (a < i) = false := by simp; omega
            have HM1 := Lib.hid (show Merged K A1 B1 (A1 ++ B1) by
              have ha1 : A1 = [] := List.eq_nil_of_length_eq_zero (by omega)
              rw [ha1]; simpa using merged_nil_left (srt_left hsb.out))
            obtain ⟨M1, hM1⟩ : ∃ M1, M1 = A1 ++ B1 := ⟨_, rfl⟩
            have HS2 := Lib.hid (show StS g W0 w1 (P ++ M1 ++ A2 ++ B2 ++ S) by rw [hM1]; simpa using HS1.out)
            rw [← hM1] at HM1
            obtain ⟨w2, rfl⟩ : ∃ w2 : World, w2 = w1 := ⟨_, rfl⟩
            clear hM1 HS1
            go_upto_region 43 with (fail)
            clear d1 d2
            have hpm : (P ++ M1).length = mid := by rw [List.length_append, HM1.out.len, HR.out.ha]; omega
            have hlen2 : (P ++ M1 ++ A2 ++ B2 ++ S).length = N := by have := HLN.out; have := HM1.out.len; simp at *; omega
            rcases (show (mid < stop ∧ stop < b) ∨ stop ≤ mid ∨ (mid < stop ∧ b ≤ stop) by omega) with ⟨x1, x2⟩ | x1 | ⟨x1, x2⟩
            · have CR := HIH.out (P ++ M1 ++ A2 ++ B2 ++ S) (P ++ M1) A2 B2 S mid stop b (by omega) ⟨rfl, hpm, y2, y3, srt_right hsa.out, srt_right hsb.out, HI2.out⟩ (by omega) (by omega) hlen2 HX2.out w2 HS2.out
              have HCR := Lib.hid CR
              have d1 : decide ((mid : Int) < (stop : Int)) = true := by simp; omega
              have d2 : decide ((stop : Int) < (b : Int)) = true := by simp; omega
              clear CR HS2 hlen2 hpm
              go_wp2_with fail
              refine HCR.out.mono ?_
              rintro e w3 ⟨M2, hm2, rfl, hs3⟩
              have HM2 := Lib.hid hm2
              have HS3 := Lib.hid (show StS g W0 w3 (P ++ (M1 ++ M2) ++ S) by simpa using hs3)
              clear hs3 HCR hm2
              go_wp2_with fail
              go_end0
              exact ⟨_, HFIN.out _ _ HM1.out HM2.out, rfl, HS3.out⟩
            · have d1 : decide ((mid : Int) < (stop : Int)) = false := by simp; omega
              have d2 : decide (mid < stop) = false := by simp; omega
              have ha2 : A2 = [] := List.eq_nil_of_length_eq_zero (by omega)
              have HM2 := Lib.hid (show Merged K A2 B2 B2 by rw [ha2]; exact merged_nil_left (srt_right hsb.out))
              have HS3 := Lib.hid (show StS g W0 w2 (P ++ (M1 ++ B2) ++ S) by have := HS2.out; rw [ha2] at this; simpa using this)
              clear ha2 HS2 hlen2 hpm
              go_wp2_with fail
              go_end0
              exact ⟨_, HFIN.out _ _ HM1.out HM2.out, rfl, HS3.out⟩
            · have d1 : decide ((mid : Int) < (stop : Int)) = true := by simp; omega
              have d2 : decide ((stop : Int) < (b : Int)) = false := by simp; omega
              have d3 : decide (stop < b) = false := by simp; omega
              have hb2 : B2 = [] := List.eq_nil_of_length_eq_zero (by omega)
              have HM2 := Lib.hid (show Merged K A2 B2 A2 by rw [hb2]; exact merged_nil_right (srt_right hsa.out))
              have HS3 := Lib.hid (show StS g W0 w2 (P ++ (M1 ++ A2) ++ S) by have := HS2.out; rw [hb2] at this; simpa using this)
              clear hb2 HS2 hlen2 hpm
              go_wp2_with fail
              go_end0
              exact ⟨_, HFIN.out _ _ HM1.out HM2.out, rfl, HS3.out⟩
          · have d1 : decide ((a : Int) < (i : Int)) = true := by simp; omega
            have d2 : decide ((i : Int) < (mid : Int)) = false := by simp; omega
            have d3 : decide (i < mid) = false := by simp; omega
            have HM1 := Lib.hid (show Merged K A1 B1 (A1 ++ B1) by
              have hb1 : B1 = [] := List.eq_nil_of_length_eq_zero (by omega)
              rw [hb1]; simpa using merged_nil_right (srt_left hsa.out))
            obtain ⟨M1, hM1⟩ : ∃ M1, M1 = A1 ++ B1 := ⟨_, rfl⟩
            have HS2 := Lib.hid (show StS g W0 w1 (P ++ M1 ++ A2 ++ B2 ++ S) by rw [hM1]; simpa using HS1.out)
            rw [← hM1] at HM1
            obtain ⟨w2, rfl⟩ : ∃ w2 : World, w2 = w1 := ⟨_, rfl⟩
            clear hM1 HS1
            go_upto_region 43 with (fail)
            clear d1 d2 d3
            have hpm : (P ++ M1).length = mid := by rw [List.length_append, HM1.out.len, HR.out.ha]; omega
            have hlen2 : (P ++ M1 ++ A2 ++ B2 ++ S).length = N := by have := HLN.out; have := HM1.out.len; simp at *; omega
            rcases (show (mid < stop ∧ stop < b) ∨ stop ≤ mid ∨ (mid < stop ∧ b ≤ stop) by omega) with ⟨x1, x2⟩ | x1 | ⟨x1, x2⟩
            · have CR := HIH.out (P ++ M1 ++ A2 ++ B2 ++ S) (P ++ M1) A2 B2 S mid stop b (by omega) ⟨rfl, hpm, y2, y3, srt_right hsa.out, srt_right hsb.out, HI2.out⟩ (by omega) (by omega) hlen2 HX2.out w2 HS2.out
              have HCR := Lib.hid CR
              have d1 : decide ((mid : Int) < (stop : Int)) = true := by simp; omega
              have d2 : decide ((stop : Int) < (b : Int)) = true := by simp; omega
              clear CR HS2 hlen2 hpm
              go_wp2_with fail
              refine HCR.out.mono ?_
              rintro e w3 ⟨M2, hm2, rfl, hs3⟩
              have HM2 := Lib.hid hm2
              have HS3 := Lib.hid (show StS g W0 w3 (P ++ (M1 ++ M2) ++ S) by simpa using hs3)
              clear hs3 HCR hm2
              go_wp2_with fail
              go_end0
              exact ⟨_, HFIN.out _ _ HM1.out HM2.out, rfl, HS3.out⟩
            · have d1 : decide ((mid : Int) < (stop : Int)) = false := by simp; omega
              have d2 : decide (mid < stop) = false := by simp; omega
              have ha2 : A2 = [] := List.eq_nil_of_length_eq_zero (by omega)
              have HM2 := Lib.hid (show Merged K A2 B2 B2 by rw [ha2]; exact merged_nil_left (srt_right hsb.out))
              have HS3 := Lib.hid (show StS g W0 w2 (P ++ (M1 ++ B2) ++ S) by have := HS2.out; rw [ha2] at this; simpa using this)
              clear ha2 HS2 hlen2 hpm
              go_wp2_with fail
              go_end0
              exact ⟨_, HFIN.out _ _ HM1.out HM2.out, rfl, HS3.out⟩
            · have d1 : decide ((mid : Int) < (stop : Int)) = true := by simp; omega
              have d2 : decide ((stop : Int) < (b : Int)) = false := by simp; omega
              have d3 : decide (stop < b) = false := by simp; omega
              have hb2 : B2 = [] := List.eq_nil_of_length_eq_zero (by omega)
              have HM2 := Lib.hid (show Merged K A2 B2 A2 by rw [hb2]; exact merged_nil_right (srt_right hsa.out))
              have HS3 := Lib.hid (show StS g W0 w2 (P ++ (M1 ++ A2) ++ S) by have := HS2.out; rw [hb2] at this; simpa using this)
              clear hb2 HS2 hlen2 hpm
              go_wp2_with fail
              go_end0
              exact ⟨_, HFIN.out _ _ HM1.out HM2.out, rfl, HS3.out⟩
end Go.Proofs.Ytlahmcbaiebapaa
