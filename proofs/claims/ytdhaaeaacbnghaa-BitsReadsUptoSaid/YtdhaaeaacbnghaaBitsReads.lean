/- The law BitsReads. -/
import Derived.Test.YtdhaaeaacbnghaaReadNat
import Derived.Test.YtdhaaeaacbnghaaBitsRef2
import Derived.Test.YtdhaaeaacbnghaaBitsOf
namespace Go.Proofs.Ytdhaaeaacbnghaa
open Go.ChangeShapes Go.WideShapes Go.ChangeAt Go.RowKit Go.Mem Go.Bp
set_option linter.unusedVariables false

/-- A reader and a list of bits side by side, of the call's own. -/
structure Two (w : World) (D : Nat) (l : List Int) (gr gb : Nat) (ar ab : Option Addr) (m cr M cb p : Nat) : Prop where
  rd : RdBlock w gr ar m cr p
  bs : BsBlock w gb ab M cb p
  ownR : w.ownsRow D 5 1 (.slice ar m cr) m (vints .u8 l)
  ownB : w.ownsRow D 4 1 (.slice ab M cb) M (vbools (bitsOf l))
  lenR : l.length = m
  lenB : (bitsOf l).length = M
  dr : D ≤ gr
  db : D ≤ gb
theorem block_ne {w : World} {base e size n g t m c : Nat} {a : Option Addr} {xs : List Value} {cs : Array Value} (h : w.ownsRow base e size (.slice a m c) n xs) (hg : w.heap[g]? = some (.cells cs t (0, 0))) (hne : e ≠ t) : ∀ x, a = some x → x.block ≠ g := by
  intro x hx he
  subst hx
  exact own_ne h hg hne x.block rfl (by rw [he])
theorem row_ne {w : World} {g g2 t t2 : Nat} {cs cs2 : Array Value} (h : w.heap[g]? = some (.cells cs t (0, 0))) (h2 : w.heap[g2]? = some (.cells cs2 t2 (0, 0))) (hne : t ≠ t2) : some g ≠ some g2 := by
  intro e
  injection e with e
  subst e
  rw [h] at h2
  injection h2 with h2
  injection h2 with _ h2
  exact hne h2
theorem Two.drewN {w : World} {D : Nat} {l : List Int} {gr gb : Nat} {ar ab : Option Addr} {m cr M cb p : Nat} (h : Two w D l gr gb ar ab m cr M cb p) (n : Nat) : Two (w.drewN n) D l gr gb ar ab m cr M cb p :=
  ⟨h.rd, h.bs, own_keep h.ownR fun _ _ => rfl, own_keep h.ownB fun _ _ => rfl, h.lenR, h.lenB, h.dr, h.db⟩
theorem Two.below {w w2 : World} {D : Nat} {l : List Int} {gr gb : Nat} {ar ab : Option Addr} {m cr M cb p : Nat} (h : Two w D l gr gb ar ab m cr M cb p) (hb : Below w.heap.size w w2) : Two w2 D l gr gb ar ab m cr M cb p :=
  ⟨heap_below h.rd hb, heap_below h.bs hb, own_below h.ownR hb, own_below h.ownB hb, h.lenR, h.lenB, h.dr, h.db⟩
theorem Two.len {w : World} {D : Nat} {l : List Int} {gr gb : Nat} {ar ab : Option Addr} {m cr M cb p : Nat} (h : Two w D l gr gb ar ab m cr M cb p) : M = 8 * m := by rw [← h.lenB, bitsOf_length, h.lenR]
/-- Both have moved on. -/
theorem Two.both {w w1 w2 : World} {D : Nat} {l : List Int} {gr gb : Nat} {ar ab : Option Addr} {m cr M cb p q : Nat} (h : Two w D l gr gb ar ab m cr M cb p)
    (hr : RdBlock w1 gr ar m cr q) (hg : w.grownBy w1 (some gr)) (hb : BsBlock w2 gb ab M cb q) (hg2 : w1.grownBy w2 (some gb)) : Two w2 D l gr gb ar ab m cr M cb q := by
  have b1 : BsBlock w1 gb ab M cb p := heap_gb h.bs hg (row_ne h.bs h.rd (by decide))
  have o1 := own_grown h.ownR hg (own_ne h.ownR h.rd (by decide))
  have o2 := own_grown h.ownB hg (own_ne h.ownB h.rd (by decide))
  exact ⟨heap_gb hr hg2 (row_ne hr b1 (by decide)), hb, own_grown o1 hg2 (own_ne o1 b1 (by decide)), own_grown o2 hg2 (own_ne o2 b1 (by decide)), h.lenR, h.lenB, h.dr, h.db⟩
theorem Two.mid {w w1 : World} {D : Nat} {l : List Int} {gr gb : Nat} {ar ab : Option Addr} {m cr M cb p : Nat} (h : Two w D l gr gb ar ab m cr M cb p) (hg : w.grownBy w1 (some gr)) : BsBlock w1 gb ab M cb p ∧ BoolsAt w1 ab (bitsOf l) := by
  have o2 := own_grown h.ownB hg (own_ne h.ownB h.rd (by decide))
  exact ⟨heap_gb h.bs hg (row_ne h.bs h.rd (by decide)), BoolsAt.of_own o2 h.lenB.symm⟩
theorem Two.under {w w1 w2 : World} {D B : Nat} {l : List Int} {gr gb : Nat} {ar ab : Option Addr} {m cr M cb p : Nat} (h : Two w D l gr gb ar ab m cr M cb p) (hB : B ≤ D) (hs : B ≤ w.heap.size) (hg : w.grownBy w1 (some gr)) (hg2 : w1.grownBy w2 (some gb)) : Below B w w2 :=
  (below_gb hg (Nat.le_trans hB h.dr) hs).trans (below_gb hg2 (Nat.le_trans hB h.db) (Nat.le_trans hs hg.size))

theorem reads_try : getR (bitsOf [6]) 0 2 = (2, 0, 2) := by decide +kernel
theorem by8_six : By8 [6] := by intro z hz; simp at hz; omega

set_option maxHeartbeats 16000000 in
set_option maxRecDepth 100000 in
theorem law_BitsReads (l : List Int) (a : Option Addr) (n cap : Nat) (zs : List Int) (b : Option Addr) (nb cb : Nat) (hl : l.length = n) (hn : n ≤ 1048576) (hu : By8 l) (hz : zs.length = nb * 2) (hnb : nb ≤ 1048576)
    (w : World) (hin : IntsAt .u8 w a l) (hzs : IntsAt .i64 w b zs) :
    Calls Try.prog 6 #[.slice a n cap, .slice b nb cb] w fun e w' => e = .returned (.bool true) ∧ Below w.heap.size w w' := by
  have HIN := Lib.hid hin
  have HZS := Lib.hid hzs
  have HL := Lib.hid hl
  have HU := Lib.hid hu
  have HZ := Lib.hid hz
  have hrow : IntsAt .u8 (w.alloc (.cells #[.int .u8 6] 5)) (some ⟨w.heap.size, 0, none⟩) [6] := by
    have : RowB (w.alloc (.cells #[.int .u8 6] 5)) w.heap.size 5 .u8 [6] := heap_alloc_new w _
    exact this.ints
  have CN := Lib.hid (bits_New [6] (some ⟨w.heap.size, 0, none⟩) 1 1 rfl (by omega) _ hrow)
  have hb0 : Below w.heap.size w (w.alloc (.cells #[.int .u8 6] 5)) := (Below.refl _ _).alloc (Nat.le_refl _) _
  clear hin hzs hl hu hz hrow
  go_enter Try.func6, Try.ntmps6
  go_wp2_with fail
  refine CN.out.mono ?_
  rintro e w1 ⟨g0, a0, c0, rfl, hrd, hown, hg0, hb1⟩
  have cg := rd_Get_any [6] g0 1 c0 0 2 a0 w1 rfl (by omega) (by omega) by8_six (IntsAt.of_own hown rfl) (block_ne hown hrd (by decide)) hrd
  rw [reads_try] at cg
  have CG := Lib.hid cg
  have hbA := hb0.trans (hb1.mono hb0.size)
  have hgA : w.heap.size ≤ g0 := Nat.le_trans hb0.size hg0
  clear cg hrd hown hg0 hb1 hb0
  go_wp2_with fail
  refine CG.out.mono ?_
  rintro e w2 ⟨rfl, _, hgb, hsz⟩
  have hbB := hbA.trans (below_gb hgb hgA hbA.size)
  clear hgb hsz hbA hgA
  have CN2 := Lib.hid (bits_New l a n cap HL.out (by omega) w2 (HIN.out.below hbB))
  go_wp2_with fail
  refine CN2.out.mono ?_
  rintro e w3 ⟨gr, ar, cr, rfl, hrd, hownR, hgr, hb3⟩
  have hbC := bt hbB hb3
  have HRD := Lib.hid hrd
  have HOR := Lib.hid hownR
  have CB := Lib.hid (ref_BitsOf l a n cap HL.out (by omega) HU.out w3 (HIN.out.below hbC))
  clear hrd hownR
  go_wp2_with fail
  refine CB.out.mono ?_
  rintro e w4 ⟨gb, ab, cbb, rfl, hbs, hownB, hgb, hb4⟩
  have hbD := bt hbC hb4
  have htwo : Two w4 w2.heap.size l gr gb ar ab l.length cr (bitsOf l).length cbb 0 :=
    ⟨heap_below HRD.out hb4, hbs, own_below HOR.out hb4, own_lower hownB hb3.size, rfl, rfl, hgr, Nat.le_trans hb3.size hgb⟩
  have HT := Lib.hid htwo
  obtain ⟨m, hm⟩ : ∃ m, m = l.length := ⟨_, rfl⟩
  obtain ⟨M, hM⟩ : ∃ M, M = (bitsOf l).length := ⟨_, rfl⟩
  have hmM : M = 8 * m := by rw [hM, hm, bitsOf_length]
  have hmn : m ≤ 1048576 := by rw [hm, HL.out]; exact hn
  have hD := hbB.size
  have HMM := Lib.hid hmM
  rw [← hm, ← hM] at HT
  obtain ⟨D, hDe⟩ : ∃ D, D = w2.heap.size := ⟨_, rfl⟩
  rw [← hDe] at HT hD
  rw [← hm] at *
  have hM2 : M ≤ 8388608 := by omega
  clear hbs hownB hgb hb4 hb3 htwo HRD HOR hgr hbC hbB hm hM hmM hDe
  go_wp2_with fail
  go_loopg [41] nb (fun gk vi wx => ∃ k p : Nat, k ≤ nb ∧ gk = nb - k ∧ vi = .int .i64 k ∧ p ≤ M ∧ Two wx D l gr gb ar ab m cr M cbb p ∧ Below w.heap.size w wx)
  case atStart => exact ⟨0, 0, by omega, rfl, rfl, by omega, HT.out, hbD⟩
  case round =>
    clear hbD HT
    obtain ⟨k, p, kn, g2, rfl, hp, htwo, hbw⟩ := hrel
    have G2 := Lib.hid g2
    have HT := Lib.hid htwo
    clear g2 htwo
    by_cases hlt : k < nb
    · obtain ⟨x, rfl, hx, hc⟩ := (HZS.out.below hbw) (by rw [HZ.out]; omega)
      have hc0 := hc (k * 2) (by rw [HZ.out]; omega)
      have hc1 := hc (k * 2 + 1) (by rw [HZ.out]; omega)
      obtain ⟨A, hA⟩ : ∃ A, A = zs.getD (k * 2) 0 := ⟨_, rfl⟩
      obtain ⟨B, hB⟩ : ∃ B, B = zs.getD (k * 2 + 1) 0 := ⟨_, rfl⟩
      rw [← hA] at hc0
      rw [← hB, add_next] at hc1
      clear hc hA hB
      have HT0 := Lib.hid (HT.out.below ((Below.refl wr.heap.size wr).alloc (Nat.le_refl _) (.cells #[.int .i64 A, .int .i64 B] 58)))
      have hbw0 := hbw.alloc hbw.size (.cells #[.int .i64 A, .int .i64 B] 58)
      have hcl : ∀ w5 : World, (wr.alloc (.cells #[.int .i64 A, .int .i64 B] 58)).grownBy w5 (some gr) → w5.cell? ⟨wr.heap.size, 0, none⟩ = some (.int .i64 A) := fun w5 hg => by
        have h := heap_gb (heap_alloc_new wr (.cells #[.int .i64 A, .int .i64 B] 58)) hg (fun e => by
          injection e with e
          have := lt_of_heap HT.out.rd
          omega)
        rw [cell_of_row w5 _ 0 _ _ _ h]; rfl
      have CELL := Lib.hid hcl
      clear hcl hbw HT
      rcases (show B = 0 ∨ B = 1 ∨ B = 2 ∨ (B ≠ 0 ∧ B ≠ 1 ∧ B ≠ 2) by omega) with rfl | rfl | rfl | ⟨hB0, hB1, hB2⟩
      · have hv0 : True := trivial
        obtain ⟨⟨v, e, q⟩, hR⟩ : ∃ R, R = getR (bitsOf l) p A := ⟨_, rfl⟩
        have hq : q ≤ M := by
          have := getR_le (bitsOf l) p A (by rw [HT0.out.lenB]; exact hp)
          rw [← hR, HT0.out.lenB] at this
          exact this
        have HQ := Lib.hid hq
        have d1 := rd_Get_any l gr m cr p A ar _ HT0.out.lenR (by omega) (by have := HMM.out; omega) HU.out (IntsAt.of_own HT0.out.ownR HT0.out.lenR.symm) (block_ne HT0.out.ownR HT0.out.rd (by decide)) HT0.out.rd
        have d2 := fun (W : World) hg => bs_Read_any (bitsOf l) gb M cbb p A ab W HT0.out.lenB (by omega) hp (HT0.out.mid hg).2 (HT0.out.mid hg).1
        rw [← hR] at d1 d2
        have D1 := Lib.hid d1
        have D2 := Lib.hid d2
        clear d1 d2 hq hR
        have t1 : ((v : Int) != v) = false := by simp
        have t2 : ((e : Int) != e) = false := by simp
        go_wp2_with fail
        refine D1.out.mono ?_
        rintro e5 w5 ⟨rfl, hr5, hg5, hs5⟩
        have kc := CELL.out w5 hg5
        have HS5 := Lib.hid hs5
        clear hs5
        go_wp2_with fail
        refine (D2.out w5 hg5).mono ?_
        rintro e6 w6 ⟨rfl, hr6, hg6, hs6⟩
        clear hs6 kc
        have HT5 := Lib.hid (HT0.out.both hr5 hg5 hr6 hg6)
        have hbn := hbw0.trans (HT0.out.under hD hbw0.size hg5 hg6)
        have HR6 := Lib.hid hr6
        clear hr5 hg5 hr6 hg6 CELL
        obtain ⟨lf, hlf⟩ : ∃ lf, lf = 8 * m - q := ⟨_, rfl⟩
        have hle := HQ.out
        have q1 : IntKind.i64.wrap ((M : Int) - q) = lf := by have := HMM.out; rw [IntKind.wrap_i64]; omega
        have b0 := HR6.out.c0
        have b1 := HR6.out.c1
        have cl := fun (W : World) (h : RdBlock W gr ar m cr q) => rd_Left gr m cr q ar W h (by omega) (by have := HMM.out; omega)
        rw [← hlf] at cl
        have CL := Lib.hid cl
        clear cl hlf
        go_wp2_with fail
        go_quiet ((go_at_call 43; exact Calls.quiet_of (CL.out _ HT5.out.rd)))
        go_wp2_with fail
        go_roundg (nb - (k + 1))
        case measure => rw [G2.out]; omega
        case rel => exact ⟨k + 1, q, by omega, rfl, by go_num, hle, HT5.out.drewN _, below_drewN hbn _⟩
      · have hv0 : True := trivial
        obtain ⟨⟨v, e, q⟩, hR⟩ : ∃ R, R = natR (bitsOf l) p := ⟨_, rfl⟩
        have hq : q ≤ M := by
          have := (natR_lt (bitsOf l) p (by rw [HT0.out.lenB]; exact hp)).2.2
          rw [← hR, HT0.out.lenB] at this
          exact this
        have HQ := Lib.hid hq
        have d1 := rd_Nat l gr m cr p ar _ HT0.out.lenR (by omega) (by have := HMM.out; omega) HU.out (IntsAt.of_own HT0.out.ownR HT0.out.lenR.symm) (block_ne HT0.out.ownR HT0.out.rd (by decide)) HT0.out.rd
        have d2 := fun (W : World) hg => bs_ReadNat (bitsOf l) gb M cbb p ab W HT0.out.lenB (by omega) hp (HT0.out.mid hg).2 (HT0.out.mid hg).1
        rw [← hR] at d1 d2
        have D1 := Lib.hid d1
        have D2 := Lib.hid d2
        clear d1 d2 hq hR
        have t1 : ((v : Int) != v) = false := by simp
        have t2 : ((e : Int) != e) = false := by simp
        go_wp2_with fail
        refine D1.out.mono ?_
        rintro e5 w5 ⟨rfl, hr5, hg5, hs5⟩
        have kc := CELL.out w5 hg5
        have HS5 := Lib.hid hs5
        clear hs5
        go_wp2_with fail
        refine (D2.out w5 hg5).mono ?_
        rintro e6 w6 ⟨rfl, hr6, hg6, hs6⟩
        clear hs6 kc
        have HT5 := Lib.hid (HT0.out.both hr5 hg5 hr6 hg6)
        have hbn := hbw0.trans (HT0.out.under hD hbw0.size hg5 hg6)
        have HR6 := Lib.hid hr6
        clear hr5 hg5 hr6 hg6 CELL
        obtain ⟨lf, hlf⟩ : ∃ lf, lf = 8 * m - q := ⟨_, rfl⟩
        have hle := HQ.out
        have q1 : IntKind.i64.wrap ((M : Int) - q) = lf := by have := HMM.out; rw [IntKind.wrap_i64]; omega
        have b0 := HR6.out.c0
        have b1 := HR6.out.c1
        have cl := fun (W : World) (h : RdBlock W gr ar m cr q) => rd_Left gr m cr q ar W h (by omega) (by have := HMM.out; omega)
        rw [← hlf] at cl
        have CL := Lib.hid cl
        clear cl hlf
        go_wp2_with fail
        go_quiet ((go_at_call 43; exact Calls.quiet_of (CL.out _ HT5.out.rd)))
        go_wp2_with fail
        go_roundg (nb - (k + 1))
        case measure => rw [G2.out]; omega
        case rel => exact ⟨k + 1, q, by omega, rfl, by go_num, hle, HT5.out.drewN _, below_drewN hbn _⟩
      · have hv0 := natR_lt (bitsOf l) p (by rw [HT0.out.lenB]; exact hp)
        obtain ⟨⟨v, e, q⟩, hR⟩ : ∃ R, R = natR (bitsOf l) p := ⟨_, rfl⟩
        have hq : q ≤ M := by
          have := (natR_lt (bitsOf l) p (by rw [HT0.out.lenB]; exact hp)).2.2
          rw [← hR, HT0.out.lenB] at this
          exact this
        have HQ := Lib.hid hq
        have d1 := rd_Int l gr m cr p ar _ HT0.out.lenR (by omega) (by have := HMM.out; omega) HU.out (IntsAt.of_own HT0.out.ownR HT0.out.lenR.symm) (block_ne HT0.out.ownR HT0.out.rd (by decide)) HT0.out.rd
        have d2 := fun (W : World) hg => bs_ReadNat (bitsOf l) gb M cbb p ab W HT0.out.lenB (by omega) hp (HT0.out.mid hg).2 (HT0.out.mid hg).1
        rw [← hR] at d1 d2
        have D1 := Lib.hid d1
        have D2 := Lib.hid d2
        have HV := Lib.hid (show v < 18446744073709551616 by have := hv0.1; rw [← hR] at this; exact this)
        have HUE := Lib.hid (show (if e = 0 then unz v else 0) = unz v by
          have hz := natR_val (bitsOf l) p
          rw [← hR] at hz
          by_cases h0 : e = 0
          · rw [if_pos h0]
          · rw [if_neg h0, show v = 0 from hz h0]; rfl)
        clear d1 d2 hq hR hv0
        have hue : (if e = 0 then unz v else 0) = unz v := HUE.out
        have d3 := D1.out
        rw [show (if ((v, e, q) : Nat × Nat × Nat).2.1 = 0 then unz ((v, e, q) : Nat × Nat × Nat).1 else 0) = unz v from hue] at d3
        have cu := ref_Unzigzag v HV.out
        obtain ⟨U, hU⟩ : ∃ U, U = unz v := ⟨_, rfl⟩
        rw [← hU] at d3 cu
        have D3 := Lib.hid d3
        have CU := Lib.hid cu
        have t1 : ((U : Int) != U) = false := by simp
        have t2 : ((e : Int) != e) = false := by simp
        clear hue d3 cu hU D1
        go_wp2_with fail
        refine D3.out.mono ?_
        rintro e5 w5 ⟨rfl, hr5, hg5, hs5⟩
        have kc := CELL.out w5 hg5
        have HS5 := Lib.hid hs5
        clear hs5
        go_wp2_with fail
        refine (D2.out w5 hg5).mono ?_
        rintro e6 w6 ⟨rfl, hr6, hg6, hs6⟩
        clear hs6 kc
        go_wp2_with fail
        refine (CU.out _).mono ?_
        rintro e7 w7 ⟨rfl, rfl⟩
        have HT5 := Lib.hid (HT0.out.both hr5 hg5 hr6 hg6)
        have hbn := hbw0.trans (HT0.out.under hD hbw0.size hg5 hg6)
        have HR6 := Lib.hid hr6
        clear hr5 hg5 hr6 hg6 CELL
        obtain ⟨lf, hlf⟩ : ∃ lf, lf = 8 * m - q := ⟨_, rfl⟩
        have hle := HQ.out
        have q1 : IntKind.i64.wrap ((M : Int) - q) = lf := by have := HMM.out; rw [IntKind.wrap_i64]; omega
        have b0 := HR6.out.c0
        have b1 := HR6.out.c1
        have cl := fun (W : World) (h : RdBlock W gr ar m cr q) => rd_Left gr m cr q ar W h (by omega) (by have := HMM.out; omega)
        rw [← hlf] at cl
        have CL := Lib.hid cl
        clear cl hlf
        go_wp2_with fail
        go_quiet ((go_at_call 43; exact Calls.quiet_of (CL.out _ HT5.out.rd)))
        go_wp2_with fail
        go_roundg (nb - (k + 1))
        case measure => rw [G2.out]; omega
        case rel => exact ⟨k + 1, q, by omega, rfl, by go_num, hle, HT5.out.drewN _, below_drewN hbn _⟩
      · have e0 : (B == 0) = false := by rw [beq_eq_false_iff_ne]; exact hB0
        have e1 : (B == 1) = false := by rw [beq_eq_false_iff_ne]; exact hB1
        have e2 : (B == 2) = false := by rw [beq_eq_false_iff_ne]; exact hB2
        obtain ⟨q, hq⟩ : ∃ q, q = p := ⟨_, rfl⟩
        rw [← hq] at HT0 hp
        obtain ⟨lf, hlf⟩ : ∃ lf, lf = 8 * m - q := ⟨_, rfl⟩
        have q1 : IntKind.i64.wrap ((M : Int) - q) = lf := by have := HMM.out; rw [IntKind.wrap_i64]; omega
        have b0 := HT0.out.bs.c0
        have b1 := HT0.out.bs.c1
        have cl := fun (W : World) (h : RdBlock W gr ar m cr q) => rd_Left gr m cr q ar W h (by omega) (by have := HMM.out; omega)
        rw [← hlf] at cl
        have CL := Lib.hid cl
        clear cl hlf hq CELL hB0 hB1 hB2
        go_wp2_with fail
        go_quiet ((go_at_call 43; exact Calls.quiet_of (CL.out _ HT0.out.rd)))
        go_wp2_with fail
        go_roundg (nb - (k + 1))
        case measure => rw [G2.out]; omega
        case rel => exact ⟨k + 1, q, by omega, rfl, by go_num, hp, HT0.out.drewN _, below_drewN hbw0 _⟩
    · have hd : decide (k < nb) = false := by simp; omega
      go_wp2
      go_ret
      exact ⟨rfl, hbw⟩
end Go.Proofs.Ytdhaaeaacbnghaa
