/- The law QuantFields. -/
import Derived.Test.YtdhaaeaacbnghaaFieldRW
import Derived.Test.YtdhaaeaacbnghaaBitsRef2
import Derived.Test.YtdhaaeaacbnghaaBitsOf
import Derived.Test.YtdhaaeaacbnghaaBitsBegun
import Derived.Test.YtdhaaeaacbnghaaBitsWrites
import Derived.Deep.RegionHeld3
import Derived.Test.YtdhaaeaacbnghaaFieldOpen
namespace Go.Proofs.Ytdhaaeaacbnghaa
open Go.ChangeShapes Go.WideShapes Go.ChangeAt Go.RowKit Go.Mem Go.Bp
set_option linter.unusedVariables false

/-- What the law holds: the field, the writer, the reader. -/
structure QS (w : World) (D gf gw gr : Nat) (s : ByteArray) (b l : Int) (x : Value) (L : List Bool) (ar : Option Addr) (m cr p : Nat) (ls : List Int) : Prop where
  f : FAt w gf s b l
  wr : Wr w D gw x L
  rd : RdBlock w gr ar m cr p
  own : w.ownsRow D 5 1 (.slice ar m cr) m (vints .u8 ls)
  dr : D ≤ gr
theorem QS.below {w w' : World} {D gf gw gr : Nat} {s : ByteArray} {b l : Int} {x : Value} {L : List Bool} {ar : Option Addr} {m cr p : Nat} {ls : List Int} (h : QS w D gf gw gr s b l x L ar m cr p ls) (hb : Below w.heap.size w w') : QS w' D gf gw gr s b l x L ar m cr p ls :=
  ⟨h.f.below hb, h.wr.below hb, heap_below h.rd hb, own_below h.own hb, h.dr⟩
theorem QS.get {w w' : World} {D gf gw gr : Nat} {s : ByteArray} {b l : Int} {x : Value} {L : List Bool} {ar : Option Addr} {m cr p q : Nat} {ls : List Int} (h : QS w D gf gw gr s b l x L ar m cr p ls) (hr : RdBlock w' gr ar m cr q) (hg : w.grownBy w' (some gr)) : QS w' D gf gw gr s b l x L ar m cr q ls :=
  ⟨heap_gb h.f hg (row_ne2 h.f h.rd (by decide)), ⟨heap_gb h.wr.block hg (row_ne2 h.wr.block h.rd (by decide)), own_grown h.wr.own hg (own_ne h.wr.own h.rd (by decide)), h.wr.dg⟩, hr, own_grown h.own hg (own_ne h.own h.rd (by decide)), h.dr⟩
theorem QS.bits {w w' : World} {D gf gw gr gb M cb q : Nat} {ab : Option Addr} {s : ByteArray} {b l : Int} {x : Value} {L : List Bool} {ar : Option Addr} {m cr p : Nat} {ls : List Int} (h : QS w D gf gw gr s b l x L ar m cr p ls) (hbs : BsBlock w gb ab M cb q) (hg : w.grownBy w' (some gb)) : QS w' D gf gw gr s b l x L ar m cr p ls :=
  ⟨heap_gb h.f hg (row_ne2 h.f hbs (by decide)), ⟨heap_gb h.wr.block hg (row_ne2 h.wr.block hbs (by decide)), own_grown h.wr.own hg (own_ne h.wr.own hbs (by decide)), h.wr.dg⟩, heap_gb h.rd hg (row_ne2 h.rd hbs (by decide)), own_grown h.own hg (own_ne h.own hbs (by decide)), h.dr⟩
theorem QS.drewN {w : World} {D gf gw gr : Nat} {s : ByteArray} {b l : Int} {x : Value} {L : List Bool} {ar : Option Addr} {m cr p : Nat} {ls : List Int} (h : QS w D gf gw gr s b l x L ar m cr p ls) (n : Nat) : QS (w.drewN n) D gf gw gr s b l x L ar m cr p ls :=
  ⟨h.f, h.wr.drewN n, h.rd, own_keep h.own fun _ _ => rfl, h.dr⟩
theorem new_Wr' (w : World) {D : Nat} (hD : D ≤ w.heap.size) : Wr (w.alloc (.cells #[.slice none 0 0, .int .i64 0] 82)) D w.heap.size (.slice none 0 0) [] :=
  ⟨heap_alloc_new w _, ⟨rfl, .inl ⟨rfl, rfl⟩⟩, hD⟩

theorem BsBlock.cells {w : World} {g m c p : Nat} {a : Option Addr} (h : BsBlock w g a m c p) : w.cell? ⟨g, 0, none⟩ = some (.slice a m c) ∧ w.cell? ⟨g, 1, none⟩ = some (.int .i64 p) := ⟨h.c0, h.c1⟩
theorem BsBlock.below {w w' : World} {g m c p : Nat} {a : Option Addr} (h : BsBlock w g a m c p) (hb : Below w.heap.size w w') : BsBlock w' g a m c p := heap_below h hb
theorem fit_in {b l v : Int} (h : fIs b l = true) (hf : fitv b l v = v) : l ≤ v ∧ v - l < 2 ^ b.toNat ∧ 2 ^ b.toNat ≤ 4294967296 ∧ -1099511627776 ≤ l ∧ l ≤ 1099511627776 := by
  obtain ⟨h1, h2, h3⟩ := fIs_true h
  have hb := lim_bd l
  rw [← h3] at hb
  unfold fitv at hf
  rw [← h3, show (min (max b 0) 32).toNat = b.toNat by omega, pow_c] at hf
  rw [pow_c]
  have p1 : 2 ^ b.toNat ≤ 2 ^ 32 := Nat.pow_le_pow_right (by omega) (by omega)
  have p2 : 2 ^ 32 = 4294967296 := by decide
  have p3 : 1 ≤ 2 ^ b.toNat := Nat.two_pow_pos _
  omega
theorem putR_fit {b l v : Int} (h : fIs b l = true) (hf : fitv b l v = v) : putR [] (v - l).toNat b = (0, bitsN (v - l).toNat b.toNat) := by
  obtain ⟨h1, h2, h3⟩ := fIs_true h
  obtain ⟨a1, a2, a3, _⟩ := fit_in h hf
  have hlt : (v - l).toNat < 2 ^ b.toNat := by rw [pow_c] at a2; omega
  unfold putR
  rw [if_neg (by rw [Nat.div_eq_of_lt hlt]; omega), if_neg (by simp; omega)]; rfl
theorem keepF {w w1 w2 : World} {g : Nat} {s : ByteArray} {b l : Int} {P : Prop} (hf : FAt w g s b l) (h : Below w.heap.size w w1 ∧ P) (hb : Below w1.heap.size w1 w2) : Below w.heap.size w w2 ∧ w2.cell? ⟨g, 1, none⟩ = some (.int .i64 b) :=
  ⟨bt h.1 hb, (hf.below (bt h.1 hb)).cells.2.1⟩
theorem sum_back (l : Int) (rv : Nat) (h : rv < 4294967296) (h1 : -1099511627776 ≤ l) (h2 : l ≤ 1099511627776) : IntKind.i64.wrap (IntKind.u64.wrap ((rv : Int) + IntKind.u64.wrap l)) = l + rv := by
  simp only [IntKind.wrap_u64, IntKind.wrap_i64]; omega

set_option maxHeartbeats 16000000 in
set_option maxRecDepth 100000 in
theorem law_QuantFields (s : ByteArray) (b l v : Int) (hv1 : -9223372036854775808 ≤ v) (hv2 : v ≤ 9223372036854775807) (ls : List Int) (a : Option Addr) (n cap : Nat) (hl : ls.length = n) (hn : n ≤ 1048576) (hu : By8 ls) (w : World) (hin : IntsAt .u8 w a ls) :
    Calls Try.prog 10 #[.agg #[.string s, .int .i64 b, .int .i64 l], .int .i64 v, .slice a n cap] w fun e w' => e = .returned (.bool true) ∧ Below w.heap.size w w' := by
  have HIN := Lib.hid hin
  have HL := Lib.hid hl
  have HU := Lib.hid hu
  have hb0 := (Below.refl w.heap.size w).alloc (Nat.le_refl _) (.cells #[.string s, .int .i64 b, .int .i64 l] 92)
  have HF := Lib.hid (show FAt (w.alloc (.cells #[.string s, .int .i64 b, .int .i64 l] 92)) w.heap.size s b l from heap_alloc_new w _)
  clear hin hl hu
  go_enter Try.func10, Try.ntmps10
  go_wp2_with fail
  refine (law_quantBegun _).mono ?_
  rintro e w1 ⟨rfl, hb1⟩
  have hbA := hb0.trans (hb1.mono hb0.size)
  have hbB := hbA.alloc hbA.size (.cells #[.slice none 0 0, .int .i64 0] 82)
  have HF1 := Lib.hid ((HF.out.below hb1).below ((Below.refl _ _).alloc (Nat.le_refl _) (.cells #[.slice none 0 0, .int .i64 0] 82)))
  have HW := Lib.hid (new_Wr' w1 hbA.size)
  obtain ⟨k0, k1, k2⟩ := HF1.out.cells
  clear hb0 hb1 HF
  go_wp2_with fail
  generalize w1.alloc (.cells #[.slice none 0 0, .int .i64 0] 82) = W1 at *
  generalize w1.heap.size = gw at *
  have CP := Lib.hid (quant_Put s b l v hv1 hv2 W1 w.heap.size gw (.slice none 0 0) [] (by simp) hbB.size HW.out)
  obtain ⟨⟨e1, L1⟩, hR1⟩ : ∃ R, R = qputR [] b l v := ⟨_, rfl⟩
  rw [← hR1] at CP
  have HR1 := Lib.hid hR1
  clear hR1
  refine CP.out.mono ?_
  rintro e w2 ⟨rfl, y, hw2, hg2, hy2⟩
  have hbC := hbB.trans ((HW.out.belowG hg2 (Nat.le_refl _) hbB.size))
  have HF2 := Lib.hid (show FAt w2 w.heap.size s b l from hg2.heap HF1.out (row_ne2 HF1.out HW.out.block (by decide)) (fun h => by cases h))
  have HW2 := Lib.hid hw2
  clear k0 k1 k2 hw2 hg2 hy2 HF1 HW hbA hbB
  have CN := Lib.hid (bits_New ls a n cap HL.out (by omega) w2 (HIN.out.below hbC))
  go_wp2_with fail
  refine CN.out.mono ?_
  rintro e w3 ⟨gr, ar, cr, rfl, hrd, hown, hgr, hb3⟩
  have hbD := bt hbC hb3
  have hq : QS w3 w.heap.size w.heap.size gw gr s b l y L1 ar ls.length cr 0 ls := ⟨HF2.out.below hb3, HW2.out.below hb3, hrd, own_lower hown hbC.size, Nat.le_trans hbC.size hgr⟩
  have HQ := Lib.hid hq
  obtain ⟨k0, k1, k2⟩ := hq.f.cells
  have hm : ls.length ≤ 1048576 := by rw [HL.out]; exact hn
  have CG := quant_Get s b l ls gr ls.length cr 0 ar w3 rfl (by omega) (by omega) HU.out (IntsAt.of_own hown rfl) (block_ne hown hrd (by decide)) hrd
  obtain ⟨⟨n1, e2, q⟩, hR2⟩ : ∃ R, R = qgetV (bitsOf ls) 0 b l := ⟨_, rfl⟩
  rw [← hR2] at CG
  have HR2 := Lib.hid hR2
  have CG := Lib.hid CG
  obtain ⟨m, hme⟩ : ∃ m, m = ls.length := ⟨_, rfl⟩
  rw [← hme] at HQ CG hm
  have HM := Lib.hid hme
  clear hR2 hrd hown hgr hb3 hq hbC HF2 HW2 hme
  go_wp2_with fail
  refine CG.out.mono ?_
  rintro e w4 ⟨rfl, hr4, hg4⟩
  have HQ4 := Lib.hid (HQ.out.get hr4 hg4)
  have hbE := hbD.trans (below_gb hg4 HQ.out.dr hbD.size)
  clear k0 k1 k2 hr4 hg4 hbD HQ
  obtain ⟨k0, k1, k2⟩ := HQ4.out.f.cells
  have cf := quant_Fit s b l v hv1 hv2
  have ct := ref_Fitted s b l v
  obtain ⟨F, hF⟩ : ∃ F, F = fitv b l v := ⟨_, rfl⟩
  rw [← hF] at cf ct
  have HFE := Lib.hid hF
  have CF := Lib.hid cf
  have CT := Lib.hid ct
  clear cf ct hF
  have tF : (F != F) = false := by simp
  go_wp2_with fail
  go_region_held3 (fun w' => (w'.cell? ⟨w.heap.size, 0, none⟩ = some (.string s) ∧ w'.cell? ⟨w.heap.size, 1, none⟩ = some (.int .i64 b) ∧ w'.cell? ⟨w.heap.size, 2, none⟩ = some (.int .i64 l)))
    (first | exact ⟨k0, k1, k2⟩ | exact (HQ4.out.f.below (bt (Below.refl _ w4).drew hb5)).cells | exact (HQ4.out.f.below (bt (bt (Below.refl _ w4).drew hb5) hb6)).cells)
    (first
      | (go_at_call 67; (with_reducible refine (CF.out _).mono ?_); rintro e w5 ⟨rfl, hb5⟩)
      | (go_at_call 68; (with_reducible refine (CT.out _).mono ?_); rintro e w6 ⟨rfl, hb6⟩))
  have hbx := bt (bt (Below.refl _ w4).drew hb5) hb6
  have HQ6 := Lib.hid (HQ4.out.below hbx)
  have hbF := bt hbE hbx
  obtain rfl : m = n := by rw [HM.out, HL.out]
  have ck := quant_Check s b l
  have ci := ref_FieldIs s b l
  clear k0 k1 k2 hb5 hb6 hbx hbE HQ4 CP CN CG
  obtain ⟨k0, k1, k2⟩ := HQ6.out.f.cells
  have hR1 := HR1.out
  have hR2 := HR2.out
  unfold qputR at hR1
  unfold qgetV at hR2
  cases hf : fIs b l with
  | false =>
    rw [hf] at ck ci hR1 hR2
    rw [if_neg (by simp)] at ck
    rw [if_pos rfl] at hR1 hR2
    obtain ⟨rfl, rfl⟩ := Prod.mk.inj hR1
    obtain ⟨rfl, hR3⟩ := Prod.mk.inj hR2
    obtain ⟨rfl, rfl⟩ := Prod.mk.inj hR3
    have CK := Lib.hid ck
    have CI := Lib.hid ci
    clear ck ci hR1 hR2 hR3 hf
    go_wp2_with fail
    refine (CI.out _).mono ?_
    rintro e w7 ⟨rfl, hb7⟩
    have HQ7 := Lib.hid (HQ6.out.below hb7)
    have hbG := bt hbF hb7
    clear k0 k1 k2 hb7 hbF
    obtain ⟨k0, k1, k2⟩ := HQ7.out.f.cells
    go_wp2_with fail
    refine (CK.out _).mono ?_
    rintro e w8 ⟨rfl, hb8⟩
    have HQ8 := Lib.hid (HQ7.out.below hb8)
    have hbH := bt hbG hb8
    have CL := Lib.hid (wr_Len w8 w.heap.size gw y [] HQ8.out.wr)
    have CE := Lib.hid (rd_Left gr m cr 0 ar w8 HQ8.out.rd (by omega) (by omega))
    clear k0 k1 k2 hb8 hbG
    go_wp2_with fail
    refine CL.out.mono ?_
    rintro e w9 ⟨rfl, rfl⟩
    go_wp2_with fail
    refine CE.out.mono ?_
    rintro e w9 ⟨rfl, kq, rfl⟩
    go_wp2_with fail
    go_ret
    exact ⟨rfl, below_drewN hbH _⟩
  | true =>
    obtain ⟨h1, h2, h3⟩ := fIs_true hf
    rw [hf] at ck ci hR1 hR2
    rw [if_pos rfl] at ck
    rw [if_neg (by simp)] at hR1 hR2
    have hlb := lim_bd l
    rw [← h3] at hlb
    obtain ⟨hl1, hl2⟩ := hlb
    have CK := Lib.hid ck
    have CI := Lib.hid ci
    have HR1 := Lib.hid hR1
    have HF' := Lib.hid hf
    have CB := Lib.hid (fun W hb => ref_BitsOf ls a m cap HL.out (by omega) HU.out W (HIN.out.below hb))
    obtain ⟨hrv, hrz⟩ := getR_32 (bitsOf ls) 0 b h2
    have hrq := getR_le (bitsOf ls) 0 b (Nat.zero_le _)
    have hbl : (bitsOf ls).length = 8 * m := by rw [bitsOf_length, ← HM.out]
    rw [hbl] at hrq
    obtain ⟨⟨rv, re, rq⟩, hG⟩ : ∃ G, G = getR (bitsOf ls) 0 b := ⟨_, rfl⟩
    have HG := Lib.hid hG
    have HBL := Lib.hid hbl
    rw [← hG] at hR2 hrv hrz hrq
    replace hrv : rv < 4294967296 := hrv
    replace hrz : re ≠ 0 → rv = 0 := hrz
    replace hrq : rq ≤ 8 * m := hrq
    have HRZ := Lib.hid hrz
    have HR2 := Lib.hid hR2
    clear ck ci hR1 hR2 hf h3 hG hbl hrz
    go_wp2_with fail
    refine (CI.out _).mono ?_
    rintro e w7 ⟨rfl, hb7⟩
    have HQ7 := Lib.hid (HQ6.out.below hb7)
    have hbG := bt hbF hb7
    clear k0 k1 k2 hb7 hbF
    obtain ⟨k0, k1, k2⟩ := HQ7.out.f.cells
    go_wp2_with fail
    refine (CB.out _ hbG).mono ?_
    rintro e w8 ⟨gb, ab, cbb, rfl, hbs, hownB, hgb, hb8⟩
    have HQ8 := Lib.hid (HQ7.out.below hb8)
    have hbH := bt hbG hb8
    have hgb2 : w.heap.size ≤ gb := Nat.le_trans hbG.size hgb
    have HBS := Lib.hid hbs
    have crd := bs_Read_any (bitsOf ls) gb (bitsOf ls).length cbb 0 b ab w8 rfl (by rw [HBL.out]; omega) (Nat.zero_le _) (BoolsAt.of_own hownB rfl) hbs
    rw [← HG.out] at crd
    obtain ⟨M, hM⟩ : ∃ M, M = (bitsOf ls).length := ⟨_, rfl⟩
    have hM8 : M = 8 * m := by rw [hM, HBL.out]
    rw [← hM] at crd HBS
    have CR := Lib.hid crd
    have HM8 := Lib.hid hM8
    clear k0 k1 k2 hb8 hbG hgb hbs hownB crd hM hM8
    obtain ⟨k0, k1, k2⟩ := HQ8.out.f.cells
    go_wp2_with fail
    refine CR.out.mono ?_
    rintro e w9 ⟨rfl, hbs9, hg9, hsz9⟩
    have HQ9 := Lib.hid (HQ8.out.bits HBS.out hg9)
    have hbI := hbH.trans (below_gb hg9 hgb2 hbH.size)
    have HB9 := Lib.hid hbs9
    clear k0 k1 k2 hbs9 hg9 hsz9 hbH
    have hcase : ∃ X : Int, ((re = 0 ∧ n1 = l + rv ∧ IntKind.u64.wrap ((rv : Int) + IntKind.u64.wrap l) = X) ∨ (re ≠ 0 ∧ n1 = 0 ∧ rv = 0 ∧ X = 0)) ∧ IntKind.i64.wrap X = n1 ∧ e2 = re ∧ q = rq := by
      have h := HR2.out
      by_cases h0 : re = 0
      · rw [if_pos h0] at h
        obtain ⟨a1, a2⟩ := Prod.mk.inj h
        obtain ⟨a2, a3⟩ := Prod.mk.inj a2
        exact ⟨_, .inl ⟨h0, a1, rfl⟩, by rw [sum_back l rv hrv hl1 hl2, a1], by omega, a3⟩
      · rw [if_neg h0] at h
        obtain ⟨a1, a2⟩ := Prod.mk.inj h
        obtain ⟨a2, a3⟩ := Prod.mk.inj a2
        exact ⟨0, .inr ⟨h0, a1, HRZ.out h0, rfl⟩, by rw [a1]; rfl, a2, a3⟩
    obtain ⟨X, hX, hX2, rfl, rfl⟩ := hcase
    obtain ⟨k0, k1, k2⟩ := HQ9.out.f.cells
    have t1 : ((e2 : Int) != e2) = false := by simp
    have t2 : (n1 != n1) = false := by simp
    obtain ⟨lf, hlf⟩ : ∃ lf, lf = 8 * m - q := ⟨_, rfl⟩
    have q1 : IntKind.i64.wrap ((M : Int) - q) = lf := by have := HM8.out; rw [IntKind.wrap_i64]; omega
    have t3 : ((lf : Int) != lf) = false := by simp
    have clf := fun (W : World) (h : RdBlock W gr ar m cr q) => rd_Left gr m cr q ar W h (by omega) hrq
    rw [← hlf] at clf
    have CLF := Lib.hid clf
    have hcase2 : (((e2 : Int) == 0) = true ∧ IntKind.u64.wrap ((rv : Int) + IntKind.u64.wrap l) = X ∧ IntKind.i64.wrap X = n1) ∨ (((e2 : Int) == 0) = false ∧ IntKind.i64.wrap (rv : Int) = n1) := by
      rcases hX with ⟨h0, _, hxx⟩ | ⟨h0, hn1, hr0, hx0⟩
      · exact .inl ⟨by simp; omega, hxx, hX2⟩
      · exact .inr ⟨by rw [beq_eq_false_iff_ne]; omega, by rw [hr0, hn1]; rfl⟩
    clear clf hlf HRZ HR2 hX hX2
    rcases hcase2 with ⟨f1, f2, f3⟩ | ⟨f1, f3⟩
    all_goals
      go_wp2_with fail
      obtain ⟨m0, m1⟩ := HB9.out.cells
      go_region_held3 (fun w' => (w'.cell? ⟨w.heap.size, 0, none⟩ = some (.string s) ∧ w'.cell? ⟨w.heap.size, 1, none⟩ = some (.int .i64 b) ∧ w'.cell? ⟨w.heap.size, 2, none⟩ = some (.int .i64 l)) ∧ (w'.cell? ⟨gb, 0, none⟩ = some (.slice ab M cbb) ∧ w'.cell? ⟨gb, 1, none⟩ = some (.int .i64 q)))
        (first
          | exact ⟨⟨k0, k1, k2⟩, ⟨m0, m1⟩⟩
          | exact ⟨(HQ9.out.f.below (bt (Below.refl _ w9).drew hb10)).cells, (HB9.out.below (bt (Below.refl _ w9).drew hb10)).cells⟩
          | exact ⟨(show FAt (w10.drewN kq) _ _ _ _ from HQ9.out.f.below (bt (Below.refl _ w9).drew hb10)).cells, (show BsBlock (w10.drewN kq) _ _ _ _ _ from HB9.out.below (bt (Below.refl _ w9).drew hb10)).cells⟩)
        (first
          | (go_at_call 70; (with_reducible refine (CK.out _).mono ?_); rintro e w10 ⟨rfl, hb10⟩)
          | (have hq10 := (HQ9.out.below (bt (Below.refl _ w9).drew hb10)).rd; go_at_call 43; (with_reducible refine (CLF.out _ hq10).mono ?_); rintro e w11 ⟨rfl, kq, rfl⟩))
      have hbq := bt (Below.refl _ w9).drew hb10
      have HQA := Lib.hid ((HQ9.out.below hbq).drewN kq)
      have hbJ := below_drewN (bt hbI hbq) kq
      clear k0 k1 k2 m0 m1 hb10 hq10 hbq hbI HQ9 HB9 f1 f3 t1 t2 q1 t3
      generalize w10.drewN kq = wA at *
      obtain ⟨k0, k1, k2⟩ := HQA.out.f.cells
      by_cases hFv : F = v
      · have tv : (F != v) = false := by rw [hFv]; simp
        have hfit : fitv b l v = v := by rw [← HFE.out, hFv]
        have h := HR1.out
        rw [if_pos hfit, putR_fit HF'.out hfit] at h
        obtain ⟨rfl, hL1⟩ := Prod.mk.inj h
        obtain ⟨a1, a2, a3, _⟩ := fit_in HF'.out hfit
        rw [pow_c] at a2
        obtain ⟨U, hU⟩ : ∃ U, U = (v - l).toNat := ⟨_, rfl⟩
        have lU : U < 4294967296 := by omega
        have eU : IntKind.u64.wrap (v - l) = (U : Int) := by
          rw [show v - l = ((U : Nat) : Int) by omega]; exact W64.u_in U (by omega)
        have hlen : L1.length = b.toNat := by rw [hL1, bitsN_length]
        obtain ⟨bl, hbl⟩ : ∃ bl, bl = L1.length := ⟨_, rfl⟩
        have tb : ((bl : Int) == b) = true := by simp; omega
        have hbl32 : bl ≤ 32 := by omega
        have hput : putR [] U b = (0, L1) := by rw [hU, putR_fit HF'.out hfit, hL1]
        have HPUT := Lib.hid hput
        have HBLL := Lib.hid hbl
        have a4 : v - l < 4294967296 := by omega
        clear h hL1 hfit hU hlen hput a2 a3 hFv hbl
        go_wp2_with fail
        refine (CT.out _).mono ?_
        rintro e wB ⟨rfl, hbB⟩
        have HQB := Lib.hid (HQA.out.below hbB)
        have hbK := bt hbJ hbB
        clear k0 k1 k2 hbB hbJ
        have hal := (Below.refl wB.heap.size wB).alloc (Nat.le_refl _) (.cells #[.slice none 0 0, .int .i64 0] 66)
        have ca := bs_Add _ wB.heap.size wB.heap.size U b _ [] (by omega) (by simp) (by simp) (new_Bs wB)
        rw [HPUT.out] at ca
        have CA := Lib.hid ca
        have HQC := Lib.hid (HQB.out.below hal)
        obtain ⟨k0, k1, k2⟩ := HQC.out.f.cells
        clear ca
        go_wp2_with fail
        refine CA.out.mono ?_
        rintro e wC ⟨rfl, y2, hbC, hgC, hyC⟩
        have hbD2 : Below wB.heap.size wB wC := hal.trans (hgC.below (by simp) (fun k hk => by injection hk with hk; omega) (fun k hk => by cases hk))
        have HQD := Lib.hid (HQB.out.below hbD2)
        have hbM := bt hbK hbD2
        have HBC := Lib.hid hbC
        clear k0 k1 k2 hbC hgC hyC hal hbD2 HQC hbK
        obtain ⟨k0, k1, k2⟩ := HQD.out.f.cells
        have cl := fun (W : World) (h : Below wC.heap.size wC W) => wr_Len W w.heap.size gw y L1 (HQD.out.wr.below h)
        rw [← HBLL.out] at cl
        have CL := Lib.hid cl
        have CB1 := Lib.hid (fun (W : World) (h : Below wC.heap.size wC W) => wr_Bytes W w.heap.size gw y L1 (by rw [← HBLL.out]; omega) (HQD.out.wr.below h))
        have CB2 := Lib.hid (fun (W : World) (h : Below wC.heap.size wC W) => bs_Bytes W wB.heap.size wB.heap.size y2 L1 (by rw [← HBLL.out]; omega) (HBC.out.below h))
        obtain ⟨P, hP⟩ : ∃ P, P = packB L1 := ⟨_, rfl⟩
        have lP : P.length ≤ 9223372036854775807 := by rw [hP]; unfold packB; rw [packN_length]; have := HBLL.out; omega
        rw [← hP] at CB1 CB2
        clear cl hP
        go_wp2_with fail
        go_region_held3 (fun w' => Below wC.heap.size wC w' ∧ w'.cell? ⟨w.heap.size, 1, none⟩ = some (.int .i64 b))
          (first
            | exact ⟨(Below.refl _ _).drew, k1⟩
            | exact keepF HQD.out.f (by assumption) hb15
            | exact keepF HQD.out.f (by assumption) hb16
            | exact keepF HQD.out.f (by assumption) hb17
            | assumption)
          (first
            | (go_at_call 60; (with_reducible refine (CL.out _ (And.left (by assumption))).mono ?_); rintro e w14 ⟨rfl, rfl⟩)
            | (go_at_call 62; (with_reducible refine (CB1.out _ (And.left (by assumption))).mono ?_); rintro e w15 ⟨ba, bc, rfl, hbc, hbi, hb15⟩)
            | (go_at_call 63; (with_reducible refine (CB2.out _ (And.left (by assumption))).mono ?_); rintro e w16 ⟨ra, rfl, hri, hb16⟩)
            | (have ce := eq_bytes ba ra bc P.length P P lP lP w16 (hbi.below hb16) hri; rw [decide_eq_true (rfl : P = P)] at ce; go_at_call 61; (with_reducible refine ce.mono ?_); rintro e w17 ⟨rfl, hb17⟩))
        go_wp2
        go_ret
        exact ⟨rfl, bt hbM (And.left (by assumption))⟩
      · have tv : (F != v) = true := by simp; exact hFv
        have h := HR1.out
        rw [if_neg (by rw [← HFE.out]; exact hFv)] at h
        obtain ⟨rfl, rfl⟩ := Prod.mk.inj h
        clear h hFv
        go_wp2_with fail
        refine (CT.out _).mono ?_
        rintro e wB ⟨rfl, hbB⟩
        have HQB := Lib.hid (HQA.out.below hbB)
        have hbK := bt hbJ hbB
        have CL := Lib.hid (wr_Len wB w.heap.size gw y [] HQB.out.wr)
        clear k0 k1 k2 hbB hbJ
        go_wp2_with fail
        refine CL.out.mono ?_
        rintro e wC ⟨rfl, rfl⟩
        go_wp2_with fail
        go_ret
        exact ⟨rfl, hbK⟩
theorem law_QuantFields_any (x : Value) (hx : ∃ (s : ByteArray) (b l : Int), x = .agg #[.string s, .int .i64 b, .int .i64 l]) (v : Int) (hv : (Lit.int .i64 v).wf = true) (ls : List Int) (a : Option Addr) (n cap : Nat) (hl : ls.length = n) (hn : n ≤ 1048576) (hu : By8 ls) (w : World) (hin : IntsAt .u8 w a ls) :
    Calls Try.prog 10 #[x, .int .i64 v, .slice a n cap] w fun e w' => e = .returned (.bool true) ∧ Below w.heap.size w w' := by
  obtain ⟨s, b, l, rfl⟩ := hx
  have h := wf_i64' hv
  exact law_QuantFields s b l v h.1 h.2 ls a n cap hl hn hu w hin
end Go.Proofs.Ytdhaaeaacbnghaa
