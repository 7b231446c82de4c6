/- bits.New and the reference's BitsOf. -/
import Derived.Test.YtdhaaeaacbnghaaReader
import Derived.Test.YtdhaaeaacbnghaaBitsRef
import Derived.Deep.RegionLaw
import Derived.Deep.DeepMust
namespace Go.Proofs.Ytdhaaeaacbnghaa
open Go.ChangeShapes Go.WideShapes Go.ChangeAt Go.RowKit Go.Mem Go.Bp
set_option linter.unusedVariables false

def NewPost (l : List Int) (w : World) (e : Ending) (w' : World) : Prop := ∃ g a c, e = .returned (.pointer (some ⟨g, 0, none⟩)) ∧ RdBlock w' g a l.length c 0 ∧ w'.ownsRow w.heap.size 5 1 (.slice a l.length c) l.length (vints .u8 l) ∧ w.heap.size ≤ g ∧ Below w.heap.size w w'
set_option maxHeartbeats 4000000 in
theorem bits_New (l : List Int) (a : Option Addr) (n c : Nat) (hl : l.length = n) (hn : n ≤ 140737488351232) (w : World) (hin : IntsAt .u8 w a l) :
    Calls Try.prog 35 #[.slice a n c] w (NewPost l w) := by
  have hnil : w.ownsRow w.heap.size 5 1 (.slice none 0 0) 0 (vints .u8 []) := ⟨rfl, .inl ⟨rfl, rfl⟩⟩
  have HNIL := Lib.hid hnil
  have HL := Lib.hid hl
  have HIN := Lib.hid hin
  clear hl hin hnil
  go_enter Try.func35, Try.ntmps35
  go_wp2_with (at_builtin; go_must (refine wpList_append_ints rfl _ _ 35 rfl w.heap.size 5 .u8 1 Try.underlying35 (by kernel_rfl) (.slice none 0 0) 0 [] rfl HNIL.out a n c l rfl HL.out HIN.out (by unfold maxLen; omega) (by omega) (Nat.le_refl _) ?_))
  intro v0 w1 hown hgr hat
  have hb1 : Below w.heap.size w w1 := (Below.refl _ _).grown hgr (Nat.le_refl _) (fun k hk => by cases hk)
  obtain ⟨a1, c1, rfl, _, _⟩ := own_slice hown
  have HOWN := Lib.hid hown
  clear hgr hat hown
  go_wp2
  go_ret
  rw [← HL.out] at HOWN ⊢
  exact ⟨_, a1, c1, rfl, heap_alloc_new w1 _, HOWN.out.alloc _, hb1.size, hb1.alloc hb1.size _⟩

def OfPost (L : List Bool) (w : World) (e : Ending) (w' : World) : Prop := ∃ g a c, e = .returned (.pointer (some ⟨g, 0, none⟩)) ∧ BsBlock w' g a L.length c 0 ∧ w'.ownsRow w.heap.size 4 1 (.slice a L.length c) L.length (vbools L) ∧ w.heap.size ≤ g ∧ Below w.heap.size w w'
theorem BsBlock.f0 {w : World} {g m c p : Nat} {a : Option Addr} (h : BsBlock w g a m c p) : w.frozen? ⟨g, 0, none⟩ = false := Mem.frozen_of_row h 0
theorem BsBlock.set0 {w : World} {g m c p m2 c2 : Nat} {a a2 : Option Addr} (h : BsBlock w g a m c p) : BsBlock (w.setCell ⟨g, 0, none⟩ (.slice a2 m2 c2)) g a2 m2 c2 p := heap_set h 0 (.slice a2 m2 c2)
theorem vbools_snoc (l : List Bool) (b : Bool) : vbools l ++ [Value.bool b] = vbools (l ++ [b]) := by simp [vbools]
theorem bits8_snoc (z j : Nat) (h : j < 8) : (bits8 z).take (j + 1) = (bits8 z).take j ++ [decide (z / 2 ^ j % 2 = 1)] := by
  rw [take_snocB _ _ (by rw [bits8_length]; exact h), bits8_get _ _ h, Nat.testBit_eq_decide_div_mod_eq]
theorem take_next (l : List Int) (k : Nat) (h : k < l.length) : bitsOf (l.take (k + 1)) = bitsOf (l.take k) ++ bits8 (l.getD k 0).toNat := by
  rw [List.take_succ_eq_append_getElem h, bitsOf_append, bitsOf_cons]
  simp [bitsOf, h]

set_option maxHeartbeats 16000000 in
set_option maxRecDepth 100000 in
theorem ref_BitsOf (l : List Int) (a : Option Addr) (n c : Nat) (hl : l.length = n) (hn : n ≤ 2097152) (hu : By8 l) (w : World) (hin : IntsAt .u8 w a l) :
    Calls Try.prog 37 #[.slice a n c] w (OfPost (bitsOf l) w) := by
  have HL := Lib.hid hl
  have HI := Lib.hid hin
  have HU := Lib.hid hu
  have hb0 : Below w.heap.size w (w.alloc (.cells #[.slice none 0 0, .int .i64 0] 66)) := (Below.refl _ _).alloc (Nat.le_refl _) _
  have hbs : BsBlock (w.alloc (.cells #[.slice none 0 0, .int .i64 0] 66)) w.heap.size none 0 0 0 := heap_alloc_new w _
  have hnil : (w.alloc (.cells #[.slice none 0 0, .int .i64 0] 66)).ownsRow w.heap.size 4 1 (.slice none 0 0) 0 (vbools []) := ⟨rfl, .inl ⟨rfl, rfl⟩⟩
  have HBS := Lib.hid hbs
  have HNIL := Lib.hid hnil
  obtain ⟨G, hG⟩ : ∃ G, G = w.heap.size := ⟨_, rfl⟩
  clear hl hin hu hbs hnil
  go_enter Try.func37, Try.ntmps37
  go_wp2_with fail
  go_loopg [5, 10, 14] n (fun gk _ vi _ wx => ∃ (k M cc : Nat) (aa : Option Addr), k ≤ n ∧ gk = n - k ∧ vi = .int .i64 k ∧ M = 8 * k ∧ BsBlock wx w.heap.size aa M cc 0 ∧ wx.ownsRow w.heap.size 4 1 (.slice aa M cc) M (vbools (bitsOf (l.take k))) ∧ Below w.heap.size w wx)
  case atStart => exact ⟨0, 0, 0, none, by omega, rfl, rfl, rfl, HBS.out, HNIL.out, hb0⟩
  case round =>
    obtain ⟨k, M, cc, aa, kn, g2, rfl, hM, hbs, hown, hbw⟩ := hrel
    have G2 := Lib.hid g2
    have HB := Lib.hid hbs
    have HO := Lib.hid hown
    have HM := Lib.hid hM
    clear g2 hbs hown hM HBS HNIL hb0
    by_cases hlt : k < n
    · obtain ⟨x, rfl, hx, hc⟩ := (HI.out.below hbw) (by rw [HL.out]; omega)
      have hcell := hc k (by rw [HL.out]; omega)
      obtain ⟨z, hz, z8⟩ := HU.out.at k
      rw [hz] at hcell
      have htk := take_next l k (by rw [HL.out]; exact hlt)
      rw [hz, Int.toNat_natCast] at htk
      have HTK := Lib.hid htk
      clear hc hz htk
      obtain ⟨wo, hwo⟩ : ∃ wo : World, wo = wr := ⟨_, rfl⟩
      subst hwo
      go_wp2_with fail
      clear hcell
      go_loopg [5, 14] 8 (fun gj vz vi wx => ∃ (j M2 cc2 z2 : Nat) (aa2 : Option Addr), j ≤ 8 ∧ gj = 8 - j ∧ vi = .int .i64 j ∧ vz = .int .u8 z2 ∧ z2 = z / 2 ^ j ∧ M2 = M + j ∧ BsBlock wx w.heap.size aa2 M2 cc2 0 ∧ wx.ownsRow w.heap.size 4 1 (.slice aa2 M2 cc2) M2 (vbools (bitsOf (l.take k) ++ (bits8 z).take j)) ∧ Below w.heap.size w wx)
      case atStart => exact ⟨0, M, cc, z, aa, by omega, rfl, rfl, rfl, by simp, rfl, HB.out, by rw [List.take_zero, List.append_nil]; exact HO.out, hbw⟩
      case round =>
        clear hbw HB HO
        obtain ⟨j, M2, cc2, z2, aa2, j8, g3, rfl, rfl, hz2, hM2, hbs, hown, hbw⟩ := hrel
        have G3 := Lib.hid g3
        have HB := Lib.hid hbs
        have HO := Lib.hid hown
        have HZ := Lib.hid hz2
        have HM2 := Lib.hid hM2
        have zb : z2 < 256 := by rw [hz2]; exact Nat.lt_of_le_of_lt (Nat.div_le_self _ _) z8
        clear g3 hbs hown hz2 hM2
        have M2b : M2 ≤ 16777216 := by have := HM.out; have := HM2.out; omega
        by_cases hj : j < 8
        · obtain ⟨b, hb⟩ : ∃ b, b = decide (z2 % 2 = 1) := ⟨_, rfl⟩
          have hsn := bits8_snoc z j hj
          rw [← HZ.out, ← hb] at hsn
          have HSN := Lib.hid hsn
          have hbd : ((z2 : Int) % 2 == 1) = b := by
            rw [hb]
            rcases Nat.mod_two_eq_zero_or_one z2 with h | h
            · rw [h, show (z2 : Int) % 2 = 0 by omega]; rfl
            · rw [h, show (z2 : Int) % 2 = 1 by omega]; rfl
          have c0 := HB.out.c0
          have f0 := HB.out.f0
          have HBD := Lib.hid hbd
          have hsz := hbw.size
          clear hsn hb
          obtain ⟨i0, hi0, hz0, hz1, hz2⟩ := info_parts (show (Try.prog.info? 4).map (fun i => (i.zero, i.size, i.bytes)) = some (some (.bool false), 1, 1) by kernel_rfl)
          go_wp2_with (at_builtin; go_must (refine wpList_append_lies _ rfl _ _ 64 rfl w.heap.size 4 i0 (.bool false) 1 1 Try.underlying64 hi0 hz0 hz1 hz2 rfl (by omega) (.slice aa2 M2 cc2) M2 (vbools (bitsOf (l.take k) ++ (bits8 z).take j)) rfl (HO.out.alloc _) ⟨wr.heap.size, 0, none⟩ 1 1 [.bool b] rfl rfl (World.news_of_block (cs := #[.bool b]) (t := 4) (fr := (0, 0)) (heap_alloc_new wr _)) (by simp [Value.oneCell']) (by omega) (by unfold maxLen; omega) (by omega) (by simp; omega) (wr.heap.size + 1) (by simp) ?_))
          intro gg cap1 w1 hown1 hgrow hat hlt'
          have hne := own_ne HO.out HB.out (by decide)
          have hb1 : BsBlock w1 w.heap.size aa2 M2 cc2 0 := heap_gb (heap_keep HB.out _) hgrow (fun e => hne _ e.symm rfl)
          have hbn : Below w.heap.size w w1 := (hbw.alloc hbw.size _).grown hgrow (by simp; omega) (fun g hg => (own_lt HO.out g hg).1)
          rw [vbools_snoc] at hown1
          have k0 := hb1.c0
          have k1 := hb1.f0
          have HB1 := Lib.hid hb1
          have HO1 := Lib.hid hown1
          clear hb1 hgrow hat hown1 hne c0 f0
          go_wp2
          go_roundg (8 - (j + 1))
          case measure => rw [G3.out]; omega
          case rel =>
            refine ⟨j + 1, M2 + 1, cap1, z2 / 2, some ⟨gg, 0, none⟩, by omega, rfl, by go_num, by go_num, ?_, by have := HM2.out; omega, HB1.out.set0, ?_, hbn.setCell (Nat.le_refl _) _⟩
            · rw [HZ.out, Nat.div_div_eq_div_mul, Nat.pow_succ]
            · rw [HSN.out, ← List.append_assoc]
              exact own_set HO1.out (own_ne HO1.out HB1.out (by decide)) _ _
        · have e8 : (bits8 z).take j = bits8 z := List.take_of_length_le (by rw [bits8_length]; omega)
          have ho := HO.out
          rw [e8, ← HTK.out] at ho
          have HO1 := Lib.hid ho
          have hj' : decide ((j : Int) < 8) = false := by simp; omega
          clear ho e8
          go_wp2
          go_roundg (n - (k + 1))
          case measure => rw [G2.out]; omega
          case rel => exact ⟨k + 1, M2, cc2, aa2, by omega, rfl, by go_num, by have := HM.out; have := HM2.out; omega, HB.out, HO1.out, hbw⟩
    · obtain rfl : k = n := by omega
      have e8 : l.take k = l := List.take_of_length_le (by rw [HL.out]; omega)
      have ho := HO.out
      rw [e8] at ho
      have HO1 := Lib.hid ho
      have hm : M = (bitsOf l).length := by rw [bitsOf_length, HL.out]; exact HM.out
      have HM1 := Lib.hid hm
      clear ho e8 hm
      go_wp2
      go_ret
      rw [HM1.out] at HB HO1
      exact ⟨w.heap.size, aa, cc, rfl, HB.out, HO1.out, Nat.le_refl _, hbw⟩
theorem by8_of {w : World} {a : Option Addr} {len cap : Nat} {zs : List Int} (h : IsRow .u8 w a len cap zs) : By8 (zs.take len) := fun z hz => by
  have := h.wf z hz
  simp [Lit.wf, IntKind.min, IntKind.max, IntKind.signed, IntKind.bits] at this
  omega
end Go.Proofs.Ytdhaaeaacbnghaa
