/- The reference's Bits: Bytes. -/
import Derived.Test.YtdhaaeaacbnghaaBitsAdd
import Derived.StillTailTactics
namespace Go.Proofs.Ytdhaaeaacbnghaa
open Go.ChangeShapes Go.WideShapes Go.ChangeAt Go.RowKit Go.Mem Go.Bp
set_option linter.unusedVariables false

theorem take_snocB' (L : List Bool) (i : Nat) (h : i < L.length) : L.take (i + 1) = L.take i ++ [L.getD i false] := take_snocB L i h
theorem set_self (l : List Int) (q : Nat) (z : Int) (h : l.getD q 0 = z) (hq : q < l.length) : l.set q z = l := by
  apply List.ext_getElem
  · simp
  · intro i h1 h2
    rw [List.getElem_set]
    by_cases e : q = i
    · subst e; rw [if_pos rfl, ← h]; simp [hq]
    · rw [if_neg e]
def RBytesPost (zs : List Int) (w : World) (e : Ending) (w' : World) : Prop := ∃ a, e = .returned (.slice a zs.length zs.length) ∧ IntsAt .u8 w' a zs ∧ Below w.heap.size w w'
set_option maxHeartbeats 16000000 in
set_option maxRecDepth 100000 in
theorem bs_Bytes (w : World) (D g : Nat) (x : Value) (L : List Bool) (hl : L.length ≤ 524288) (hw : Bs w D g x L) : Calls Try.prog 63 #[.pointer (some ⟨g, 0, none⟩)] w (RBytesPost (packB L) w) := by
  have c0 := hw.c0
  have hown := hw.own
  obtain ⟨a, c, rfl, _, _⟩ := own_slice hown
  obtain ⟨m, hm⟩ : ∃ m, m = L.length := ⟨_, rfl⟩
  rw [← hm] at c0 hl
  have HOWN := Lib.hid hown
  have HM := Lib.hid hm
  have HIN := Lib.hid (BoolsAt.of_own hown rfl)
  obtain ⟨N, hN⟩ : ∃ N, N = (m + 7) / 8 := ⟨_, rfl⟩
  have q1 : ((m : Int) + 7) / 8 = N := by omega
  have bN : N ≤ 65536 := by omega
  have HN := Lib.hid hN
  clear hw hown hm hN
  go_enter Try.func63, Try.ntmps63
  have Q1 := Lib.hid q1
  clear q1
  go_wp2_with (at_make; go_must (refine wpList_make_rowB rfl _ _ 35 rfl 5 .u8 1 Try.underlying35 (by kernel_rfl) _ _ _ _ N rfl rfl Q1.out Q1.out ?b1 ?b2 ?_))
  case b1 => omega
  case b2 => unfold maxLen; omega
  intro w1 hro hb1 hz1
  have k0 := (hb1.cell (p := ⟨g, 0, none⟩) (by exact World.block_lt_of_cell? _ _ c0)).trans c0
  rw [← packN_nil N] at hro
  have HRO := Lib.hid hro
  have hgN : g < w.heap.size := World.block_lt_of_cell? _ _ c0
  have HBW := Lib.hid hb1
  obtain ⟨B, hB⟩ : ∃ B, B = w.heap.size := ⟨_, rfl⟩
  rw [← hB] at HRO hgN
  have HB := Lib.hid hB
  rw [← hB]
  clear hro hb1 hz1 c0 hB
  go_wp2_with fail
  clear k0
  go_loopg [4, 5, 19] m (fun gk _ _ vi wx => ∃ i : Nat, i ≤ m ∧ gk = m - i ∧ vi = .int .i64 i ∧ RowB wx B 5 .u8 (packN N (L.take i)) ∧ Below B w wx)
  case atStart => exact ⟨0, by omega, rfl, rfl, HRO.out, by rw [HB.out]; exact HBW.out⟩
  case round =>
    obtain ⟨i, hi, g2, rfl, hro, hbw⟩ := hrel
    have G2 := Lib.hid g2
    have HRB := Lib.hid hro
    have HI := Lib.hid (HIN.out.below (show Below w.heap.size w wr by rw [← HB.out]; exact hbw))
    clear g2 hro HRO HBW
    by_cases hlt : i < m
    · obtain ⟨x, rfl, hx, hc⟩ := HI.out (by rw [← HM.out]; omega)
      have hcell := hc i (by rw [← HM.out]; exact hlt)
      obtain ⟨b, hb⟩ : ∃ b, b = L.getD i false := ⟨_, rfl⟩
      rw [← hb] at hcell
      have htk := take_snocB' L i (by rw [← HM.out]; exact hlt)
      rw [← hb] at htk
      have htl : (L.take i).length = i := by rw [List.length_take, ← HM.out]; omega
      obtain ⟨q, hq⟩ : ∃ q, q = i / 8 := ⟨_, rfl⟩
      obtain ⟨r, hr⟩ : ∃ r, r = i % 8 := ⟨_, rfl⟩
      have hqr : i = 8 * q + r := by omega
      have hr8 : r < 8 := by omega
      have hqN : q < N := by have := HN.out; omega
      have hset := packN_set N (L.take i) b q r (by rw [htl]; exact hqr) hr8
      rw [← htk] at hset
      obtain ⟨z, hz⟩ : ∃ z, z = bval (seg (L.take i) (8 * q) 8) := ⟨_, rfl⟩
      have hgz : (packN N (L.take i)).getD q 0 = z := by rw [packN_get _ _ _ hqN, ← hz]
      have hznew : z + 2 ^ r * b.toNat < 256 := by rw [hz]; exact byte_new _ b q r (by rw [htl]; exact hqr) hr8
      rw [← hz] at hset
      have HSET := Lib.hid hset
      have HGZ := Lib.hid hgz
      have HQR := Lib.hid hqr
      clear hc hb htk htl hq hr hset hgz hqr hz
      cases b with
      | false =>
        have hs2 : packN N (L.take (i + 1)) = packN N (L.take i) := by
          rw [HSET.out]
          exact set_self _ q _ (by rw [HGZ.out]; simp) (by rw [packN_length]; exact hqN)
        have HS2 := Lib.hid hs2
        clear hs2
        go_wp2
        go_roundg (m - (i + 1))
        case measure => rw [G2.out]; omega
        case rel => exact ⟨i + 1, by omega, rfl, by go_num, by rw [HS2.out]; exact HRB.out, hbw⟩
      | true =>
        obtain ⟨Z, hZ⟩ : ∃ Z, Z = z + 2 ^ r * true.toNat := ⟨_, rfl⟩
        rw [← hZ] at hznew
        have hZ' : Z = z + 2 ^ r := by rw [hZ]; simp
        have e1 : IntKind.i64.wrap ((i : Int) / 8) = q := by have := HQR.out; rw [IntKind.wrap_i64]; omega
        have e2 : (i : Int).tmod 8 = r := by rw [Int.tmod_eq_emod_of_nonneg (by omega)]; have := HQR.out; omega
        have e3 : (0 : Int) ≤ q := by omega
        have e4 : (q : Int) < N := by omega
        have e5 : (0 : Int) ≤ r := by omega
        have e6 : (r : Int) < 8 := by omega
        obtain ⟨sh, hsh⟩ : ∃ sh, sh = 2 ^ r := ⟨_, rfl⟩
        have e7 : IntKind.u8.wrap (2 ^ r) = (sh : Int) := by rw [pow_cast, ← hsh, u8_in _ (by rw [hZ', ← hsh] at hznew; omega)]
        have e8 : IntKind.u8.wrap ((z : Int) + sh) = (Z : Int) := by
          have : ((z : Int) + sh) = ((Z : Nat) : Int) := by rw [hZ', ← hsh]; omega
          rw [this, u8_in _ hznew]
        have HZS := Lib.hid hZ
        clear hZ hZ' hsh
        go_wp2_with fail
        refine wp_region_still_tail 10 (by kernel_rfl) (by kernel_rfl) ?_
        simp only [List.take_succ_cons, List.take_zero, List.drop_succ_cons, List.drop_zero]
        change wpStill _ _ wr.drew (fun a' => wpList _ _ _ _ a' wr.drew) _ _
        have HRB2 := Lib.hid (show RowB wr.drew B 5 .u8 (packN N (L.take i)) from HRB.out)
        replace hbw : Below B w wr.drew := hbw.drew
        generalize wr.drew = W3 at *
        have k1 := HRB2.out.cell q (by rw [packN_length]; exact hqN)
        rw [HGZ.out] at k1
        have k2 := HRB2.out.frozen q
        repeat still_step
        refine wpStill_nil ?_
        go_wp2
        go_roundg (m - (i + 1))
        case measure => rw [G2.out]; omega
        case rel => exact ⟨i + 1, by omega, rfl, by go_num, by rw [HSET.out, ← HZS.out]; exact HRB2.out.set q _, hbw.setCell (Nat.le_refl _) _⟩
    · obtain rfl : i = m := by omega
      have hd : decide (i < i) = false := by simp
      have et : L.take i = L := List.take_of_length_le (by rw [← HM.out]; exact Nat.le_refl _)
      have hro := HRB.out
      rw [et] at hro
      have hp : packN N L = packB L := by unfold packB; rw [← HM.out, ← HN.out]
      rw [hp] at hro
      have HRO := Lib.hid hro
      have hpl : (packB L).length = N := by rw [← hp, packN_length]
      have HPL := Lib.hid hpl
      clear et hro hp hpl
      go_wp2
      go_ret
      exact ⟨_, by rw [HPL.out]; rfl, HRO.out.ints, by rw [← HB.out]; exact hbw⟩
end Go.Proofs.Ytdhaaeaacbnghaa
