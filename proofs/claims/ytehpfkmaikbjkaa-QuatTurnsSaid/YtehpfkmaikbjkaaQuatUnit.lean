/- quat.unit: numbers with the same proportions whose squares add up to about 1. -/
import Derived.Test.YtehpfkmaikbjkaaVecLen
import Derived.Test.YtehpfkmaikbjkaaQuat1
namespace Go.Proofs.Ytehpfkmaikbjkaa
open Go.ChangeShapes Go.WideShapes Go.ChangeAt Go.RowKit Go.Mem Go.Nb
set_option linter.unusedVariables false
/-- The words of a sum. -/
theorem words_add (S A lo c hi : Nat) (hlo : lo = (S % 18446744073709551616 + A % 18446744073709551616) % 18446744073709551616) (hc : c = (S % 18446744073709551616 + A % 18446744073709551616) / 18446744073709551616) (hhi : hi = S / 18446744073709551616 + A / 18446744073709551616 + c) :
    lo = (S + A) % 18446744073709551616 ∧ hi = (S + A) / 18446744073709551616 ∧ c ≤ 1 := by omega
theorem words_of (S : Nat) : ((S / 18446744073709551616 : Nat) : Int) * 18446744073709551616 + ((S % 18446744073709551616 : Nat) : Int) = (S : Int) := by omega
theorem getD_out {l : List Int} {k : Nat} (h : k < l.length) : l[k] = l.getD k 0 := by rw [List.getD_eq_getElem?_getD, List.getElem?_eq_getElem h]; rfl
set_option maxHeartbeats 8000000 in
set_option maxRecDepth 100000 in
theorem quat_unit (zs : List Int) (a : Option Addr) (n cap : Nat) (hl : zs.length = n) (hn : n ≤ 4) (w : World) (hr : IntsAt .i64 w a zs) :
    Calls Try.prog 91 #[.slice a n cap] w fun e w' => Below w.heap.size w w' ∧ ((farOf zs = 0 ∧ e = .returned (.tuple #[.slice none 0 0, .bool false])) ∨ (0 < farOf zs ∧ ∃ g c, e = .returned (.tuple #[.slice (some ⟨g, 0, none⟩) n c, .bool true]) ∧ IntsAt .i64 w' (some ⟨g, 0, none⟩) (evens zs))) := by
  have HL := Lib.hid hl
  have HR := Lib.hid hr
  clear hl hr
  obtain ⟨i0, hi, hz0, hz1, hz2⟩ := info_parts (show (Try.prog.info? 3).map (fun i => (i.zero, i.size, i.bytes)) = some (some (.int .i64 0), 1, 8) by kernel_rfl)
  go_enter Try.func91, Try.ntmps91
  go_wp2_with (at_make; go_must (refine wpList_make_full _ rfl _ _ 38 rfl w.heap.size 3 i0 (.int .i64 0) 1 Try.underlying38 hi hz0 hz1 _ _ _ _ n rfl rfl (by omega) (by omega) ?b1 ?b2 ?b3 ?_))
  case b1 => rw [hz2]; omega
  case b2 => unfold maxLen; omega
  case b3 => omega
  intro w1 hown hgr
  rw [toList_madeCells_one] at hown
  have hb1 : Below w.heap.size w w1 := (Below.refl _ _).grown hgr (Nat.le_refl _) (fun k hk => by cases hk)
  have hown0 : w1.ownsRow w.heap.size 3 1 (.slice (some ⟨w.heap.size, 0, none⟩) n n) n (vints .i64 (((zs.take 0).map lim) ++ List.replicate n 0)) := by simpa [vints] using hown
  have HO0 := Lib.hid hown0
  clear hgr hi hz0 hz1 hz2 hown hown0
  go_wp2_with fail
  go_loopg [4, 25] n (fun gk vf vi wx => ∃ k : Nat, k ≤ n ∧ gk = n - k ∧ vf = .int .i64 (farOf (zs.take k)) ∧ vi = .int .i64 k ∧ wx.ownsRow w.heap.size 3 1 (.slice (some ⟨w.heap.size, 0, none⟩) n n) n (vints .i64 (((zs.take k).map lim) ++ List.replicate (n - k) 0)) ∧ Below w.heap.size w wx)
  case atStart => exact ⟨0, Nat.zero_le _, rfl, rfl, rfl, HO0.out, hb1⟩
  case round =>
    obtain ⟨k, kn, g2, rfl, rfl, hown, hb⟩ := hrel
    have G2 := Lib.hid g2
    have HO := Lib.hid hown
    clear g2 hown hb1 HO0
    obtain ⟨f, hf⟩ : ∃ f, f = farOf (zs.take k) := ⟨_, rfl⟩
    rw [← hf]
    by_cases hlt : k < n
    · obtain ⟨x, rfl, hx, hc⟩ := (HR.out.below hb) (by rw [HL.out]; omega)
      have hc0 := hc k (by rw [HL.out]; exact hlt)
      have hk : k < zs.length := by rw [HL.out]; exact hlt
      have htk := take_one hk
      have hfar := farOf_snoc (zs.take k) (zs.getD k 0)
      rw [← htk, ← hf] at hfar
      have hfb := farOf_bd (zs.take k)
      rw [← hf] at hfb
      obtain ⟨z, hz⟩ : ∃ z, z = zs.getD k 0 := ⟨_, rfl⟩
      rw [← hz] at hc0 htk hfar
      have hlz := lim_bd z
      have hrl := fun W => fix_Clamp z W
      have hmp : (zs.take (k + 1)).map lim = (zs.take k).map lim ++ [lim z] := by rw [htk]; simp
      obtain ⟨y, hy⟩ : ∃ y, y = lim z := ⟨_, rfl⟩
      rw [← hy] at hfar hlz hrl hmp
      obtain ⟨f2, hf2⟩ : ∃ f2, f2 = farOf (zs.take (k + 1)) := ⟨_, rfl⟩
      rw [← hf2] at hfar
      have HF2 := Lib.hid hf2
      have HRL := Lib.hid hrl
      have hln : ((zs.take k).map lim).length = k := by rw [List.length_map, List.length_take, HL.out]; omega
      have hst := (HO.out.stored k (.int .i64 y)).1
      rw [vints_set, List.set_append_right _ _ (by rw [hln]; exact Nat.le_refl _), hln, Nat.sub_self, show n - k = (n - (k + 1)) + 1 by omega, List.replicate_succ, List.set_cons_zero, show (zs.take k).map lim ++ y :: List.replicate (n - (k + 1)) 0 = (zs.take (k + 1)).map lim ++ List.replicate (n - (k + 1)) 0 by rw [hmp, List.append_assoc]; rfl] at hst
      have HST := Lib.hid hst
      have hll : ((zs.take (k + 1)).map lim ++ List.replicate (n - (k + 1)) 0).length = n := by rw [hmp]; simp [HL.out]; omega
      have e1 := (hst.cellAt k (by omega)).trans (vints_get .i64 _ k (by rw [hll]; exact hlt))
      have hgd : ((zs.take (k + 1)).map lim ++ List.replicate (n - (k + 1)) (0 : Int)).getD k 0 = y := by rw [hmp, List.append_assoc, List.getD_eq_getElem?_getD, List.getElem?_append_right (by rw [hln]; exact Nat.le_refl _), hln, Nat.sub_self]; rfl
      rw [hgd] at e1
      obtain ⟨v0, hv0⟩ : ∃ v, wr.cell? ⟨w.heap.size, k, none⟩ = some v := ⟨_, (HO.out.cellAt k (by omega)).trans (vints_get .i64 _ k (by simp [HL.out]; omega))⟩
      have e2 := HO.out.frozenAt k
      have f0 := hfb.1
      have hcase : (y ≤ f ∧ -y ≤ f ∧ f2 = f) ∨ (f < y ∧ f2 = y) ∨ (f < -y ∧ f2 = -y) := by omega
      have hbn : Below w.heap.size w (wr.setCell ⟨w.heap.size, k, none⟩ (.int .i64 y)) := hb.setCell (Nat.le_refl _) _
      have lx : w.heap.size < wr.heap.size := World.block_lt_of_cell? _ _ hv0
      clear hc htk hfar hfb hz hrl hmp hy hf2 hk hf hln hst hll hgd
      go_wp2_with (go_at_call 39; refine (HRL.out _).mono ?_; rintro e w' ⟨rfl, rfl⟩)
      obtain ⟨W1, hW1⟩ : ∃ W1, W1 = wr.setCell ⟨w.heap.size, k, none⟩ (.int .i64 y) := ⟨_, rfl⟩
      rw [← hW1] at e1 hbn HST ⊢
      have i1 : (0 : Int) ≤ (k : Int) := by omega
      have i2 : (k : Int) < (n : Int) := by omega
      clear hW1 hv0 e2 lx hc0 HO hb
      rcases hcase with ⟨j1, j2, j3⟩ | ⟨j1, j3⟩ | ⟨j1, j3⟩
      all_goals
        have J3 := Lib.hid j3
        clear j3
        go_quiet (fail)
        go_wp2
        go_roundg (n - (k + 1))
        case measure => rw [G2.out]; omega
        case rel => exact ⟨k + 1, hlt, rfl, by rw [← HF2.out, J3.out], by go_num, own_keep HST.out (fun _ _ => rfl), below_drewN hbn _⟩
    · obtain rfl : k = n := by omega
      have htk : zs.take k = zs := List.take_of_length_le (by rw [HL.out]; exact Nat.le_refl _)
      have ho := HO.out
      rw [Nat.sub_self, List.replicate_zero, List.append_nil] at ho
      rw [htk] at hf ho
      have HF := Lib.hid hf
      have fb := farOf_bd zs
      rw [← hf] at fb
      obtain ⟨f0, f1, fb3, _⟩ := fb
      have FB := Lib.hid fb3
      clear HO htk hf fb3
      by_cases hz : f = 0
      · subst hz
        go_wp2
        go_ret2
        exact ⟨hb, .inl ⟨HF.out.symm, rfl⟩⟩
      · have ht : (f == 0) = false := by rw [beq_eq_false_iff_ne]; exact hz
        have hfp : 0 < f := by omega
        have HO := Lib.hid ho
        obtain ⟨ls, hls⟩ : ∃ ls, ls = zs.map lim := ⟨_, rfl⟩
        have hll : ls.length = k := by rw [hls, List.length_map, HL.out]
        rw [← hls] at ho
        have HO2 := Lib.hid ho
        have HLS := Lib.hid hls
        have HLL := Lib.hid hll
        clear ho hz HO hls hll
        go_wp2_with fail
        go_loopg [4, 8] 31 (fun gk vm _ wx => ∃ (j : Nat) (m : Int), gk = 31 - j ∧ vm = .int .i64 m ∧ Upto f m j ∧ wx.ownsRow w.heap.size 3 1 (.slice (some ⟨w.heap.size, 0, none⟩) k k) k (vints .i64 (ls.map (· * 2 ^ j))) ∧ Below w.heap.size w wx)
        case atStart => exact ⟨0, f, rfl, rfl, upto_start hfp, by simpa using HO2.out, hb⟩
        case round =>
          obtain ⟨j, m, g2, rfl, hu, hown, hb2⟩ := hrel
          have G3 := Lib.hid g2
          have HU := Lib.hid hu
          obtain ⟨u1, u2, u3, u4, u5⟩ := hu
          have hm0 : m ≤ 1099511627776 := by
            rcases u5 with h | h
            · omega
            · subst h; simp at u3; omega
          have U3 := Lib.hid u3
          have hj1 : j < 31 := by omega
          have hm1 : 0 < m := by
            have : (0 : Int) < 2 ^ j := Int.pow_pos (by omega)
            omega
          obtain ⟨ps, hps⟩ : ∃ ps, ps = ls.map (· * 2 ^ j) := ⟨_, rfl⟩
          have hpl : ps.length = k := by rw [hps, List.length_map, HLL.out]
          have hpb : ∀ i (h : i < ps.length), -m ≤ ps[i] ∧ ps[i] ≤ m := by
            intro i h
            have hs : (0 : Int) < 2 ^ j := Int.pow_pos (by omega)
            subst hps
            rw [List.getElem_map]
            have hi : i < zs.length := by rw [HL.out, ← hpl]; exact h
            have hx : -f ≤ ls[i]'(by simpa using h) ∧ ls[i]'(by simpa using h) ≤ f := by
              have := FB.out (zs[i]) (List.getElem_mem hi)
              have e : ls[i]'(by simpa using h) = lim zs[i] := by simp [HLS.out]
              rw [e]; exact this
            have p1 := Int.mul_le_mul_of_nonneg_right hx.2 (show (0 : Int) ≤ 2 ^ j by omega)
            have p2 := Int.mul_le_mul_of_nonneg_right hx.1 (show (0 : Int) ≤ 2 ^ j by omega)
            rw [Int.neg_mul] at p2
            rw [← u3] at p1 p2
            exact ⟨p2, p1⟩
          rw [← hps] at hown
          have HPS := Lib.hid hps
          have HPL := Lib.hid hpl
          have HPB := Lib.hid hpb
          have HOW := Lib.hid hown
          clear g2 u1 u2 u3 u4 u5 hps hpl hpb hown HO2 hb
          by_cases hlt : m < 1073741824
          · have HLT := Lib.hid (upto_step HU.out hlt)
            go_wp2_with fail
            obtain ⟨wo, rfl⟩ : ∃ wo : World, wo = wr := ⟨_, rfl⟩
            go_loopg [8, 55] k (fun gk2 _ vi wx => ∃ q : Nat, q ≤ k ∧ gk2 = k - q ∧ vi = .int .i64 q ∧ wx.ownsRow w.heap.size 3 1 (.slice (some ⟨w.heap.size, 0, none⟩) k k) k (vints .i64 ((ps.take q).map (fun z : Int => z * 2) ++ ps.drop q)) ∧ Below w.heap.size w wx)
            case atStart => exact ⟨0, Nat.zero_le _, rfl, rfl, by simpa using HOW.out, hb2⟩
            case round =>
              obtain ⟨q, qk, g3, rfl, hown, hb3⟩ := hrel
              have G4 := Lib.hid g3
              clear g3 HOW hb2
              by_cases hq : q < k
              · have hql : q < ps.length := by rw [HPL.out]; exact hq
                obtain ⟨x, hx⟩ : ∃ x, x = ps.getD q 0 := ⟨_, rfl⟩
                have e1 := (hown.cellAt q (by omega)).trans (vints_get .i64 _ q (by rw [len_mid _ _ (by rw [HPL.out]; omega), HPL.out]; exact hq))
                rw [get_mid ps q hql, ← hx] at e1
                have e2 := hown.frozenAt q
                have hxe : ps[q] = x := by rw [hx]; exact getD_out hql
                have hxb : -m ≤ x ∧ x ≤ m := by rw [← hxe]; exact HPB.out q hql
                have hst := (hown.stored q (.int .i64 (x * 2))).1
                have hsm : ((ps.take q).map (fun z : Int => z * 2) ++ ps.drop q).set q (ps[q] * 2) = (ps.take (q + 1)).map (fun z : Int => z * 2) ++ ps.drop (q + 1) := set_mid (fun z : Int => z * 2) ps q hql
                rw [hxe] at hsm
                rw [vints_set, hsm] at hst
                have HST := Lib.hid hst
                have hbn : Below w.heap.size w (wr.setCell ⟨w.heap.size, q, none⟩ (.int .i64 (x * 2))) := hb3.setCell (Nat.le_refl _) _
                clear hql hx hst hsm hxe hown
                go_wp2
                go_roundg (k - (q + 1))
                case measure => rw [G4.out]; omega
                case rel => exact ⟨q + 1, hq, rfl, by go_num, HST.out, hbn⟩
              · obtain rfl : q = k := by omega
                rw [List.take_of_length_le (by rw [HPL.out]; exact Nat.le_refl _), List.drop_of_length_le (by rw [HPL.out]; exact Nat.le_refl _), List.append_nil] at hown
                have hpe : ps.map (fun z : Int => z * 2) = ls.map (· * 2 ^ (j + 1)) := by
                  rw [HPS.out, List.map_map]
                  apply List.map_congr_left
                  intro z _
                  show z * 2 ^ j * 2 = z * 2 ^ (j + 1)
                  rw [Int.mul_assoc, Int.pow_succ]
                rw [hpe] at hown
                have HOF := Lib.hid hown
                have hup : Upto f (m * 2) (j + 1) := by rw [Int.mul_comm m 2]; exact HLT.out
                have HUP := Lib.hid hup
                clear hown hpe hup
                go_wp2
                go_roundg (31 - (j + 1))
                case measure => rw [G3.out]; omega
                case rel => exact ⟨j + 1, m * 2, rfl, rfl, HUP.out, HOF.out, hb3⟩
          · have hlt' : ¬ m < 1073741824 := hlt
            have hj := upto_stop HU.out (by omega)
            have hs : scOf zs = 2 ^ j := by unfold scOf; rw [← HF.out, ← hj]
            have hbd := sced_bd zs m (by rw [hs, ← HF.out]; exact U3.out.symm) hm0 hm1
            have hss : ps = sced zs := by rw [HPS.out, HLS.out]; unfold sced; rw [hs]
            rw [← hss] at hbd
            have hL1 := long_pos ps hbd.2
            have hL2 := (long_bd ps hbd.1 (by rw [HPL.out]; exact hn)).2
            have HSS := Lib.hid hss
            have HBD := Lib.hid hbd
            have hsqb := sumsq_bd ps hbd.1
            rw [HPL.out] at hsqb
            have HSQB := Lib.hid hsqb
            obtain ⟨L, hL⟩ : ∃ L, L = long ps := ⟨_, rfl⟩
            rw [← hL] at hL1 hL2
            have HLE := Lib.hid hL
            clear hj hs hss hbd hsqb hL HPS HPB HU U3
            go_wp2_with fail
            go_loopg [9, 10, 11, 67] k (fun gk vh vl _ vi wx => ∃ q S : Nat, q ≤ k ∧ gk = k - q ∧ vi = .int .i64 q ∧ (S : Int) = sumsq (ps.take q) ∧ vh = .int .u64 ((S / 18446744073709551616 : Nat) : Int) ∧ vl = .int .u64 ((S % 18446744073709551616 : Nat) : Int) ∧ wx = wr)
            case atStart => exact ⟨0, 0, Nat.zero_le _, rfl, rfl, rfl, rfl, rfl, rfl⟩
            case round =>
              obtain ⟨q, S, qk, g2, rfl, hS, rfl, rfl, rfl⟩ := hrel
              have G4 := Lib.hid g2
              clear g2
              by_cases hq : q < k
              · have hql : q < ps.length := by rw [HPL.out]; exact hq
                obtain ⟨y, hy⟩ : ∃ y, y = ps.getD q 0 := ⟨_, rfl⟩
                have e1 := (HOW.out.cellAt q (by omega)).trans (vints_get .i64 _ q hql)
                rw [← hy] at e1
                have hyb : -1099511627776 ≤ y ∧ y ≤ 1099511627776 := by rw [hy, ← getD_out hql]; exact HBD.out.1 _ (List.getElem_mem hql)
                have hsq := sumsq_take ps q hql
                rw [← hy, ← hS] at hsq
                have hyy := natAbs_sq y
                obtain ⟨N, hN⟩ : ∃ N, N = y.natAbs := ⟨_, rfl⟩
                have hmx : max y (-y) = (N : Int) := by omega
                have hNb : N ≤ 1099511627776 := by omega
                rw [← hN] at hyy
                obtain ⟨A, hA⟩ : ∃ A, A = N * N := ⟨_, rfl⟩
                rw [← hA] at hyy
                have hAb : A ≤ 1208925819614629174706176 := by rw [hA]; exact Nat.mul_le_mul hNb hNb
                have hS2 : ((S + A : Nat) : Int) = sumsq (ps.take (q + 1)) := by rw [hsq, ← hyy]; rfl
                have hSb : S ≤ 4835703278458516698824704 := by
                  have h1 := sumsq_bd (ps.take q) (fun z hz => HBD.out.1 z (List.mem_of_mem_take hz))
                  have h2 : (ps.take q).length ≤ 4 := by rw [List.length_take]; omega
                  rw [← hS] at h1; omega
                have hmul : ∀ w, Calls Try.prog 20 #[.int .u64 (N : Int), .int .u64 (N : Int)] w fun e w' => e = .returned (.tuple #[.int .u64 ((A / 18446744073709551616 : Nat) : Int), .int .u64 ((A % 18446744073709551616 : Nat) : Int)]) ∧ w = w' := fun w => by
                  rw [hA]; exact bits_Mul64 N N (by omega) (by omega) w
                obtain ⟨lo, hlo⟩ : ∃ n : Nat, n = (S % 18446744073709551616 + A % 18446744073709551616) % 18446744073709551616 := ⟨_, rfl⟩
                obtain ⟨c, hc⟩ : ∃ n : Nat, n = (S % 18446744073709551616 + A % 18446744073709551616) / 18446744073709551616 := ⟨_, rfl⟩
                obtain ⟨hi, hhi⟩ : ∃ n : Nat, n = S / 18446744073709551616 + A / 18446744073709551616 + c := ⟨_, rfl⟩
                obtain ⟨hw1, hw2, hc1⟩ := words_add S A lo c hi hlo hc hhi
                have hhb : hi < 1048576 := by omega
                obtain ⟨L1, l1⟩ : ∃ n, n = S % 18446744073709551616 := ⟨_, rfl⟩
                obtain ⟨L2, l2⟩ : ∃ n, n = A % 18446744073709551616 := ⟨_, rfl⟩
                obtain ⟨H1, h1⟩ : ∃ n, n = S / 18446744073709551616 := ⟨_, rfl⟩
                obtain ⟨H2, h2⟩ : ∃ n, n = A / 18446744073709551616 := ⟨_, rfl⟩
                rw [← l1, ← l2] at hlo hc
                rw [← h1, ← h2] at hhi
                rw [← l2, ← h2] at hmul
                rw [← l1, ← h1]
                have A1 : ∀ w, (callFunc 21 #[.int .u64 L1, .int .u64 L2, .int .u64 0]).run Try.prog w = .ok (.value (.tuple #[.int .u64 lo, .int .u64 c])) w := by
                  intro w; rw [run_Add64_0 _ _ (by omega) (by omega), show ((L1 : Int) + L2) % 18446744073709551616 = lo by omega, show ((L1 : Int) + L2) / 18446744073709551616 = c by omega]
                have A2 : ∀ w, (callFunc 21 #[.int .u64 H1, .int .u64 H2, .int .u64 c]).run Try.prog w = .ok (.value (.tuple #[.int .u64 hi, .int .u64 0])) w := by
                  intro w; rw [run_Add64 _ _ _ (by omega) (by omega) (by omega) (by omega), show ((H1 : Int) + H2 + c) % 18446744073709551616 = hi by omega, show ((H1 : Int) + H2 + c) / 18446744073709551616 = 0 by omega]
                have HMUL := Lib.hid hmul
                have HW1 := Lib.hid hw1
                have HW2 := Lib.hid hw2
                have HS2 := Lib.hid hS2
                clear hql hy hsq hyy hN hA hmul hlo hc hhi hw1 hw2 l1 l2 h1 h2 hS2 hS
                go_wp2_with (go_at_call 20; refine (HMUL.out _).mono ?_; rintro e w' ⟨rfl, rfl⟩)
                go_roundg (k - (q + 1))
                case measure => rw [G4.out]; omega
                case rel => exact ⟨q + 1, S + A, hq, rfl, by go_num, HS2.out, by rw [HW2.out], by rw [HW1.out], rfl⟩
              · obtain rfl : q = k := by omega
                rw [List.take_of_length_le (by rw [HPL.out]; exact Nat.le_refl _)] at hS
                have hroot : ∀ w, Calls Try.prog 19 #[.int .u64 ((S / 18446744073709551616 : Nat) : Int), .int .u64 ((S % 18446744073709551616 : Nat) : Int)] w fun e w' => e = .returned (.int .u64 L) ∧ w = w' := fun w => by
                  have hSb : S ≤ 4835703278458516698824704 := by
                    have h1 := HSQB.out
                    rw [← hS] at h1; omega
                  have := fix_RootI ((S / 18446744073709551616 : Nat) : Int) ((S % 18446744073709551616 : Nat) : Int) (by omega) (by omega) (by omega) (by omega) w
                  rw [words_of S, Int.toNat_natCast] at this
                  have e : ((rt S : Nat) : Int) = L := by rw [HLE.out]; unfold long; rw [← hS, Int.toNat_natCast]
                  rw [e] at this
                  exact this
                have HROOT := Lib.hid hroot
                obtain ⟨H1, h1⟩ : ∃ n, n = S / 18446744073709551616 := ⟨_, rfl⟩
                obtain ⟨L1, l1⟩ : ∃ n, n = S % 18446744073709551616 := ⟨_, rfl⟩
                rw [← h1, ← l1] at HROOT ⊢
                clear hS hroot h1 l1
                go_wp2_with (go_at_call 19; refine (HROOT.out _).mono ?_; rintro e w' ⟨rfl, rfl⟩)
                go_loopg [105] q (fun gk vi wx => ∃ r : Nat, r ≤ q ∧ gk = q - r ∧ vi = .int .i64 r ∧ wx.ownsRow w.heap.size 3 1 (.slice (some ⟨w.heap.size, 0, none⟩) q q) q (vints .i64 ((ps.take r).map (ev1 L) ++ ps.drop r)) ∧ Below w.heap.size w wx)
                case atStart => exact ⟨0, Nat.zero_le _, rfl, rfl, by simpa using HOW.out, hb2⟩
                case round =>
                  obtain ⟨r, rq, g2, rfl, hown, hb7⟩ := hrel
                  have G5 := Lib.hid g2
                  clear g2 hb2 HOW
                  by_cases hr : r < q
                  · have hrl : r < ps.length := by rw [HPL.out]; exact hr
                    obtain ⟨y, hy⟩ : ∃ y, y = ps.getD r 0 := ⟨_, rfl⟩
                    have e1 := (hown.cellAt r (by omega)).trans (vints_get .i64 _ r (by rw [len_mid _ _ (by rw [HPL.out]; omega), HPL.out]; exact hr))
                    rw [get_mid ps r hrl, ← hy] at e1
                    have e2 := hown.frozenAt r
                    have hye : ps[r] = y := by rw [hy]; exact getD_out hrl
                    have hyb : -1099511627776 ≤ y ∧ y ≤ 1099511627776 := by rw [← hye]; exact HBD.out.1 _ (List.getElem_mem hrl)
                    have hdc := div_cases (2 * y * 65536 + L) (2 * L) (by omega)
                    have hev : ev1 L y = (2 * y * 65536 + L) / (2 * L) := rfl
                    have heb := ediv_bd (2 * y * 65536 + L) (2 * L) 144115188075855872 144117387099111424 (by omega) (by omega) (by omega) (by omega) (by omega)
                    obtain ⟨X, hX⟩ : ∃ X, 2 * y * 65536 + L = X := ⟨_, rfl⟩
                    have hXb : -144115188075855872 ≤ X ∧ X ≤ 144117387099111424 := by omega
                    obtain ⟨v, hv⟩ : ∃ v, v = X / (2 * L) := ⟨_, rfl⟩
                    rw [hX, ← hv] at hev heb hdc
                    have hst := (hown.stored r (.int .i64 v)).1
                    have hsm := set_mid (ev1 L) ps r hrl
                    rw [hye, hev] at hsm
                    rw [vints_set, hsm] at hst
                    have HSM := Lib.hid hsm
                    have HST := Lib.hid hst
                    have HOW := Lib.hid hown
                    have hbn : Below w.heap.size w (wr.setCell ⟨w.heap.size, r, none⟩ (.int .i64 v)) := hb7.setCell (Nat.le_refl _) _
                    have lx : w.heap.size < wr.heap.size := World.block_lt_of_cell? _ _ e1
                    clear hrl hy hye hev hst hsm hown
                    rcases hdc with ⟨c1, c2⟩ | ⟨c1, c2, c3⟩ | ⟨c1, c2, c3⟩
                    · have c3 : X / (2 * L) = v := hv.symm
                      clear hv c2
                      go_wp2
                      go_roundg (q - (r + 1))
                      case measure => rw [G5.out]; omega
                      case rel => exact ⟨r + 1, hr, rfl, by go_num, HST.out, hbn⟩
                    · have c4 : (X.tmod (2 * L) != 0) = false := by rw [c2]; rfl
                      clear hv c2
                      go_wp2
                      go_roundg (q - (r + 1))
                      case measure => rw [G5.out]; omega
                      case rel => exact ⟨r + 1, hr, rfl, by go_num, HST.out, hbn⟩
                    · obtain ⟨t, ht⟩ : ∃ t, X.tdiv (2 * L) = t := ⟨_, rfl⟩
                      obtain ⟨u, hu⟩ : ∃ u, X.tmod (2 * L) = u := ⟨_, rfl⟩
                      rw [hu] at c2
                      rw [ht] at c3
                      have c4 : (u != 0) = true := by rw [bne_iff_ne]; exact c2
                      have tb : -144115188075855872 ≤ t ∧ t ≤ 144117387099111425 := by omega
                      have s1 := (HOW.out.stored r (.int .i64 t)).1
                      have s2 := (s1.stored r (.int .i64 v)).1
                      rw [List.set_set, vints_set, HSM.out] at s2
                      have e3 : (wr.setCell ⟨w.heap.size, r, none⟩ (.int .i64 t)).cell? ⟨w.heap.size, r, none⟩ = some (.int .i64 t) := by
                        rw [s1.cellAt r (by omega), List.getElem?_set_self (by rw [vints_length, len_mid _ _ (by rw [HPL.out]; omega), HPL.out]; exact hr)]
                      have e4 := s1.frozenAt r
                      have hbm : Below w.heap.size w ((wr.setCell ⟨w.heap.size, r, none⟩ (.int .i64 t)).setCell ⟨w.heap.size, r, none⟩ (.int .i64 v)) := (hb7.setCell (Nat.le_refl _) _).setCell (Nat.le_refl _) _
                      have S2 := Lib.hid s2
                      have C3 := c3
                      clear hv c2 s1 s2 C3
                      go_wp2
                      go_roundg (q - (r + 1))
                      case measure => rw [G5.out]; omega
                      case rel => exact ⟨r + 1, hr, rfl, by go_num, S2.out, hbm⟩
                  · obtain rfl : r = q := by omega
                    have hev : (ps.take r).map (ev1 L) ++ ps.drop r = evens zs := by
                      rw [List.take_of_length_le (by rw [HPL.out]; exact Nat.le_refl _), List.drop_of_length_le (by rw [HPL.out]; exact Nat.le_refl _), List.append_nil, HLE.out, HSS.out]; rfl
                    rw [hev] at hown
                    have hle : (evens zs).length = r := by unfold evens; rw [List.length_map, ← HSS.out, HPL.out]
                    have HIV := Lib.hid (IntsAt.of_own hown hle.symm)
                    have hfp' : 0 < farOf zs := by rw [← HF.out]; exact hfp
                    have HFP := Lib.hid hfp'
                    clear hev hown hle hfp'
                    go_wp2
                    go_ret2
                    exact ⟨hb7, .inr ⟨HFP.out, _, _, rfl, HIV.out⟩⟩
end Go.Proofs.Ytehpfkmaikbjkaa
