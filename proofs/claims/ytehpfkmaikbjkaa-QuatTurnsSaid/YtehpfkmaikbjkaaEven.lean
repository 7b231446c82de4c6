/- The reference's Even: numbers with the same proportions whose squares add up to about 1. -/
import Derived.Test.YtehpfkmaikbjkaaLong
import Derived.Test.YtehpfkmaikbjkaaOwn
import Derived.WalkLawsBesides
import Derived.Deep.DeepMust
namespace Go.Proofs.Ytehpfkmaikbjkaa
open Go.ChangeShapes Go.WideShapes Go.ChangeAt Go.RowKit Go.Mem Go.Nb
set_option linter.unusedVariables false
/-- The greatest absolute value. -/
def farOf (l : List Int) : Int := l.foldl (fun f n => max (max f (lim n)) (-lim n)) 0
theorem farOf_snoc (l : List Int) (z : Int) : farOf (l ++ [z]) = max (max (farOf l) (lim z)) (-lim z) := by simp [farOf, List.foldl_append]
theorem farOf_ind (P : List Int → Prop) (h0 : P []) (h1 : ∀ l z, P l → P (l ++ [z])) (l : List Int) : P l := by
  have : ∀ n, ∀ l : List Int, l.length = n → P l := by
    intro n
    induction n with
    | zero => intro l hl; rw [List.eq_nil_of_length_eq_zero hl]; exact h0
    | succ n ih =>
      intro l hl
      rcases List.eq_nil_or_concat l with rfl | ⟨s, z, rfl⟩
      · exact h0
      · rw [List.concat_eq_append]; exact h1 s z (ih s (by simp at hl; exact hl))
  exact this _ l rfl
theorem farOf_bd (l : List Int) : 0 ≤ farOf l ∧ farOf l ≤ 1099511627776 ∧ (∀ z ∈ l, -farOf l ≤ lim z ∧ lim z ≤ farOf l) ∧ (0 < farOf l → ∃ z ∈ l, lim z = farOf l ∨ lim z = -farOf l) := by
  refine farOf_ind (fun l => 0 ≤ farOf l ∧ farOf l ≤ 1099511627776 ∧ (∀ z ∈ l, -farOf l ≤ lim z ∧ lim z ≤ farOf l) ∧ (0 < farOf l → ∃ z ∈ l, lim z = farOf l ∨ lim z = -farOf l)) ?_ ?_ l
  · simp [farOf]
  · intro l z ⟨h1, h2, h3, h4⟩
    have hz := lim_bd z
    have e := farOf_snoc l z
    refine ⟨by omega, by omega, fun x hx => ?_, fun h => ?_⟩
    · rcases List.mem_append.1 hx with hx | hx
      · have := h3 x hx; omega
      · rw [List.mem_singleton.1 hx]; omega
    · by_cases c : farOf (l ++ [z]) = farOf l
      · obtain ⟨x, hx, hx2⟩ := h4 (by omega)
        exact ⟨x, by simp [hx], by omega⟩
      · exact ⟨z, by simp, by omega⟩
def scOf (l : List Int) : Int := 2 ^ up 30 (farOf l)
def sced (l : List Int) : List Int := (l.map lim).map (· * scOf l)
def ev1 (L x : Int) : Int := (2 * x * 65536 + L) / (2 * L)
def evens (l : List Int) : List Int := (sced l).map (ev1 (long (sced l)))
/-- The scaled numbers are bounded. -/
theorem sced_bd (l : List Int) (m : Int) (hm : farOf l * scOf l = m) (h1 : m ≤ 1099511627776) (h0 : 0 < m) : (∀ z ∈ sced l, -1099511627776 ≤ z ∧ z ≤ 1099511627776) ∧ 0 < sumsq (sced l) := by
  obtain ⟨b1, b2, b3, b4⟩ := farOf_bd l
  have hs : 0 < scOf l := by unfold scOf; exact Int.pow_pos (by omega)
  have hf : 0 < farOf l := by
    rcases Int.lt_or_le 0 (farOf l) with h | h
    · exact h
    · have : farOf l = 0 := by omega
      rw [this] at hm; simp at hm; omega
  refine ⟨fun z hz => ?_, ?_⟩
  · obtain ⟨y, hy, rfl⟩ := List.mem_map.1 hz
    obtain ⟨x, hx, rfl⟩ := List.mem_map.1 hy
    have hb := b3 x hx
    have p1 : lim x * scOf l ≤ farOf l * scOf l := Int.mul_le_mul_of_nonneg_right hb.2 (by omega)
    have p2 : -farOf l * scOf l ≤ lim x * scOf l := Int.mul_le_mul_of_nonneg_right hb.1 (by omega)
    rw [Int.neg_mul] at p2
    show -1099511627776 ≤ lim x * scOf l ∧ lim x * scOf l ≤ 1099511627776
    omega
  · obtain ⟨x, hx, hx2⟩ := b4 hf
    have key : ∀ (s : List Int) (y : Int), y ∈ s → y * y ≤ sumsq s ∧ 0 ≤ sumsq s := by
      intro s
      induction s with
      | nil => intro y hy; cases hy
      | cons a r ih =>
        intro y hy
        have ha : 0 ≤ a * a := (sq_bd a (a.natAbs : Int) (by omega) (by omega)).1
        have hr : 0 ≤ sumsq r := by
          cases r with
          | nil => simp [sumsq]
          | cons b t => exact (ih b (by simp)).2
        simp only [sumsq]
        rcases List.mem_cons.1 hy with rfl | hy
        · omega
        · have := (ih y hy).1; omega
    have h2 := (key (sced l) (lim x * scOf l) (List.mem_map.2 ⟨lim x, List.mem_map.2 ⟨x, hx, rfl⟩, rfl⟩)).1
    have h3 : lim x * scOf l = m ∨ lim x * scOf l = -m := by
      rcases hx2 with h | h
      · left; rw [h, hm]
      · right; rw [h, Int.neg_mul, hm]
    have h4 : (lim x * scOf l) * (lim x * scOf l) = m * m := by
      rcases h3 with h | h
      · rw [h]
      · rw [h, Int.neg_mul_neg]
    have h5 : 1 * 1 ≤ m * m := Int.mul_le_mul (by omega) (by omega) (by omega) (by omega)
    omega
theorem long_pos (l : List Int) (h : 0 < sumsq l) : 1 ≤ long l := by
  unfold long
  obtain ⟨s1, s2⟩ := rt_spec (sumsq l).toNat
  have : 0 < rt (sumsq l).toNat := by
    rcases Nat.eq_zero_or_pos (rt (sumsq l).toNat) with h0 | h0
    · rw [h0] at s2; omega
    · exact h0
  omega
/-- The division that rounds down, as the reference writes it. -/
theorem even_arith (x L : Int) (hL : 1 ≤ L) : -(2 * L) ≤ x.tmod (2 * L) ∧ x.tmod (2 * L) < 2 * L ∧ (x.tmod (2 * L) + 2 * L) % (2 * L) = x % (2 * L) ∧ 0 ≤ x % (2 * L) ∧ x % (2 * L) < 2 * L ∧ (x - x % (2 * L)).tdiv (2 * L) = x / (2 * L) := by
  have h1 := Int.emod_nonneg x (show 2 * L ≠ 0 by omega)
  have h2 := Int.emod_lt_of_pos x (show 0 < 2 * L by omega)
  have h3 : x % (2 * L) = x.tmod (2 * L) ∨ (x % (2 * L) = x.tmod (2 * L) + 2 * L) := by
    rcases Int.le_total 0 x with h | h
    · left; exact (Int.tmod_eq_emod_of_nonneg h).symm
    · have := @Int.tmod_eq_emod x (2 * L)
      have hn : (2 * L).natAbs = 2 * L := by omega
      split at this
      · left; omega
      · right; omega
  have h4 : -(2 * L) ≤ x.tmod (2 * L) ∧ x.tmod (2 * L) < 2 * L := by omega
  refine ⟨h4.1, h4.2, ?_, h1, h2, ?_⟩
  · rcases h3 with h | h
    · rw [← h, Int.add_emod, Int.emod_self, Int.add_zero, Int.emod_emod, Int.emod_eq_of_lt h1 h2]
    · rw [← h, Int.emod_eq_of_lt h1 h2]
  · have e : x - x % (2 * L) = (2 * L) * (x / (2 * L)) := by have := Int.mul_ediv_add_emod x (2 * L); omega
    rw [e, Int.mul_tdiv_cancel_left _ (by omega)]
theorem ediv_bd (X d c e : Int) (h : 1 ≤ d) (h1 : -c ≤ X) (h2 : X ≤ e) (hc : 0 ≤ c) (he : 0 ≤ e) : -c ≤ X / d ∧ X / d ≤ e := by
  have p1 : c * 1 ≤ c * d := Int.mul_le_mul_of_nonneg_left h hc
  have p2 : e * 1 ≤ e * d := Int.mul_le_mul_of_nonneg_left h he
  refine ⟨Int.le_ediv_of_mul_le (by omega) ?_, Int.ediv_le_of_le_mul (by omega) (by omega)⟩
  rw [Int.neg_mul]; omega
theorem vints_set (k : IntKind) (zs : List Int) (j : Nat) (v : Int) : (vints k zs).set j (.int k v) = vints k (zs.set j v) := by simp [vints, List.map_set]
theorem set_mid {α : Type} (f : α → α) (l : List α) (k : Nat) (h : k < l.length) : ((l.take k).map f ++ l.drop k).set k (f l[k]) = (l.take (k + 1)).map f ++ l.drop (k + 1) := by
  rw [List.set_append_right _ _ (by simp; omega)]
  have e : k - ((l.take k).map f).length = 0 := by simp; omega
  rw [e, List.drop_eq_getElem_cons h, List.set_cons_zero, List.take_succ_eq_append_getElem h, List.map_append, List.append_assoc]
  rfl
theorem get_mid {f : Int → Int} (l : List Int) (k : Nat) (h : k < l.length) : ((l.take k).map f ++ l.drop k).getD k 0 = l.getD k 0 := by
  rw [List.getD_eq_getElem?_getD, List.getElem?_append_right (by simp; omega), List.getD_eq_getElem?_getD]
  have e : k - ((l.take k).map f).length = 0 := by simp; omega
  rw [e, List.getElem?_drop, Nat.add_zero]
theorem len_mid {f : Int → Int} (l : List Int) (k : Nat) (h : k ≤ l.length) : ((l.take k).map f ++ l.drop k).length = l.length := by simp; omega
set_option maxHeartbeats 4000000 in
set_option maxRecDepth 100000 in
theorem ref_Even (zs : List Int) (a : Option Addr) (n cap : Nat) (hl : zs.length = n) (hn : n ≤ 4) (w : World) (hr : IntsAt .i64 w a zs) :
    Calls Try.prog 26 #[.slice a n cap] w fun e w' => Below w.heap.size w w' ∧ ((farOf zs = 0 ∧ e = .returned (.slice none 0 0)) ∨ (0 < farOf zs ∧ ∃ g c, e = .returned (.slice (some ⟨g, 0, none⟩) n c) ∧ IntsAt .i64 w' (some ⟨g, 0, none⟩) (evens zs))) := by
  have HL := Lib.hid hl
  have HR := Lib.hid hr
  clear hl hr
  go_enter Try.func26, Try.ntmps26
  go_wp2_with fail
  go_loopg [3, 4, 15] n (fun gk vf vo vi wx => ∃ k : Nat, k ≤ n ∧ gk = n - k ∧ vf = .int .i64 (farOf (zs.take k)) ∧ vi = .int .i64 k ∧ wx.ownsRow w.heap.size 3 1 vo k (vints .i64 ((zs.take k).map lim)) ∧ Below w.heap.size w wx)
  case atStart => exact ⟨0, Nat.zero_le _, rfl, rfl, rfl, World.ownsRow_nil _ _ _ _, Below.refl _ _⟩
  case round =>
    obtain ⟨k, kn, g2, rfl, rfl, hown, hb⟩ := hrel
    have G2 := Lib.hid g2
    have HO := Lib.hid hown
    clear g2 hown
    obtain ⟨f, hf⟩ : ∃ f, f = farOf (zs.take k) := ⟨_, rfl⟩
    rw [← hf]
    by_cases hlt : k < n
    · obtain ⟨x, rfl, hx, hc⟩ := (HR.out.below hb) (by rw [HL.out]; omega)
      have hc0 := hc k (by rw [HL.out]; exact hlt)
      have hk : k < zs.length := by rw [HL.out]; exact hlt
      have htk : zs.take (k + 1) = zs.take k ++ [zs.getD k 0] := by rw [List.take_succ_eq_append_getElem hk, List.getD_eq_getElem?_getD, List.getElem?_eq_getElem hk]; rfl
      have hfar := farOf_snoc (zs.take k) (zs.getD k 0)
      rw [← htk, ← hf] at hfar
      have hfb := farOf_bd (zs.take k)
      rw [← hf] at hfb
      obtain ⟨z, hz⟩ : ∃ z, z = zs.getD k 0 := ⟨_, rfl⟩
      rw [← hz] at hc0 htk hfar
      have hlz := lim_bd z
      have hcl := fun W => fix_Clamp z W
      have hrl := fun W => ref_Limit z W
      have hmp : (zs.take (k + 1)).map lim = (zs.take k).map lim ++ [lim z] := by rw [htk]; simp
      obtain ⟨y, hy⟩ : ∃ y, y = lim z := ⟨_, rfl⟩
      rw [← hy] at hfar hlz hrl hmp
      obtain ⟨f2, hf2⟩ : ∃ f2, f2 = farOf (zs.take (k + 1)) := ⟨_, rfl⟩
      rw [← hf2] at hfar
      have HF2 := Lib.hid hf2
      have HRL := Lib.hid hrl
      have hvp : vints .i64 ((zs.take (k + 1)).map lim) = vints .i64 ((zs.take k).map lim) ++ [Value.int .i64 y] := by rw [hmp]; simp [vints]
      have HVP := Lib.hid hvp
      have f0 := hfb.1
      have hcase : (y ≤ f ∧ -y ≤ f ∧ f2 = f) ∨ (f < y ∧ f2 = y) ∨ (f < -y ∧ f2 = -y) := by omega
      clear hc htk hfar hfb hz hcl hrl hmp hy hf2 hvp hk hf
      rcases hcase with ⟨j1, j2, j3⟩ | ⟨j1, j3⟩ | ⟨j1, j3⟩
      all_goals
        have J3 := Lib.hid j3
        clear j3
        go_wp2_with (first
          | (go_at_call 27; refine (HRL.out _).mono ?_; rintro e w' ⟨rfl, rfl⟩)
          | (at_builtin; go_must (refine wpList_append_new rfl _ _ 38 rfl w.heap.size 3 (.int .i64 0) 1 8 Try.underlying38 (by kernel_rfl) rfl (by decide) _ _ _ rfl HO.out _ _ rfl rfl rfl (by omega) (by decide) hb.size ?_); intro g' cap' w' hown' hg hor hlt'; have HOW := Lib.hid hown'; have HGR := Lib.hid hg; clear hown' hg hor))
        have hbn : Below w.heap.size w w' := hb.grown HGR.out hb.size (fun j hj => (HO.out.lt j hj).1)
        go_roundg (n - (k + 1))
        case measure => rw [G2.out]; omega
        case rel => exact ⟨k + 1, hlt, rfl, by rw [← HF2.out, J3.out], by go_num, by rw [HVP.out]; exact HOW.out, hbn⟩
    · obtain rfl : k = n := by omega
      have htk : zs.take k = zs := List.take_of_length_le (by rw [HL.out]; exact Nat.le_refl _)
      have ho := HO.out
      rw [htk] at hf ho
      have HF := Lib.hid hf
      have fb := farOf_bd zs
      rw [← hf] at fb
      obtain ⟨f0, f1, _, _⟩ := fb
      clear HO htk hf
      by_cases hz : f = 0
      · subst hz
        go_wp2
        go_ret
        exact ⟨hb, .inl ⟨HF.out.symm, rfl⟩⟩
      · have ht : (f == 0) = false := by rw [beq_eq_false_iff_ne]; exact hz
        have hfp : 0 < f := by omega
        have hk0 : 0 < k := by
          rcases Nat.eq_zero_or_pos k with h | h
          · have : zs = [] := List.eq_nil_of_length_eq_zero (by rw [HL.out, h])
            have e := HF.out
            rw [this] at e
            simp [farOf] at e
            omega
          · exact h
        obtain ⟨g, cap2, rfl, hDg, ltg⟩ := ho.form hk0
        have HO := Lib.hid ho
        clear ho hz
        go_wp2_with fail
        go_loop [7] (fun vs => ∃ (j : Nat) (s m : Int), vs = .int .i64 s ∧ s = 2 ^ j ∧ f * s = m ∧ Upto f m j) (fun vs => (2147483648 - intOf vs).toNat)
        case atStart => exact ⟨0, 1, f, rfl, rfl, by omega, upto_start hfp⟩
        case round =>
          obtain ⟨j, s, m, rfl, hs, hfs, hu⟩ := hrel
          have hj1 : 1 ≤ s := by rw [hs]; exact Int.pow_pos (by omega)
          have hu2 := hu
          obtain ⟨u1, u2, u3, u4, u5⟩ := hu2
          rw [← hs] at u2 u3
          have hm0 : m ≤ 1099511627776 := by
            rcases u5 with h | h
            · omega
            · subst h
              rw [show s = 1 from hs] at u3
              omega
          have hm1 : 0 < m := by omega
          have HS := Lib.hid hs
          have HU := Lib.hid hu
          have HFS := Lib.hid hfs
          clear u1 u3 u4 u5 hs hu
          by_cases hlt : m < 1073741824
          · go_wp2
            go_round
            case rel => exact ⟨j + 1, s * 2, 2 * m, rfl, by rw [HS.out, Int.pow_succ], by rw [← Int.mul_assoc, HFS.out, Int.mul_comm], upto_step HU.out hlt⟩
            case measure => simp [intOf]; omega
          · have hsc : s = scOf zs := by rw [HS.out, upto_stop HU.out (by omega), HF.out]; rfl
            have hbd := sced_bd zs m (by rw [← hsc, ← HF.out]; exact HFS.out) hm0 hm1
            have HSC := Lib.hid hsc
            have HBD := Lib.hid hbd
            have fb3 := (farOf_bd zs).2.2.1
            rw [← HF.out] at fb3
            have FB := Lib.hid fb3
            obtain ⟨ls, hls⟩ : ∃ ls, ls = zs.map lim := ⟨_, rfl⟩
            have hll : ls.length = k := by rw [hls, List.length_map, HL.out]
            have ho2 := HO.out
            rw [← hls] at ho2
            have HLS := Lib.hid hls
            have HLL := Lib.hid hll
            have HO2 := Lib.hid ho2
            have hlt' : ¬ m < 1073741824 := hlt
            clear hsc hbd fb3 hls hll ho2 HO
            go_wp2_with fail
            go_loopg [42] k (fun gk vi wx => ∃ q : Nat, q ≤ k ∧ gk = k - q ∧ vi = .int .i64 q ∧ wx.ownsRow w.heap.size 3 1 (.slice (some ⟨g, 0, none⟩) k cap2) k (vints .i64 ((ls.take q).map (· * s) ++ ls.drop q)) ∧ Below w.heap.size w wx)
            case atStart => exact ⟨0, Nat.zero_le _, rfl, rfl, by simpa using HO2.out, hb⟩
            case round =>
              obtain ⟨q, qk, g2, rfl, hown, hb2⟩ := hrel
              have G3 := Lib.hid g2
              clear g2 hb HO2
              by_cases hq : q < k
              · have hql : q < ls.length := by rw [HLL.out]; exact hq
                obtain ⟨x, hx⟩ : ∃ x, x = ls.getD q 0 := ⟨_, rfl⟩
                have e1 := (hown.cellAt q (by omega)).trans (vints_get .i64 _ q (by rw [len_mid _ _ (by rw [HLL.out]; omega), HLL.out]; exact hq))
                rw [get_mid ls q hql, ← hx] at e1
                have e2 := hown.frozenAt q
                have hxb : -f ≤ x ∧ x ≤ f := by
                  rw [hx, HLS.out, List.getD_eq_getElem?_getD, List.getElem?_map, List.getElem?_eq_getElem (by rw [HL.out]; exact hq)]
                  exact FB.out _ (List.getElem_mem _)
                obtain ⟨p, hp⟩ : ∃ p, x * s = p := ⟨_, rfl⟩
                have hpb : -m ≤ p ∧ p ≤ m := by
                  have p1 : x * s ≤ f * s := Int.mul_le_mul_of_nonneg_right hxb.2 (by omega)
                  have p2 : -f * s ≤ x * s := Int.mul_le_mul_of_nonneg_right hxb.1 (by omega)
                  rw [Int.neg_mul, HFS.out] at p2
                  rw [HFS.out] at p1
                  omega
                have hst := (hown.stored q (.int .i64 p)).1
                have hsm := set_mid (fun z => z * s) ls q hql
                have hxe : ls[q] = x := by rw [hx, List.getD_eq_getElem?_getD, List.getElem?_eq_getElem hql]; rfl
                rw [hxe] at hsm
                rw [vints_set, ← hp] at hst
                have hst2 := hst
                rw [show ((ls.take q).map (· * s) ++ ls.drop q).set q (x * s) = (ls.take (q + 1)).map (· * s) ++ ls.drop (q + 1) from hsm, hp] at hst2
                have HST := Lib.hid hst2
                have hbn : Below w.heap.size w (wr.setCell ⟨g, q, none⟩ (.int .i64 p)) := hb2.setCell hDg _
                clear hql hx hxb hst hsm hxe hst2 hown
                go_wp2
                go_roundg (k - (q + 1))
                case measure => rw [G3.out]; omega
                case rel => exact ⟨q + 1, hq, rfl, by go_num, HST.out, hbn⟩
              · obtain rfl : q = k := by omega
                have hss : (ls.take q).map (· * s) ++ ls.drop q = sced zs := by
                  rw [List.take_of_length_le (by rw [HLL.out]; exact Nat.le_refl _), List.drop_of_length_le (by rw [HLL.out]; exact Nat.le_refl _), List.append_nil, HLS.out, HSC.out]; rfl
                rw [hss] at hown
                have hsl : (sced zs).length = q := by unfold sced; rw [List.length_map, List.length_map, HL.out]
                obtain ⟨ss, hsse⟩ : ∃ ss, ss = sced zs := ⟨_, rfl⟩
                rw [← hsse] at hown hsl
                have hbd := HBD.out
                rw [← hsse] at hbd
                have hL1 := long_pos ss hbd.2
                have hL2 := (long_bd ss hbd.1 (by omega)).2
                have HSS := Lib.hid hsse
                have HSL := Lib.hid hsl
                have HBB := Lib.hid hbd
                have HO3 := Lib.hid hown
                have hcl := fun W (hb : Below wr.heap.size wr W) => ref_Long ss (some ⟨g, 0, none⟩) q cap2 hsl hn hbd.1 W (IntsAt.of_own (own_below hown hb) hsl.symm)
                obtain ⟨L, hL⟩ : ∃ L, L = long ss := ⟨_, rfl⟩
                rw [← hL] at hL1 hL2 hcl
                have HCL := Lib.hid hcl
                have HLE := Lib.hid hL
                clear hss hsse hsl hbd hown hcl hL FB HFS HU HS HLL HLS HSC HBD
                go_wp2_with fail
                refine (HCL.out _ (Below.refl _ _)).mono ?_
                rintro e w5 ⟨rfl, hb5⟩
                have HO4 := Lib.hid (own_below HO3.out hb5)
                have hb6 := bt hb2 hb5
                clear hb5 hb2 HO3 HCL
                go_wp2_with fail
                go_loopg [57] q (fun gk vi wx => ∃ r : Nat, r ≤ q ∧ gk = q - r ∧ vi = .int .i64 r ∧ wx.ownsRow w.heap.size 3 1 (.slice (some ⟨g, 0, none⟩) q cap2) q (vints .i64 ((ss.take r).map (ev1 L) ++ ss.drop r)) ∧ Below w.heap.size w wx)
                case atStart => exact ⟨0, Nat.zero_le _, rfl, rfl, by simpa using HO4.out, hb6⟩
                case round =>
                  obtain ⟨r, rq, g2, rfl, hown, hb7⟩ := hrel
                  have G4 := Lib.hid g2
                  clear g2 hb6 HO4
                  by_cases hr : r < q
                  · have hrl : r < ss.length := by rw [HSL.out]; exact hr
                    obtain ⟨y, hy⟩ : ∃ y, y = ss.getD r 0 := ⟨_, rfl⟩
                    have e1 := (hown.cellAt r (by omega)).trans (vints_get .i64 _ r (by rw [len_mid _ _ (by rw [HSL.out]; omega), HSL.out]; exact hr))
                    rw [get_mid ss r hrl, ← hy] at e1
                    have e2 := hown.frozenAt r
                    have hye : ss[r] = y := by rw [hy, List.getD_eq_getElem?_getD, List.getElem?_eq_getElem hrl]; rfl
                    have hyb : -1099511627776 ≤ y ∧ y ≤ 1099511627776 := by rw [← hye]; exact HBB.out.1 _ (List.getElem_mem hrl)
                    obtain ⟨X, hX⟩ : ∃ X, 2 * y * 65536 + L = X := ⟨_, rfl⟩
                    have hXb : -144115188075855872 ≤ X ∧ X ≤ 144117387099111424 := by omega
                    obtain ⟨m1, m2, m3, m4, m5, m6⟩ := even_arith X L hL1
                    obtain ⟨t, ht⟩ : ∃ t, X.tmod (2 * L) = t := ⟨_, rfl⟩
                    obtain ⟨u, hu⟩ : ∃ u, X % (2 * L) = u := ⟨_, rfl⟩
                    obtain ⟨v, hv⟩ : ∃ v, X / (2 * L) = v := ⟨_, rfl⟩
                    rw [ht] at m1 m2 m3
                    rw [hu] at m3 m4 m5 m6
                    rw [hv] at m6
                    have hev : ev1 L y = v := by unfold ev1; rw [hX, hv]
                    have hst := (hown.stored r (.int .i64 v)).1
                    have hsm := set_mid (ev1 L) ss r hrl
                    rw [hye, hev] at hsm
                    rw [vints_set, hsm] at hst
                    have HST := Lib.hid hst
                    have hbn : Below w.heap.size w (wr.setCell ⟨g, r, none⟩ (.int .i64 v)) := hb7.setCell hDg _
                    have hvb : -144115188075855872 ≤ v ∧ v ≤ 144117387099111424 := by rw [← hv]; exact ediv_bd X (2 * L) _ _ (by omega) hXb.1 hXb.2 (by omega) (by omega)
                    clear hrl hy hye hev hst hsm hown hu hv
                    go_wp2
                    go_roundg (q - (r + 1))
                    case measure => rw [G4.out]; omega
                    case rel => exact ⟨r + 1, hr, rfl, by go_num, HST.out, hbn⟩
                  · obtain rfl : r = q := by omega
                    have hev : (ss.take r).map (ev1 L) ++ ss.drop r = evens zs := by
                      rw [List.take_of_length_le (by rw [HSL.out]; exact Nat.le_refl _), List.drop_of_length_le (by rw [HSL.out]; exact Nat.le_refl _), List.append_nil, HLE.out, HSS.out]; rfl
                    rw [hev] at hown
                    have hle : (evens zs).length = r := by unfold evens; rw [List.length_map, ← HSS.out, HSL.out]
                    have HIV := Lib.hid (IntsAt.of_own hown hle.symm)
                    have hfp' : 0 < farOf zs := by rw [← HF.out]; exact hfp
                    have HFP := Lib.hid hfp'
                    clear hev hown hle hfp'
                    go_wp2
                    go_ret
                    exact ⟨hb7, .inr ⟨HFP.out, g, cap2, rfl, HIV.out⟩⟩
end Go.Proofs.Ytehpfkmaikbjkaa
