/- The law SumTells. -/
import Derived.Test.YtdhaaeaacbnghaaByteDig
import Derived.Test.YtdhaaeaacbnghaaSumInts
import Derived.Test.YtdhaaeaacbnghaaOpen
namespace Go.Proofs.Ytdhaaeaacbnghaa
open Go.ChangeShapes Go.WideShapes Go.ChangeAt Go.RowKit Go.Mem
set_option linter.unusedVariables false

theorem own_slice {w : World} {base e n : Nat} {k : IntKind} {v : Value} {zs : List Int} (h : w.ownsRow base e 1 v n (vints k zs)) (hn : n = zs.length) : ∃ a cap, v = .slice a n cap ∧ n ≤ cap ∧ IntsAt k w a zs := by
  rcases h.2 with ⟨h1, h2⟩ | ⟨g, cap, cur, h1, h2, h3, h4, h5⟩
  · subst h1
    subst h2
    exact ⟨none, 0, rfl, Nat.le_refl _, fun h => by omega⟩
  · subst h1
    exact ⟨some ⟨g, 0, none⟩, cap, rfl, h4, IntsAt.of_own h hn⟩
theorem u64s_of {w : World} {a : Option Addr} {len cap : Nat} {zs : List Int} (h : IsRow .u64 w a len cap zs) : U64s (zs.take len) := fun z hz => by
  obtain ⟨k, rfl, hk⟩ := has_u64 (has_wf (h.wf z hz))
  omega
theorem u8s_of {w : World} {a : Option Addr} {len cap : Nat} {zs : List Int} (h : IsRow .u8 w a len cap zs) : U8s (zs.take len) := fun z hz => by
  have := has_u8 (has_wf (h.wf z hz))
  omega
theorem tie_differ : dig [] ≠ bdig [] := by decide +kernel

set_option maxHeartbeats 8000000 in
set_option maxRecDepth 100000 in
theorem law_SumTells (a b : Nat) (la lm ld : Option Addr) (cl cm cd : Nat) (l m d : List Int) (ha : a < 18446744073709551616) (hb : b < 18446744073709551616) (hl : l.length ≤ 17592186044416) (hm : m.length ≤ 17592186044416) (hd : d.length ≤ cd) (hd2 : cd ≤ 140737488355328)
    (hul : U64s l) (hud : U8s d) (w : World) (h1 : IntsAt .u64 w la l) (h2 : IntsAt .i64 w lm m) (h3 : IntsAt .u8 w ld d) :
    Calls Try.prog 4 #[.int .u64 a, .int .u64 b, .slice la l.length cl, .slice lm m.length cm, .slice ld d.length cd] w fun e w' => e = .returned (.bool true) ∧ Below w.heap.size w w' := by
  have w0 : ∀ w : World, Calls Try.prog 19 #[.slice none 0 0] w fun e w' => e = .returned (.int .u64 (dig [] : Nat)) ∧ w = w' := fun w => sum_Words none 0 [] (by simp) (fun z hz => by cases hz) w (fun h => by simp at h)
  have b0 : ∀ w : World, Calls Try.prog 20 #[.slice none 0 0] w fun e w' => e = .returned (.int .u64 (bdig [] : Nat)) ∧ Below w.heap.size w w' := fun w => sum_Bytes none 0 [] (by simp) (by simp) (fun z hz => by cases hz) w (fun h => by simp at h)
  have hne := tie_differ
  obtain ⟨A0, hA0⟩ : ∃ k, k = dig [] := ⟨_, rfl⟩
  obtain ⟨B0, hB0⟩ : ∃ k, k = bdig [] := ⟨_, rfl⟩
  rw [← hA0] at w0 hne
  rw [← hB0] at b0 hne
  have hne' : ((A0 : Int) == (B0 : Int)) = false := by rw [beq_eq_false_iff_ne]; omega
  have cw := fun w h => sum_Words la cl l (by omega) hul w h
  have cdg := fun w h => ref_Digest la cl l (by omega) hul w h
  have ci := fun w h => sum_Ints lm cm m hm w h
  have cb := fun w h => sum_Bytes ld cd d hd hd2 hud w h
  have cbd := fun w h => ref_ByteDigest ld cd d hd hd2 hud w h
  have cj := sum_Join a b ha hb
  have ct := ref_Tied a b ha hb
  obtain ⟨T, hT⟩ : ∃ k, k = tie a b := ⟨_, rfl⟩
  obtain ⟨DL, hDL⟩ : ∃ k, k = dig l := ⟨_, rfl⟩
  obtain ⟨DM, hDM⟩ : ∃ k, k = dig m := ⟨_, rfl⟩
  obtain ⟨BD, hBD⟩ : ∃ k, k = bdig d := ⟨_, rfl⟩
  obtain ⟨nl, hnl⟩ : ∃ k, k = l.length := ⟨_, rfl⟩
  obtain ⟨nm, hnm⟩ : ∃ k, k = m.length := ⟨_, rfl⟩
  obtain ⟨nd, hnd⟩ : ∃ k, k = d.length := ⟨_, rfl⟩
  rw [← hT] at cj ct
  rw [← hnl] at cw cdg hl ⊢
  rw [← hnm] at ci hm ⊢
  rw [← hnd] at cb cbd hd ⊢
  rw [← hDL] at cw cdg
  rw [← hDM] at ci
  rw [← hBD] at cb cbd
  have W0 := Lib.hid w0
  have BB0 := Lib.hid b0
  have CW := Lib.hid cw
  have CDG := Lib.hid cdg
  have CI := Lib.hid ci
  have CB := Lib.hid cb
  have CBD := Lib.hid cbd
  have CJ := Lib.hid cj
  have CT := Lib.hid ct
  have H1 := Lib.hid h1
  have H2 := Lib.hid h2
  have H3 := Lib.hid h3
  have HNM := Lib.hid hnm
  have HDM := Lib.hid hDM
  clear w0 b0 hne hA0 hB0 cw cdg ci cb cbd cj ct hT hDL hDM hBD hnl hnm hnd h1 h2 h3 hul hud
  obtain ⟨ws, hws⟩ : ∃ ws : List Int, ws = m.map fun z => (W64.u z : Int) := ⟨_, rfl⟩
  have hwl : ws.length = nm := by rw [hws, List.length_map, HNM.out]
  have hwg : ∀ k, k < nm → ws.getD k 0 = (W64.u (m.getD k 0) : Int) := fun k hk => by
    have h : k < m.length := by rw [← HNM.out]; exact hk
    rw [hws]; simp [h]
  have HWS := Lib.hid hws
  have HWL := Lib.hid hwl
  have HWG := Lib.hid hwg
  clear hws hwl hwg
  go_enter Try.func4, Try.ntmps4
  go_wp2_with (first
    | (go_at_call 19; refine (W0.out _).mono ?_; rintro e w1 ⟨rfl, rfl⟩)
    | (go_at_call 20; refine (BB0.out _).mono ?_; rintro e w1 ⟨rfl, hb1⟩))
  go_loopg [11, 13, 19] nm (fun gk v _ vi wx => ∃ k : Nat, k ≤ nm ∧ gk = nm - k ∧ vi = .int .i64 k ∧ wx.ownsRow w.heap.size 22 1 v k (vints .u64 (ws.take k)) ∧ Below w.heap.size w wx)
  case atStart => exact ⟨0, by omega, rfl, rfl, ⟨by simp [vints], .inl ⟨rfl, rfl⟩⟩, hb1⟩
  case round =>
    clear hb1
    obtain ⟨k, g1, g2, rfl, hown, hb1⟩ := hrel
    have G2 := Lib.hid g2
    clear g2
    by_cases hlt : k < nm
    · obtain ⟨x, rfl, hx, hc⟩ := (H2.out.below hb1) (by rw [← HNM.out]; omega)
      have hcell := hc k (by rw [← HNM.out]; omega)
      obtain ⟨z, hz⟩ : ∃ z, z = m.getD k 0 := ⟨_, rfl⟩
      rw [← hz] at hcell
      have eu : IntKind.u64.wrap z = W64.u z := W64.u_eq z
      have htk : ws.take (k + 1) = ws.take k ++ [(W64.u z : Int)] := by
        rw [take_snoc' ws k 0 (by rw [HWL.out]; omega), HWG.out k hlt, ← hz]
      have HTK := Lib.hid htk
      clear hc hz htk
      go_wp2_with (at_builtin; go_must (refine wpList_append_new rfl _ _ 33 rfl w.heap.size 22 (.int .u64 0) 1 8 Try.underlying33 (by kernel_rfl) rfl (by decide) _ _ _ rfl hown _ _ rfl rfl rfl (by omega) (by decide) hb1.size ?_))
      intro g' cap' w' hown' hg hor hlt'
      have hb' : Below w.heap.size w w' := hb1.grown hg hb1.size (fun j hj => (hown.lt j hj).1)
      rw [vints_snoc, ← HTK.out] at hown'
      have HO := Lib.hid hown'
      clear hown hown' hb1 hg hor
      go_wp2
      go_roundg (nm - (k + 1))
      case measure => rw [G2.out]; omega
      case rel => exact ⟨k + 1, by omega, rfl, by go_num, HO.out, hb'⟩
    · obtain rfl : k = nm := by omega
      have em : ws.take k = ws := List.take_of_length_le (by rw [HWL.out]; omega)
      rw [em] at hown
      obtain ⟨av, capv, rfl, hcv, hiv⟩ := own_slice hown HWL.out.symm
      obtain ⟨q1, q2⟩ := dig_of_u m ws (by rw [HWL.out, HNM.out]) (fun j hj => HWG.out j (by rw [HNM.out]; exact hj))
      have cdm := fun w h => ref_Digest av capv ws (by rw [HWL.out]; omega) q2 w h
      rw [q1, HWL.out, ← HDM.out] at cdm
      have CDM := Lib.hid cdm
      have HIV := Lib.hid hiv
      clear q1 q2 cdm hiv hown em
      go_wp2_with fail
      refine (CJ.out _).mono ?_
      rintro e w2 ⟨rfl, rfl⟩
      go_wp2_with fail
      refine (CT.out _).mono ?_
      rintro e w2 ⟨rfl, hq⟩
      go_wp2_with fail
      refine (CW.out _ (H1.out.below (bt hb1 hq))).mono ?_
      rintro e w3 ⟨rfl, rfl⟩
      go_wp2_with fail
      refine (CDG.out _ (H1.out.below (bt hb1 hq))).mono ?_
      rintro e w3 ⟨rfl, hq3⟩
      replace hq := bt hq hq3
      clear hq3
      go_wp2_with fail
      refine (CI.out _ (H2.out.below (bt hb1 hq))).mono ?_
      rintro e w4 ⟨rfl, hq3⟩
      replace hq := bt hq hq3
      clear hq3
      go_wp2_with fail
      refine (CDM.out _ (HIV.out.below hq)).mono ?_
      rintro e w5 ⟨rfl, hq3⟩
      replace hq := bt hq hq3
      clear hq3
      go_wp2_with fail
      refine (CB.out _ (H3.out.below (bt hb1 hq))).mono ?_
      rintro e w6 ⟨rfl, hq3⟩
      replace hq := bt hq hq3
      clear hq3
      go_wp2_with fail
      refine (CBD.out _ (H3.out.below (bt hb1 hq))).mono ?_
      rintro e w7 ⟨rfl, hq3⟩
      replace hq := bt hq hq3
      clear hq3
      go_wp2_with fail
      go_ret
      exact ⟨rfl, bt hb1 hq⟩
end Go.Proofs.Ytdhaaeaacbnghaa
