/- cmd.Join where all lists together fit. -/
import Derived.Test.YtfckbkhnelgjbaaCmdJoin
namespace Go.Proofs.Ytfckbkhnelgjbaa
open Go.ChangeShapes Go.WideShapes Go.ChangeAt Go.RowKit Go.Mem
set_option linter.unusedVariables false
def JoinPost (l : List CmdV) (n : Nat) (W : World) (e : Ending) (w' : World) : Prop := ∃ a c, e = .returned (.tuple #[.slice a n c, .int .i64 0]) ∧ SlAt 5 CmdAt w' a l ∧ Below W.heap.size W w'
theorem flat_take (l : List (List CmdV)) (k : Nat) (h : k < l.length) : (l.take (k + 1)).flatten = (l.take k).flatten ++ l[k] := by
  rw [List.take_add_one, List.getElem?_eq_getElem h, List.flatten_append]; simp
theorem flat_length (l : List (List CmdV)) : l.flatten.length = tot l := by unfold tot; rw [List.length_flatten]
theorem take_snoc {α : Type} (l : List α) (j : Nat) (h : j < l.length) : l.take (j + 1) = l.take j ++ [l[j]] := by
  rw [List.take_add_one, List.getElem?_eq_getElem h]; rfl
theorem own_slice2 {w : World} {base e size n : Nat} {v : Value} {xs : List Value} (h : w.ownsRow base e size v n xs) : ∃ a c, v = .slice a n c := own_slice h
set_option maxHeartbeats 8000000 in
theorem join_small (l : List (List CmdV)) (a : Option Addr) (n cap : Nat) (hn : l.length = n) (h1 : n ≤ 1048576) (hb : tot l ≤ 131072) (hv : ∀ c ∈ l, ∀ z ∈ c, z.comps.length ≤ 1048576 ∧ ∀ q ∈ z.comps, q.vals.length ≤ 1048576) (W : World) (hz : SlAt 1 CmdsAt W a l) :
    Calls Try.prog 7 #[.slice a n cap] W (JoinPost l.flatten (tot l) W) := by
  have HN := Lib.hid hn
  have HZ := Lib.hid hz
  have HBG := Lib.hid hb
  have HV := Lib.hid hv
  obtain ⟨N, hN⟩ : ∃ N, N = tot l := ⟨_, rfl⟩
  rw [← hN]
  have HNN := Lib.hid hN
  clear hn hz hb hv hN
  go_enter Try.func7, Try.ntmps7
  go_wp2_with fail
  go_loopg [4, 6, 14] n (fun gk v4 v6 vi wx => ∃ k t : Nat, k ≤ n ∧ gk = n - k ∧ vi = .int .i64 k ∧ v4 = .int .i64 t ∧ t = tot (l.take k) ∧ t ≤ 131072 ∧ wx = W)
  case atStart => exact ⟨0, 0, Nat.zero_le _, rfl, rfl, rfl, rfl, by omega, rfl⟩
  case round =>
    obtain ⟨k, t, hk, g2, rfl, rfl, ht, htb, hw⟩ := hrel
    obtain rfl : W = wr := hw.symm
    have G2 := Lib.hid g2
    have HT := Lib.hid ht
    clear g2 ht
    by_cases hlt : k < n
    · obtain ⟨x, rfl, hx, hi⟩ := HZ.out (by rw [HN.out]; omega)
      obtain ⟨b, c, c0, _⟩ := hi k (by rw [HN.out]; exact hlt)
      rw [Nat.mul_one] at c0
      obtain ⟨m, hm⟩ : ∃ m, m = (l[k]'(by rw [HN.out]; exact hlt)).length := ⟨_, rfl⟩
      rw [← hm] at c0
      have hs : t + m = tot (l.take (k + 1)) := by rw [tot_take _ _ (by rw [HN.out]; exact hlt), HT.out, hm]
      have hs2 : t + m ≤ 131072 := by have := tot_mono l (k + 1); have := HBG.out; omega
      have HS := Lib.hid hs
      clear hi hm hs
      go_wp2_with fail
      go_roundg (n - (k + 1))
      case measure => rw [G2.out]; omega
      case rel => exact ⟨k + 1, t + m, hlt, rfl, by go_num, by go_num, HS.out, by omega, rfl⟩
    · clear HT
      go_wp2_with fail
      go_loopg [7, 27] n (fun gk v7 vi wx => ∃ (k : Nat), k ≤ n ∧ gk = n - k ∧ vi = .int .i64 k ∧ CmdsOwn wx W.heap.size v7 (l.take k).flatten ∧ Below W.heap.size W wx)
      case atStart => exact ⟨0, Nat.zero_le _, rfl, rfl, CmdsOwn.nil _ _, Below.refl _ _⟩
      case round =>
        obtain ⟨k, hk, g3, rfl, hown, hb⟩ := hrel
        have G3 := Lib.hid g3
        have HO := Lib.hid hown
        have HB := Lib.hid hb
        clear g3 hown hb
        by_cases hlk : k < n
        · obtain ⟨x, rfl, hx, hi⟩ := HZ.out (by rw [HN.out]; omega)
          obtain ⟨b, c, c0, hzi⟩ := hi k (by rw [HN.out]; exact hlk)
          rw [Nat.mul_one] at c0
          replace c0 := cell_abides c0 HB.out
          obtain ⟨C, hC⟩ : ∃ C, C = l[k]'(by rw [HN.out]; exact hlk) := ⟨_, rfl⟩
          rw [← hC] at c0 hzi
          have hvc := HV.out C (by rw [hC]; exact List.getElem_mem _)
          obtain ⟨m, hm⟩ : ∃ m, m = C.length := ⟨_, rfl⟩
          rw [← hm] at c0
          have hft : (l.take (k + 1)).flatten = (l.take k).flatten ++ C := by rw [flat_take _ _ (by rw [HN.out]; exact hlk), hC]
          have hfl : (l.take k).flatten.length + m ≤ 131072 := by
            have e := congrArg List.length hft
            rw [List.length_append, flat_length (l.take (k + 1)), ← hm] at e
            have := tot_mono l (k + 1); have := HBG.out; omega
          have HFT := Lib.hid hft
          have HFL := Lib.hid hfl
          have HM := Lib.hid hm
          have HZI := Lib.hid hzi
          have HVC := Lib.hid hvc
          obtain ⟨F, hF⟩ : ∃ F, F = (l.take k).flatten := ⟨_, rfl⟩
          rw [← hF] at HO HFT HFL
          have hm2 : m ≤ 131072 := by have := HFL.out; omega
          clear hi hC hm hft hfl hzi hvc hF
          obtain ⟨Wo, rfl⟩ : ∃ Wo : World, Wo = wr := ⟨_, rfl⟩
          go_wp2_with fail
          go_loopg [7, 33] m (fun gk v7 vi wx => ∃ (j : Nat), j ≤ m ∧ gk = m - j ∧ vi = .int .i64 j ∧ CmdsOwn wx W.heap.size v7 (F ++ C.take j) ∧ Below W.heap.size W wx)
          case atStart => exact ⟨0, Nat.zero_le _, rfl, rfl, by simpa using HO.out, HB.out⟩
          case round =>
            obtain ⟨j, hj, g4, rfl, hown, hb⟩ := hrel
            have G4 := Lib.hid g4
            have HO2 := Lib.hid hown
            have HB2 := Lib.hid hb
            clear g4 hown hb
            by_cases hjm : j < m
            · obtain ⟨z, rfl, hz, hzj⟩ := (HZI.out.below CmdAt.abides HB2.out) (by rw [← HM.out]; omega)
              obtain ⟨d0, d1, d2, d3, ay, cy, d4, yi⟩ := hzj j (by rw [← HM.out]; exact hjm)
              obtain ⟨y, hy⟩ : ∃ y, y = C[j]'(by rw [← HM.out]; exact hjm) := ⟨_, rfl⟩
              rw [← hy] at d0 d1 d2 d3 d4 yi
              have hvy := HVC.out y (by rw [hy]; exact List.getElem_mem _)
              have hsn : C.take (j + 1) = C.take j ++ [y] := by rw [take_snoc _ _ (by rw [← HM.out]; exact hjm), hy]
              have hb1 := (Below.refl wr.heap.size wr).alloc (Nat.le_refl _) (.cells #[.int .i64 y.dod, .int .i64 y.n, .int .i64 y.gen, .int .i64 y.kind, .slice ay y.comps.length cy] 27)
              have HC := Lib.hid (cmd_Copy y ay _ cy rfl hvy.1 hvy.2 _ (yi.below CompAt.abides hb1))
              have HSN := Lib.hid hsn
              have HB1 := Lib.hid hb1
              have hlen : (F ++ C.take j).length ≤ 131072 := by
                have := HFL.out; rw [List.length_append, List.length_take]; omega
              have HLEN := Lib.hid hlen
              obtain ⟨FJ, hFJ⟩ : ∃ FJ, FJ = F ++ C.take j := ⟨_, rfl⟩
              rw [← hFJ] at HO2 HLEN
              have HFJ := Lib.hid hFJ
              clear hzj hy hvy hsn hb1 yi hlen hFJ
              go_wp2_with fail
              refine HC.out.mono ?_
              rintro e w1 ⟨a1, rfl, hu, hb3⟩
              have hb4 := HB1.out.trans (hb3.mono (by simp))
              obtain ⟨cs, ho, hcell⟩ := HO2.out.below hb4
              have hown0 := HO2.out
              have hs1 := hb4.size
              have hB := HB2.out.size
              have hBo := HB.out.size
              have hlenF := HLEN.out
              clear d0 d1 d2 d3 d4 hb3
              have HB4 := Lib.hid hb4
              have HU := Lib.hid hu
              have HCELL := Lib.hid hcell
              have HOWN0 := Lib.hid hown0
              clear hb4 hu hcell hown0 HC
              go_wp2_with (at_builtin; go_must (refine wpList_append_new rfl _ _ 22 rfl W.heap.size 27 (.agg #[.int .i64 0, .int .i64 0, .int .i64 0, .int .i64 0, .slice none 0 0]) 5 56 Try.underlying22 (by kernel_rfl) rfl (by decide) _ _ _ rfl ho _ _ rfl rfl rfl (by omega) (by decide) (by omega) ?_))
              intro g' cap' w' hown' hg hor hlt'
              have hown3 : CmdsOwn w' W.heap.size (.slice (some ⟨g', 0, none⟩) (FJ.length + 1) cap') (FJ ++ [y]) := by
                have hwa : (wr.alloc (.cells #[.int .i64 y.dod, .int .i64 y.n, .int .i64 y.gen, .int .i64 y.kind, .slice ay y.comps.length cy] 27)).heap.size = wr.heap.size + 1 := by simp
                have hlt : ∀ g, u7.ownBlock = some g → g < wr.heap.size := fun g hg2 => by
                  obtain ⟨cs0, ho0, _⟩ := HOWN0.out
                  exact (own_lt ho0 g hg2).2
                refine CmdsOwn.snoc HCELL.out ho.1 hown' hg (fun g2 hg2 => ?_) HU.out.within (by rw [hwa]; omega) (fun g2 hg2 => by rw [hwa]; have := hlt g2 hg2; omega)
                have e2 : g' = g2 := by simpa [Value.ownBlock] using hg2
                rcases hor with h | h
                · exact .inl (by rw [← e2]; exact h)
                · exact .inr (by omega)
              have eF : FJ ++ [y] = F ++ C.take (j + 1) := by rw [HFJ.out, List.append_assoc, ← HSN.out]
              rw [eF] at hown3
              clear eF
              have hb5 : Below W.heap.size W w' := (HB2.out.trans (HB4.out.mono (by omega))).grown hg (by omega) (fun g hg2 => by
                obtain ⟨cs0, ho0, _⟩ := HOWN0.out
                exact (own_lt ho0 g hg2).1)
              have HO5 := Lib.hid hown3
              have HB5 := Lib.hid hb5
              clear hown3 hb5 hown' hg hor hlt' ho HU HCELL HOWN0
              go_wp2_with fail
              go_roundg (m - (j + 1))
              case measure => rw [G4.out]; omega
              case rel => exact ⟨j + 1, hjm, rfl, by go_num, HO5.out, HB5.out⟩
            · have hje : j = m := by omega
              have hff : F ++ C.take j = (l.take (k + 1)).flatten := by rw [HFT.out, hje, HM.out, List.take_length]
              have HO5 := Lib.hid HO2.out
              rw [hff] at HO5
              clear hje hff
              go_wp2_with fail
              go_roundg (n - (k + 1))
              case measure => rw [G3.out]; omega
              case rel => exact ⟨k + 1, hlk, rfl, by go_num, HO5.out, HB2.out⟩
        · have hke : k = n := by omega
          obtain ⟨cs, ho, hcell⟩ := HO.out
          obtain ⟨a2, c2, rfl⟩ := own_slice ho
          have hlf : (l.take k).flatten.length = N := by rw [flat_length, hke, ← HN.out, List.take_length, HNN.out]
          have hat := CmdsOwn.at ⟨cs, ho, hcell⟩
          rw [show l.take k = l by rw [hke, ← HN.out, List.take_length]] at hat
          rw [hlf]
          have HAT := Lib.hid hat
          clear ho hcell hlf hat hke
          go_wp2_with fail
          go_ret2
          exact ⟨a2, c2, rfl, HAT.out, HB.out⟩
end Go.Proofs.Ytfckbkhnelgjbaa
