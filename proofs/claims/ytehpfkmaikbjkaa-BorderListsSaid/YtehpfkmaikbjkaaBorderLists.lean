/- The law BorderLists. -/
import Derived.Test.YtehpfkmaikbjkaaBorderL
import Derived.Test.YtehpfkmaikbjkaaEqI
import Derived.Test.YtehpfkmaikbjkaaBorderTells
namespace Go.Proofs.Ytehpfkmaikbjkaa
open Go.ChangeShapes Go.WideShapes Go.ChangeAt Go.RowKit Go.Fl Go.Mem
set_option linter.unusedVariables false
theorem ints_one (k : IntKind) (w : World) (z : Int) (t : TypeId) : IntsAt k (w.alloc (.cells #[.int k z] t)) (some ⟨w.heap.size, 0, none⟩) [z] :=
  RowB.ints (t := t) (heap_alloc_new w _)
theorem List_begun (w : World) : Calls Try.prog 34 #[.slice (some ⟨w.heap.size, 0, none⟩) 1 1] (w.alloc (.cells #[.int .u64 4609434218613702656] 27)) fun e w' => ∃ a c, e = .returned (.tuple #[.slice a 1 c, .int .i64 0]) ∧ IntsAt .i64 w' a [98304] ∧ Below w.heap.size w w' := by
  have e1 : errF (([4609434218613702656] : List Int).getD 0 0).toNat = 0 := begun_err
  refine (b_List [4609434218613702656] _ 1 1 1 rfl (by decide) (by intro z hz; rw [List.mem_singleton.1 hz]; decide) (Nat.le_refl _) (fun j hj => by rw [show j = 0 by omega]; exact e1) (fun h => absurd h (by decide)) _ (ints_one .u64 w _ _)).mono ?_
  rintro e w' ⟨_, h2, h3⟩
  obtain ⟨a, c, he, hi⟩ := h2 rfl
  refine ⟨a, c, he, ?_, ((Below.refl _ _).alloc (Nat.le_refl _) _).trans (h3.mono (by simp))⟩
  have : numN [4609434218613702656] = [98304] := by
    show [numF 4609434218613702656] = [98304]
    rw [begun_num]
  rw [this] at hi
  exact hi
/-- two equal lists -/
theorem eq_same (a b : Option Addr) (ca cb n : Nat) (zs : List Int) (hn : zs.length = n) (h1 : n ≤ 9223372036854775807) (w : World) (ha : IntsAt .i64 w a zs) (hb : IntsAt .i64 w b zs) :
    Calls Try.prog 35 #[.slice a n ca, .slice b n cb] w fun e w' => e = .returned (.bool true) ∧ Below w.heap.size w w' := by
  subst hn
  have := eq_ints a b ca cb zs zs h1 h1 w ha hb
  rw [decide_eq_true rfl] at this
  exact this
set_option maxHeartbeats 4000000 in
theorem walk_BorderLists (zs : List Int) (a : Option Addr) (n cap : Nat) (hn : zs.length = n) (hl : n ≤ 17592186044415) (hw : ∀ z ∈ zs, 0 ≤ z ∧ z < 18446744073709551616) (W : World) (hz : IntsAt .u64 W a zs) :
    Calls Try.prog 9 #[.slice a n cap] W fun e w' => e = .returned (.bool true) ∧ Below W.heap.size W w' := by
  obtain ⟨k0, h0, h1, h2⟩ := first_bad zs n
  have HN := Lib.hid hn
  have HW := Lib.hid hw
  have H1 := Lib.hid h1
  have H2 := Lib.hid h2
  have HZ := Lib.hid hz
  have HL := Lib.hid hl
  clear hn hw h1 h2 hz
  go_enter Try.func9, Try.ntmps9
  go_wp2_with fail
  refine (List_begun W).mono ?_
  rintro e w1 ⟨a1, c1, rfl, hi, hb1⟩
  have HI := Lib.hid hi
  have HB1 := Lib.hid hb1
  clear hi hb1
  go_wp2_with fail
  refine (eq_same _ _ _ _ 1 [98304] rfl (by decide) _ (HI.out.below ((Below.refl _ _).alloc (Nat.le_refl _) _)) (ints_one .i64 w1 98304 3)).mono ?_
  rintro e w2 ⟨rfl, hb2⟩
  have hb2 := HB1.out.trans ((((Below.refl _ _).alloc (Nat.le_refl _) _).trans (hb2.mono (by simp))).mono HB1.out.size)
  have HB2 := Lib.hid hb2
  clear hb2
  go_wp2_with fail
  refine (b_List zs a n cap k0 HN.out HL.out HW.out h0 H1.out H2.out _ (HZ.out.below HB2.out)).mono ?_
  rintro e w3 hp
  have hb3 := bt HB2.out hp.2.2
  by_cases hk0 : k0 < n
  · obtain rfl := hp.1 hk0
    obtain ⟨f, hf⟩ : ∃ f, f = errF (zs.getD k0 0).toNat := ⟨_, rfl⟩
    rw [← hf]
    have HF := Lib.hid hf
    have HB3 := Lib.hid hb3
    have HZ3 := Lib.hid (HZ.out.below HB3.out)
    clear hp hb3 hf
    go_wp2_with fail
    go_loopg [7, 32] n (fun gk v vi wx => ∃ (k : Nat) (a2 : Option Addr) (c2 : Nat), k ≤ k0 ∧ gk = n - k ∧ vi = .int .i64 k ∧ v = .slice a2 k c2 ∧ wx.ownsRow w3.heap.size 3 1 (.slice a2 k c2) k (vints .i64 (numN (zs.take k))) ∧ Below w3.heap.size w3 wx)
    case atStart => exact ⟨0, none, 0, Nat.zero_le _, rfl, rfl, rfl, World.ownsRow_nil _ _ _ _, Below.refl _ _⟩
    case round =>
      obtain ⟨k, a2, c2, hk, g2, rfl, rfl, hown, hb⟩ := hrel
      have G2 := Lib.hid g2
      have HB := Lib.hid hb
      have hB := hb.size
      clear g2 hb
      by_cases hlt : k < n
      · obtain ⟨x, rfl, hx, hc⟩ := (HZ3.out.below HB.out) (by rw [HN.out]; omega)
        have hck := hc k (by rw [HN.out]; exact hlt)
        obtain ⟨b, hb1, hb2, hb3⟩ := at_nat HW.out k (by rw [HN.out]; exact hlt)
        rw [hb1] at hck
        have F := fun W => ref_FromBits b hb2 W
        obtain ⟨m, hm⟩ : ∃ m, m = numF b := ⟨_, rfl⟩
        obtain ⟨f2, hf2⟩ : ∃ f, f = errF b := ⟨_, rfl⟩
        rw [← hm, ← hf2] at F
        have F := Lib.hid F
        have HM := Lib.hid hm
        have HF2 := Lib.hid hf2
        have HB3' := Lib.hid hb3
        clear hc hm hf2 hb1 hb2 hb3
        by_cases hk1 : k < k0
        · have t1 : (f2 != 0) = false := by
            have := H1.out k hk1
            rw [HB3'.out, ← HF2.out] at this
            rw [this]; rfl
          go_wp2_with fail
          refine (F.out _).mono ?_
          rintro e w1 ⟨rfl, rfl⟩
          clear hck
          go_wp2_with (at_builtin; go_must (refine wpList_append_new rfl _ _ 38 rfl w3.heap.size 3 (.int .i64 0) 1 8 Try.underlying38 (by kernel_rfl) rfl (by decide) _ _ _ rfl hown _ _ rfl rfl rfl (by have := HL.out; omega) (by decide) hB ?_))
          intro g' cap' w' hown' hg hor hlt'
          have hb' : Below w3.heap.size w3 w' := HB.out.grown hg hB (fun j hj => (hown.lt j hj).1)
          have e1 : vints .i64 (numN (zs.take k)) ++ #[Value.int .i64 m].toList = vints .i64 (numN (zs.take (k + 1))) := by
            rw [vints_snoc, numN_take _ _ (by rw [HN.out]; exact hlt), HB3'.out, ← HM.out]
          rw [e1] at hown'
          have HO := Lib.hid hown'
          have HB' := Lib.hid hb'
          clear hown hown' hg hor hb' e1
          go_wp2
          go_roundg (n - (k + 1))
          case measure => rw [G2.out]; omega
          case rel => exact ⟨k + 1, _, _, hk1, rfl, by go_num, rfl, HO.out, HB'.out⟩
        · have hke : k = k0 := by omega
          have t1 : (f2 != 0) = true := by
            have := H2.out hk0
            rw [← hke, HB3'.out, ← HF2.out] at this
            rw [bne_iff_ne]; exact this
          have t2 : (f == f2) = true := by
            rw [beq_iff_eq, HF.out, ← hke, HB3'.out, ← HF2.out]
          have HKE := Lib.hid hke
          clear hke
          go_wp2_with fail
          refine (F.out _).mono ?_
          rintro e w1 ⟨rfl, rfl⟩
          go_wp2_with fail
          go_ret
          exact ⟨rfl, bt HB3.out HB.out⟩
      · exact absurd hlt (by omega)
  · obtain ⟨ax, cx, rfl, hix⟩ := hp.2.1 (by omega)
    have hk1 : k0 = n := by omega
    have HK1 := Lib.hid hk1
    have HIX := Lib.hid hix
    have HB3 := Lib.hid hb3
    have HZ3 := Lib.hid (HZ.out.below HB3.out)
    clear hp hb3 hix hk1
    go_wp2_with fail
    go_loopg [7, 32] n (fun gk v vi wx => ∃ (k : Nat) (a2 : Option Addr) (c2 : Nat), k ≤ k0 ∧ gk = n - k ∧ vi = .int .i64 k ∧ v = .slice a2 k c2 ∧ wx.ownsRow w3.heap.size 3 1 (.slice a2 k c2) k (vints .i64 (numN (zs.take k))) ∧ Below w3.heap.size w3 wx)
    case atStart => exact ⟨0, none, 0, Nat.zero_le _, rfl, rfl, rfl, World.ownsRow_nil _ _ _ _, Below.refl _ _⟩
    case round =>
      obtain ⟨k, a2, c2, hk, g2, rfl, rfl, hown, hb⟩ := hrel
      have G2 := Lib.hid g2
      have HB := Lib.hid hb
      have hB := hb.size
      clear g2 hb
      by_cases hlt : k < n
      · obtain ⟨x, rfl, hx, hc⟩ := (HZ3.out.below HB.out) (by rw [HN.out]; omega)
        have hck := hc k (by rw [HN.out]; exact hlt)
        obtain ⟨b, hb1, hb2, hb3⟩ := at_nat HW.out k (by rw [HN.out]; exact hlt)
        rw [hb1] at hck
        have F := fun W => ref_FromBits b hb2 W
        obtain ⟨m, hm⟩ : ∃ m, m = numF b := ⟨_, rfl⟩
        obtain ⟨f2, hf2⟩ : ∃ f, f = errF b := ⟨_, rfl⟩
        rw [← hm, ← hf2] at F
        have F := Lib.hid F
        have HM := Lib.hid hm
        have HF2 := Lib.hid hf2
        have HB3' := Lib.hid hb3
        clear hc hm hf2 hb1 hb2 hb3
        by_cases hk1 : k < k0
        · have t1 : (f2 != 0) = false := by
            have := H1.out k hk1
            rw [HB3'.out, ← HF2.out] at this
            rw [this]; rfl
          go_wp2_with fail
          refine (F.out _).mono ?_
          rintro e w1 ⟨rfl, rfl⟩
          clear hck
          go_wp2_with (at_builtin; go_must (refine wpList_append_new rfl _ _ 38 rfl w3.heap.size 3 (.int .i64 0) 1 8 Try.underlying38 (by kernel_rfl) rfl (by decide) _ _ _ rfl hown _ _ rfl rfl rfl (by have := HL.out; omega) (by decide) hB ?_))
          intro g' cap' w' hown' hg hor hlt'
          have hb' : Below w3.heap.size w3 w' := HB.out.grown hg hB (fun j hj => (hown.lt j hj).1)
          have e1 : vints .i64 (numN (zs.take k)) ++ #[Value.int .i64 m].toList = vints .i64 (numN (zs.take (k + 1))) := by
            rw [vints_snoc, numN_take _ _ (by rw [HN.out]; exact hlt), HB3'.out, ← HM.out]
          rw [e1] at hown'
          have HO := Lib.hid hown'
          have HB' := Lib.hid hb'
          clear hown hown' hg hor hb' e1
          go_wp2
          go_roundg (n - (k + 1))
          case measure => rw [G2.out]; omega
          case rel => exact ⟨k + 1, _, _, hk1, rfl, by go_num, rfl, HO.out, HB'.out⟩
        · exact absurd hk1 (by omega)
      · have hke : k = n := by omega
        have h3 := IntsAt.of_own hown (by rw [numN_length, List.length_take, HN.out, hke, Nat.min_self])
        rw [hke, ← HN.out, List.take_length] at h3
        have H3 := Lib.hid h3
        subst hke
        clear h3
        go_wp2_with fail
        refine (eq_same ax a2 cx c2 k (numN zs) (by rw [numN_length, HN.out]) (by have := HL.out; omega) _ (HIX.out.below HB.out) H3.out).mono ?_
        rintro e w4 ⟨rfl, hb4⟩
        go_wp2_with fail
        go_ret
        exact ⟨rfl, bt (bt HB3.out HB.out) hb4⟩
theorem u64_wf {z : Int} (h : (Lit.int .u64 z).wf = true) : 0 ≤ z ∧ z < 18446744073709551616 := by
  have h1 : IntKind.u64.min ≤ z ∧ z ≤ IntKind.u64.max := by simpa [Lit.wf] using h
  have : IntKind.u64.min = 0 := by decide
  have : IntKind.u64.max = 18446744073709551615 := by decide
  omega
theorem law_BorderLists (a : Option Addr) (len cap : Nat) (zs : List Int) (W : World) (h : IsRow .u64 W a len cap zs) (r : cap * 8 ≤ 140737488351232) :
    Calls Try.prog 9 #[.slice a len cap] W fun e w' => e = .returned (.bool true) ∧ Below W.heap.size W w' :=
  walk_BorderLists (zs.take len) a len cap h.len (by have := h.le; omega) (fun z hz => u64_wf (h.wf z hz)) W (IntsAt.of_row h)
end Go.Proofs.Ytehpfkmaikbjkaa
