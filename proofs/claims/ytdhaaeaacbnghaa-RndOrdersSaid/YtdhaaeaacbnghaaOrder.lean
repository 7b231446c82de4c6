/- rnd.Order; the reference's Shuffled. -/
import Derived.Test.YtdhaaeaacbnghaaBelow
import Derived.Deep.DeepMust
import Derived.OwnWalk
namespace Go.Proofs.Ytdhaaeaacbnghaa
open Go.ChangeShapes Go.WideShapes Go.ChangeAt Go.RowKit Go.Mem
set_option linter.unusedVariables false

def swap (l : List Int) (a b : Nat) : List Int := (l.set a (l.getD b 0)).set b (l.getD a 0)
theorem swap_length (l : List Int) (a b : Nat) : (swap l a b).length = l.length := by simp [swap]
/-- One step for each place from i on down: f m s tells how many numbers are used below m from state s on. -/
def shuf (f : Nat → Nat → Nat) (g : Nat) : Nat → Nat → List Int → Nat × List Int
  | 0, s, l => (s, l)
  | i + 1, s, l => shuf f g i (st s g (f (i + 2) s)) (swap l (i + 1) (mix (st s g (f (i + 2) s)) % (i + 2)))
/-- f counts as it should. -/
def Counts (f : Nat → Nat → Nat) (g : Nat) : Prop := ∀ m s, 1 ≤ m → m < 9223372036854775808 → 1 ≤ f m s ∧ good m (mix (st s g (f m s))) ∧ ∀ j, 1 ≤ j → j < f m s → ¬ good m (mix (st s g j))
theorem counts_ex (g : Nat) (hg : g % 2 = 1) : ∃ f, Counts f g := by
  have h : ∀ m s, ∃ k, 1 ≤ m → m < 9223372036854775808 → 1 ≤ k ∧ good m (mix (st s g k)) ∧ ∀ j, 1 ≤ j → j < k → ¬ good m (mix (st s g j)) := fun m s => by
    by_cases h : m < 9223372036854775808
    · obtain ⟨k, hk⟩ := first_good m s g (by omega) hg
      exact ⟨k, fun _ _ => hk⟩
    · exact ⟨0, fun _ h2 => absurd h2 h⟩
  exact ⟨fun m s => Classical.choose (h m s), fun m s h1 h2 => Classical.choose_spec (h m s) h1 h2⟩
def iota (n : Nat) : List Int := (List.range n).map (fun (i : Nat) => (i : Int))

theorem iota_of (n : Nat) (o : List Int) (hl : o.length = n) (h : ∀ j, j < n → o.getD j 0 = (j : Int)) : o = iota n := by
  apply getD_eq_of_ext (by simp [iota, hl])
  intro j hj
  rw [h j (by omega)]
  have : j < n := by omega
  simp [iota, this]
theorem swap_same (l : List Int) (a : Nat) : swap l a a = l := by
  apply getD_eq_of_ext (swap_length l a a)
  intro j hj
  rw [swap_length] at hj
  by_cases e : j = a
  · subst e; simp [swap, hj]
  · have e' : ¬ a = j := fun h => e h.symm
    simp [swap, e', List.getD_eq_getElem?_getD]
theorem shuf_length (f : Nat → Nat → Nat) (g : Nat) : ∀ (i s : Nat) (l : List Int), (shuf f g i s l).2.length = l.length
  | 0, s, l => rfl
  | i + 1, s, l => by
    show (shuf f g i _ _).2.length = _
    rw [shuf_length f g i, swap_length]
theorem results_tct2 {P : Program} {fn : Func} {a p b : Tmp} {ty : TypeId} (h : fn.results = #[.tmp a, .cell p ty, .tmp b]) (tmps : Array Value) (w : World) (g : Nat) (t : TypeId) (cs : Array Value) (fr : Nat × Nat) (d : TypeDesc)
    (hp : tmps.getD p undef = .pointer (some ⟨g, 0, none⟩)) (hg : w.heap[g]? = some (.cells cs t fr))
    (hu : P.underlying ty = some d) (hd : (match d with | .struct _ | .array _ _ => true | _ => false) = true) (hi : (P.info? ty).map (·.size) = some cs.size) :
    (results fn tmps).run P w = .ok (.tuple #[tmps.getD a undef, .agg cs, tmps.getD b undef]) w := results_tct h tmps w g t cs fr d hp hg hu hd hi

theorem rnd_Order_err (s g : Nat) (n : Int) (h : n < 0 ∨ 1000 < n ∨ g % 2 = 0) (w : World) :
    Calls Try.prog 44 #[.agg #[.int .u64 s, .int .u64 g], .int .i64 n] w fun e w' => e = .returned (.tuple #[.slice none 0 0, .agg #[.int .u64 0, .int .u64 0], .int .i64 1]) ∧ Below w.heap.size w w' := by
  by_cases hn : n < 0
  · clear h
    go_enter Try.func44, Try.ntmps44
    go_wp2
    exact bodyPost_ret (results_tct Try.results44 _ _ (w.heap.size + 1) 24 #[.int .u64 0, .int .u64 0] (0, 0) _ rfl (row_second w _ _) Try.underlying24 rfl (by kernel_rfl)) rfl ⟨rfl, ((Below.refl _ _).alloc (Nat.le_refl _) _).alloc (by simp) _⟩
  · by_cases hn2 : 1000 < n
    · clear h
      go_enter Try.func44, Try.ntmps44
      go_wp2
      exact bodyPost_ret (results_tct Try.results44 _ _ (w.heap.size + 1) 24 #[.int .u64 0, .int .u64 0] (0, 0) _ rfl (row_second w _ _) Try.underlying24 rfl (by kernel_rfl)) rfl ⟨rfl, ((Below.refl _ _).alloc (Nat.le_refl _) _).alloc (by simp) _⟩
    · have hg : (g : Int) % 2 = 0 := by omega
      have HG : (((g : Int) % 2) == 0) = true := by simp [hg]
      clear h
      go_enter Try.func44, Try.ntmps44
      go_wp2
      exact bodyPost_ret (results_tct Try.results44 _ _ (w.heap.size + 1) 24 #[.int .u64 0, .int .u64 0] (0, 0) _ rfl (row_second w _ _) Try.underlying24 rfl (by kernel_rfl)) rfl ⟨rfl, ((Below.refl _ _).alloc (Nat.le_refl _) _).alloc (by simp) _⟩

set_option maxHeartbeats 8000000 in
theorem rnd_Order_ok (f : Nat → Nat → Nat) (s g n : Nat) (hf : Counts f g) (hs : s < 18446744073709551616) (hg : g < 18446744073709551616) (ho : g % 2 = 1) (hn : n ≤ 1000) (w : World) :
    Calls Try.prog 44 #[.agg #[.int .u64 s, .int .u64 g], .int .i64 n] w fun e w' => ∃ a : Option Addr, e = .returned (.tuple #[.slice a n n, .agg #[.int .u64 ((shuf f g (n - 1) s (iota n)).1 : Nat), .int .u64 g], .int .i64 0]) ∧
      IntsAt .i64 w' a (shuf f g (n - 1) s (iota n)).2 ∧ Below w.heap.size w w' := by
  have HF := Lib.hid hf
  have HG : (((g : Int) % 2) == 0) = false := by rw [beq_eq_false_iff_ne]; omega
  clear hf
  have hr := row_first w (.cells #[.int .u64 s, .int .u64 g] 24) (.cells #[.int .u64 0, .int .u64 0] 24)
  have hd := row_second w (.cells #[.int .u64 s, .int .u64 g] 24) (.cells #[.int .u64 0, .int .u64 0] 24)
  have hb := ((Below.refl w.heap.size w).alloc (Nat.le_refl _) (.cells #[.int .u64 s, .int .u64 g] 24)).alloc (by simp) (.cells #[.int .u64 0, .int .u64 0] 24)
  have HR := Lib.hid hr
  have HD := Lib.hid hd
  have hz : ((w.alloc (.cells #[.int .u64 s, .int .u64 g] 24)).alloc (.cells #[.int .u64 0, .int .u64 0] 24)).heap.size = w.heap.size + 1 + 1 := by simp
  have HZ := Lib.hid hz
  clear hr hd hz
  go_enter Try.func44, Try.ntmps44
  go_wp2_with (at_make; go_must (refine wpList_make_rowB rfl _ _ 34 rfl 3 .i64 8 Try.underlying34 (by kernel_rfl) _ _ _ _ n rfl rfl rfl rfl ?b1 ?b2 ?_))
  case b1 => omega
  case b2 => unfold maxLen; omega
  intro w1 hro hb1 hz1
  have HR1 := Lib.hid ((hb1.block _ (by omega)).trans HR.out)
  have HD1 := Lib.hid ((hb1.block _ (by omega)).trans HD.out)
  replace hb := hb.trans (hb1.mono (by omega))
  clear hb1 HR HD HZ hz1
  obtain ⟨G, hG⟩ : ∃ G, G = w.heap.size + 1 + 1 := ⟨_, rfl⟩
  rw [← hG] at hro ⊢
  have HGG := Lib.hid hG
  have hGB : w.heap.size + 1 < G := by omega
  clear hG
  have HN0 := Lib.hid (show iota n = iota n from rfl)
  go_wp2
  go_loopg [8, 30] n (fun gk _ vi wx => ∃ (k : Nat) (out : List Int), k ≤ n ∧ gk = n - k ∧ vi = .int .i64 k ∧ out.length = n ∧ (∀ j, j < k → out.getD j 0 = (j : Int)) ∧ RowB wx G 3 .i64 out ∧ wx.heap[w.heap.size]? = some (.cells #[.int .u64 s, .int .u64 g] 24 (0, 0)) ∧ wx.heap[w.heap.size + 1]? = some (.cells #[.int .u64 0, .int .u64 0] 24 (0, 0)) ∧ Below w.heap.size w wx)
  case atStart => exact ⟨0, List.replicate n 0, by omega, rfl, rfl, by simp, fun j h => by omega, hro, HR1.out, HD1.out, hb⟩
  case round =>
    clear hro hb HR1 HD1
    obtain ⟨k, out, h1, h2, rfl, hlen, hout, hro, hr, hd, hb⟩ := hrel
    have H2 := Lib.hid h2
    have HLEN := Lib.hid hlen
    have HOUT := Lib.hid hout
    have HR := Lib.hid hr
    have HD := Lib.hid hd
    have HRO := Lib.hid hro
    clear h2 hlen hout hr hd hro
    by_cases hlt : k < n
    · have e1 := HRO.out.cell k (by rw [HLEN.out]; exact hlt)
      have e2 := HRO.out.frozen k
      go_wp2
      go_roundg (n - (k + 1))
      case measure => rw [H2.out]; omega
      case rel =>
        refine ⟨k + 1, out.set k k, by omega, rfl, by go_num, by rw [List.length_set]; exact HLEN.out, fun j hj => ?_, HRO.out.set k k, heap_far HR.out (by simp; omega) _, heap_far HD.out (by simp; omega) _, hb.setCell (by simp; omega) _⟩
        by_cases q : j = k
        · subst q
          have : j < out.length := by rw [HLEN.out]; exact hlt
          simp [this]
        · rw [List.getD_eq_getElem?_getD, List.getElem?_set_ne (by omega), ← List.getD_eq_getElem?_getD]
          exact HOUT.out j (by omega)
    · obtain rfl : k = n := by omega
      have ho : out = iota k := iota_of k out HLEN.out HOUT.out
      subst ho
      clear HOUT H2 HN0
      go_wp2_with fail
      obtain ⟨wo, rfl⟩ : ∃ wo : World, wo = wr := ⟨_, rfl⟩
      go_loopg [9, 10, 11, 12] k (fun gk vi _ _ _ wx => ∃ (q S : Nat) (out : List Int), q ≤ k ∧ gk = q ∧ vi = .int .i64 ((q : Int) - 1) ∧ S < 18446744073709551616 ∧ out.length = k ∧ shuf f g (q - 1) S out = shuf f g (k - 1) s (iota k) ∧ RowB wx G 3 .i64 out ∧ wx.heap[w.heap.size]? = some (.cells #[.int .u64 S, .int .u64 g] 24 (0, 0)) ∧ wx.heap[w.heap.size + 1]? = some (.cells #[.int .u64 0, .int .u64 0] 24 (0, 0)) ∧ Below w.heap.size w wx)
      case atStart => exact ⟨k, s, iota k, Nat.le_refl _, rfl, rfl, hs, HLEN.out, rfl, HRO.out, HR.out, HD.out, hb⟩
      case round =>
        clear hb HR HD HRO HLEN
        obtain ⟨q, S, out, h1, h2, rfl, lS, hlen, hsh, hro, hr, hd, hb⟩ := hrel
        have H2 := Lib.hid h2
        have HLEN := Lib.hid hlen
        have HSH := Lib.hid hsh
        have HR := Lib.hid hr
        have HD := Lib.hid hd
        have HRO := Lib.hid hro
        clear h2 hlen hsh hr hd hro
        by_cases hlt : 2 ≤ q
        · obtain ⟨i, rfl⟩ : ∃ i, q = i + 2 := ⟨q - 2, by omega⟩
          obtain ⟨L, hL⟩ : ∃ L, L = i + 1 := ⟨_, rfl⟩
          have eL : ((i + 2 : Nat) : Int) - 1 = (L : Int) := by omega
          rw [eL]
          obtain ⟨f1, f2, f3⟩ := HF.out (i + 2) S (by omega) (by omega)
          have cb := rnd_Below_ok S g (i + 2) (f (i + 2) S) lS hg ho (by omega) (by omega) f1 f2 f3
          have eM : ((i + 2 : Nat) : Int) = (L : Int) + 1 := by omega
          obtain ⟨T, hT⟩ : ∃ T, T = st S g (f (i + 2) S) := ⟨_, rfl⟩
          have lT : T < 18446744073709551616 := by rw [hT]; exact st_lt _ _ _
          obtain ⟨K, hK⟩ : ∃ K, K = mix T % (i + 2) := ⟨_, rfl⟩
          have lK : K < i + 2 := by rw [hK]; exact Nat.mod_lt _ (by omega)
          rw [← hT, ← hK, eM] at cb
          have hnx : shuf f g (i + 1) S out = shuf f g i T (swap out L K) := by
            show shuf f g i (st S g (f (i + 2) S)) _ = _
            rw [← hT, ← hK, ← hL]
          have HNX := Lib.hid hnx
          have HL := Lib.hid hL
          have CB := Lib.hid cb
          have lL : L < k := by omega
          have lK2 : K ≤ L := by omega
          have l0 := lt_of_heap HR.out
          have c0 := cell_of_row _ _ 0 _ _ _ HR.out
          have c1 := cell_of_row _ _ 1 _ _ _ HR.out
          have kd : decide (0 < L) = true := by simp; omega
          clear cb hT hK hnx eM eL f1 f2 f3 lK hL
          go_wp2_with fail
          refine (CB.out _).mono ?_
          rintro e w2 ⟨rfl, hb2⟩
          replace HR := Lib.hid (heap_below HR.out hb2)
          replace HD := Lib.hid (heap_below HD.out hb2)
          replace HRO := Lib.hid (HRO.out.below hb2)
          replace hb := bt hb hb2
          have lG := HRO.out.lt
          clear hb2 c0 c1 CB l0
          go_wp2_with (refine wpList_store_rowP rfl 24 (.tmp 2) (.tmp 52) rfl w.heap.size #[.int .u64 T, .int .u64 g] rfl rfl _ _ (heap_keep HR.out _) (by kernel_rfl) rfl (ones2 _ _ rfl rfl) ?_; intro w3 P3)
          have HR3 := Lib.hid P3.here
          replace HD := Lib.hid (heap_putR (heap_keep HD.out _) P3 (by omega))
          replace HRO := Lib.hid ((HRO.out.alloc _).putR P3 (by omega))
          replace hb := (hb.alloc hb.size _).trans (P3.below (Nat.le_refl _))
          clear P3 HR
          obtain ⟨x, hx⟩ : ∃ x, x = out.getD L 0 := ⟨_, rfl⟩
          obtain ⟨y, hy⟩ : ∃ y, y = out.getD K 0 := ⟨_, rfl⟩
          have cL := HRO.out.cell L (by rw [HLEN.out]; omega)
          have cK := HRO.out.cell K (by rw [HLEN.out]; omega)
          have fL := HRO.out.frozen L
          have fK := HRO.out.frozen K
          rw [← hx] at cL
          rw [← hy] at cK
          have hsw : (out.set L y).set K x = swap out L K := by rw [swap, ← hx, ← hy]
          have HSW := Lib.hid hsw
          have i1 : (0 : Int) ≤ (L : Int) := by omega
          have i2 : (L : Int) < (k : Int) := by omega
          have i3 : (0 : Int) ≤ (K : Int) := by omega
          have i4 : (K : Int) < (k : Int) := by omega
          have HXY := Lib.hid (And.intro hx hy)
          clear hsw hx hy lG
          by_cases eKL : K = L
          · have EKL := Lib.hid (show x = y by rw [HXY.out.1, HXY.out.2, eKL])
            subst eKL
            go_region
            all_goals
              go_wp2
              go_roundg (i + 1)
              case measure => rw [H2.out]; omega
              case rel => exact ⟨i + 1, T, swap out K K, by omega, rfl, by rw [HL.out], lT, by rw [swap_length]; exact HLEN.out, HNX.out.symm.trans HSH.out, by rw [← HSW.out, EKL.out]; exact RowB.drew ((HRO.out.set K y).set K y), Mem.heap_drew (heap_far2 HR3.out (by omega) _ _ _ _), Mem.heap_drew (heap_far2 HD.out (by omega) _ _ _ _), ((hb.setCell (by simp; omega) _).setCell (by simp; omega) _).drew⟩
          · go_region
            all_goals
              go_wp2
              go_roundg (i + 1)
              case measure => rw [H2.out]; omega
              case rel => exact ⟨i + 1, T, swap out L K, by omega, rfl, by rw [HL.out], lT, by rw [swap_length]; exact HLEN.out, HNX.out.symm.trans HSH.out, by rw [← HSW.out]; exact RowB.drew ((HRO.out.set L y).set K x), Mem.heap_drew (heap_far2 HR3.out (by omega) _ _ _ _), Mem.heap_drew (heap_far2 HD.out (by omega) _ _ _ _), ((hb.setCell (by simp; omega) _).setCell (by simp; omega) _).drew⟩
        · have q1 : shuf f g (k - 1) s (iota k) = (S, out) := by rw [← HSH.out, show q - 1 = 0 by omega]; rfl
          have Q1 := Lib.hid q1
          have c0 := cell_of_row _ _ 0 _ _ _ HR.out
          have c1 := cell_of_row _ _ 1 _ _ _ HR.out
          have d0 := cell_of_row _ _ 0 _ _ _ HD.out
          have d1 := cell_of_row _ _ 1 _ _ _ HD.out
          have f0 := Mem.frozen_of_row HD.out 0
          have f1 := Mem.frozen_of_row HD.out 1
          clear HSH H2 q1
          rcases (show q = 0 ∨ q = 1 by omega) with rfl | rfl
          all_goals go_wp2_with fail
          all_goals go_region
          all_goals
            go_wp2
            refine bodyPost_ret (results_tct Try.results44 _ _ (w.heap.size + 1) 24 #[.int .u64 S, .int .u64 g] (0, 0) _ rfl (Mem.heap_drew (heap_set2 HD.out _ _)) Try.underlying24 rfl (by kernel_rfl)) rfl ⟨some ⟨G, 0, none⟩, ?_, ?_, ?_⟩
            · rw [Q1.out]; rfl
            · rw [Q1.out]; exact (RowB.drew ((HRO.out.far (p := ⟨w.heap.size + 1, 0, none⟩) (by simp; omega) _).far (p := ⟨w.heap.size + 1, 1, none⟩) (by simp; omega) _)).ints
            · exact ((hb.setCell (by simp) _).setCell (by simp) _).drew
end Go.Proofs.Ytdhaaeaacbnghaa
