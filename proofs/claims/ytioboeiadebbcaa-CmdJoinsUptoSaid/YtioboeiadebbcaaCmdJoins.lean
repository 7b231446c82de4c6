/- The law CmdJoins. -/
import Derived.Test.YtioboeiadebbcaaConcatC
import Derived.Test.YtioboeiadebbcaaSameM
namespace Go.Proofs.Ytioboeiadebbcaa
open Go.ChangeShapes Go.WideShapes Go.ChangeAt Go.RowKit Go.Mem
set_option linter.unusedVariables false
theorem sum_ge {α : Type} (f g : α → Nat) (l : List α) (h : ∀ x ∈ l, f x ≤ g x) : (l.map f).sum ≤ (l.map g).sum := by
  induction l with
  | nil => simp
  | cons a l ih =>
    have h1 := h a List.mem_cons_self
    have h2 := ih fun x hx => h x (List.mem_cons_of_mem _ hx)
    simp only [List.map_cons, List.sum_cons]; omega
theorem sum_mem {α : Type} (f : α → Nat) (l : List α) (x : α) (h : x ∈ l) : f x ≤ (l.map f).sum := by
  induction l with
  | nil => cases h
  | cons a l ih =>
    simp only [List.map_cons, List.sum_cons]
    rcases List.mem_cons.1 h with rfl | h
    · omega
    · have := ih h; omega
theorem ones_sum {α : Type} (l : List α) : (l.map fun _ : α => 1).sum = l.length := by
  induction l with
  | nil => rfl
  | cons a l ih => simp only [List.map_cons, List.sum_cons, List.length_cons, ih]; omega
theorem sum_len {α : Type} (f : α → Nat) (l : List α) (h : ∀ x ∈ l, 1 ≤ f x) : l.length ≤ (l.map f).sum := by
  have := sum_ge (fun _ => 1) f l h
  have e : (l.map fun _ : α => 1).sum = l.length := ones_sum l
  omega
theorem bounds {l : List (List CmdV)} {B : Nat} (h : (l.map costCmds).sum ≤ B) : l.length ≤ B ∧ tot l ≤ B ∧ ∀ c ∈ l, c.length ≤ B ∧ ∀ z ∈ c, z.comps.length ≤ B ∧ ∀ q ∈ z.comps, q.vals.length ≤ B := by
  refine ⟨Nat.le_trans (sum_len _ _ fun c _ => by unfold costCmds; omega) h, Nat.le_trans (sum_ge _ _ _ fun c _ => ?_) h, fun c hc => ?_⟩
  · unfold costCmds
    have := sum_len costCmd c fun z _ => by unfold costCmd; omega
    omega
  · have h1 := sum_mem costCmds l c hc
    unfold costCmds at h1
    have h2 := sum_len costCmd c fun z _ => by unfold costCmd; omega
    refine ⟨by unfold costCmds at h; omega, fun z hz => ?_⟩
    have h3 := sum_mem costCmd c z hz
    unfold costCmd at h3
    have h4 := sum_len costComp z.comps fun q _ => by unfold costComp; omega
    have h5 : (c.map costCmd).sum ≤ B := by unfold costCmds at h; omega
    have h6 : (z.comps.map costComp).sum ≤ B := by unfold costCmd at h5; omega
    refine ⟨by omega, fun q hq => ?_⟩
    have h7 := sum_mem costComp z.comps q hq
    unfold costComp at h7
    unfold costComp at h6
    omega
def killV : CmdV := ⟨2, 0, 0, 0, []⟩
theorem begun_at (W : World) : SlAt 1 CmdsAt ((W.alloc (.cells #[.int .i64 2, .int .i64 0, .int .i64 0, .int .i64 0, .slice none 0 0] 75)).alloc (.cells #[.slice (some ⟨W.heap.size, 0, none⟩) 1 1, .slice (some ⟨W.heap.size, 0, none⟩) 1 1] 76)) (some ⟨W.heap.size + 1, 0, none⟩) [[killV], [killV]] := by
  have hs : ∀ o : Obj, (W.alloc o).heap.size = W.heap.size + 1 := fun o => by simp
  have x1 := heap_keep (heap_alloc_new W (.cells #[.int .i64 2, .int .i64 0, .int .i64 0, .int .i64 0, .slice none 0 0] 75)) (.cells #[.slice (some ⟨W.heap.size, 0, none⟩) 1 1, .slice (some ⟨W.heap.size, 0, none⟩) 1 1] 76)
  have x2 := heap_alloc_new (W.alloc (.cells #[.int .i64 2, .int .i64 0, .int .i64 0, .int .i64 0, .slice none 0 0] 75)) (.cells #[.slice (some ⟨W.heap.size, 0, none⟩) 1 1, .slice (some ⟨W.heap.size, 0, none⟩) 1 1] 76)
  rw [hs] at x2
  have hk : SlAt 5 CmdAt ((W.alloc (.cells #[.int .i64 2, .int .i64 0, .int .i64 0, .int .i64 0, .slice none 0 0] 75)).alloc (.cells #[.slice (some ⟨W.heap.size, 0, none⟩) 1 1, .slice (some ⟨W.heap.size, 0, none⟩) 1 1] 76)) (some ⟨W.heap.size, 0, none⟩) [killV] := by
    intro _
    refine ⟨_, rfl, by simp; omega, fun i hi => ?_⟩
    obtain rfl : i = 0 := by simpa using hi
    exact ⟨by rw [add_zero_block, cell_of_row _ _ _ _ _ _ x1]; rfl, by rw [add_zero_block, cell_of_row _ _ _ _ _ _ x1]; rfl, by rw [add_zero_block, cell_of_row _ _ _ _ _ _ x1]; rfl, by rw [add_zero_block, cell_of_row _ _ _ _ _ _ x1]; rfl, none, 0, by rw [add_zero_block, cell_of_row _ _ _ _ _ _ x1]; rfl, fun h => absurd h (Nat.lt_irrefl 0)⟩
  intro _
  refine ⟨_, rfl, by simp, fun i hi => ?_⟩
  rcases (show i = 0 ∨ i = 1 by have : i < 2 := hi; omega) with rfl | rfl
  · exact ⟨_, 1, by rw [add_zero_block, cell_of_row _ _ _ _ _ _ x2]; rfl, hk⟩
  · exact ⟨_, 1, by rw [add_zero_block, cell_of_row _ _ _ _ _ _ x2]; rfl, hk⟩
set_option maxHeartbeats 8000000 in
theorem walk_CmdJoins (l : List (List CmdV)) (a : Option Addr) (n cap : Nat) (hn : l.length = n) (hc : (l.map costCmds).sum ≤ 1048576) (W : World) (hz : SlAt 1 CmdsAt W a l) :
    Calls Try.prog 6 #[.slice a n cap] W fun e w' => e = .returned (.bool true) ∧ Below W.heap.size W w' := by
  obtain ⟨b1, b2, b3⟩ := bounds hc
  have h1 : n ≤ 1048576 := by omega
  have HN := Lib.hid hn
  have HZ := Lib.hid hz
  have HT := Lib.hid b2
  have HV := Lib.hid b3
  clear hn hz b1 b2 b3 hc
  go_enter Try.func6, Try.ntmps6
  go_wp2_with fail
  have hj := join_small [[killV], [killV]] (some ⟨W.heap.size + 1, 0, none⟩) 2 2 rfl (by decide) (by decide) (by decide) _ (begun_at W)
  refine hj.mono ?_
  rintro e w1 ⟨ax, cx, rfl, _, hb1⟩
  have hB1 : Below W.heap.size W w1 := (((Below.refl _ _).alloc (Nat.le_refl _) _).alloc (by simp) _).trans (hb1.mono (by simp; omega))
  have HB1 := Lib.hid hB1
  clear hb1 hB1 hj
  have e2 : tot [[killV], [killV]] = 2 := rfl
  rw [e2]
  clear e2
  by_cases hbig : 131072 < tot l
  · have HBG := Lib.hid hbig
    clear hbig
    go_wp2_with fail
    refine (join_large l a n cap HN.out HT.out h1 HBG.out w1 (HZ.out.below CmdsAt.abides HB1.out)).mono ?_
    rintro e w2 ⟨rfl, hw2⟩
    have HB2 : Hid (Below W.heap.size W w2) := Lib.hid (hw2 ▸ HB1.out)
    clear hw2
    go_wp2_with fail
    go_loopg [8, 10, 34] n (fun gk v8 v10 vi wx => ∃ k t : Nat, k ≤ n ∧ gk = n - k ∧ vi = .int .i64 k ∧ v8 = .int .i64 t ∧ t = tot (l.take k) ∧ t ≤ 1048576 ∧ wx = w2)
    case atStart => exact ⟨0, 0, Nat.zero_le _, rfl, rfl, rfl, rfl, by omega, rfl⟩
    case round =>
      obtain ⟨k, t, hk, g2, rfl, rfl, ht, htb, hw⟩ := hrel
      obtain rfl : w2 = wr := hw.symm
      have G2 := Lib.hid g2
      have HK := Lib.hid ht
      clear g2 ht
      by_cases hlt : k < n
      · obtain ⟨x, rfl, hx, hi⟩ := (HZ.out.below CmdsAt.abides HB2.out) (by rw [HN.out]; omega)
        obtain ⟨b, c, c0, _⟩ := hi k (by rw [HN.out]; exact hlt)
        rw [Nat.mul_one] at c0
        obtain ⟨m, hm⟩ : ∃ m, m = (l[k]'(by rw [HN.out]; exact hlt)).length := ⟨_, rfl⟩
        rw [← hm] at c0
        have hs : t + m = tot (l.take (k + 1)) := by rw [tot_take _ _ (by rw [HN.out]; exact hlt), HK.out, hm]
        have hs2 : t + m ≤ 1048576 := by have := tot_mono l (k + 1); have := HT.out; omega
        have HS := Lib.hid hs
        clear hi hm hs
        go_wp2_with fail
        go_roundg (n - (k + 1))
        case measure => rw [G2.out]; omega
        case rel => exact ⟨k + 1, t + m, hlt, rfl, by go_num, by go_num, HS.out, by omega, rfl⟩
      · have htn : t = tot l := by rw [HK.out, show k = l.length by rw [HN.out]; omega, List.take_length]
        have hbt : 131072 < t := by rw [htn]; exact HBG.out
        clear htn
        go_wp2_with fail
        go_ret
        exact ⟨rfl, HB2.out⟩
  · have hsm : tot l ≤ 131072 := by omega
    have HSM := Lib.hid hsm
    clear hbig hsm
    go_wp2_with fail
    refine (join_small l a n cap HN.out h1 HSM.out (fun c hc z hz => (HV.out c hc).2 z hz) w1 (HZ.out.below CmdsAt.abides HB1.out)).mono ?_
    rintro e w2 ⟨ay, cy, rfl, hay, hb2⟩
    have HAY := Lib.hid hay
    have HB2 := Lib.hid (bt HB1.out hb2)
    obtain ⟨N, hN⟩ : ∃ N, N = tot l := ⟨_, rfl⟩
    have hN2 : N ≤ 131072 := by rw [hN]; exact HSM.out
    have HNN := Lib.hid hN
    rw [← hN]
    clear hay hb2 hN
    go_wp2_with fail
    go_loopg [8, 10, 34] n (fun gk v8 v10 vi wx => ∃ k t : Nat, k ≤ n ∧ gk = n - k ∧ vi = .int .i64 k ∧ v8 = .int .i64 t ∧ t = tot (l.take k) ∧ t ≤ 1048576 ∧ wx = w2)
    case atStart => exact ⟨0, 0, Nat.zero_le _, rfl, rfl, rfl, rfl, by omega, rfl⟩
    case round =>
      obtain ⟨k, t, hk, g2, rfl, rfl, ht, htb, hw⟩ := hrel
      obtain rfl : w2 = wr := hw.symm
      have G2 := Lib.hid g2
      have HK := Lib.hid ht
      clear g2 ht
      by_cases hlt : k < n
      · obtain ⟨x, rfl, hx, hi⟩ := (HZ.out.below CmdsAt.abides HB2.out) (by rw [HN.out]; omega)
        obtain ⟨b, c, c0, _⟩ := hi k (by rw [HN.out]; exact hlt)
        rw [Nat.mul_one] at c0
        obtain ⟨m, hm⟩ : ∃ m, m = (l[k]'(by rw [HN.out]; exact hlt)).length := ⟨_, rfl⟩
        rw [← hm] at c0
        have hs : t + m = tot (l.take (k + 1)) := by rw [tot_take _ _ (by rw [HN.out]; exact hlt), HK.out, hm]
        have hs2 : t + m ≤ 1048576 := by have := tot_mono l (k + 1); have := HT.out; omega
        have HS := Lib.hid hs
        clear hi hm hs
        go_wp2_with fail
        go_roundg (n - (k + 1))
        case measure => rw [G2.out]; omega
        case rel => exact ⟨k + 1, t + m, hlt, rfl, by go_num, by go_num, HS.out, by omega, rfl⟩
      · have htn : t = tot l := by rw [HK.out, show k = l.length by rw [HN.out]; omega, List.take_length]
        have hbt : ¬ 131072 < t := by rw [htn]; have := HSM.out; omega
        clear htn
        have HC := Lib.hid (concat_cmds l a n cap HN.out h1 HSM.out w2 (HZ.out.below CmdsAt.abides HB2.out))
        rw [← HNN.out] at HC
        go_wp2_with fail
        refine HC.out.mono ?_
        rintro e w3 ⟨az, cz, rfl, haz, hb3⟩
        have hfl : l.flatten.length = N := by rw [flat_length, HNN.out]
        have hvf : ∀ z ∈ l.flatten, z.comps.length ≤ 1048576 ∧ ∀ c ∈ z.comps, c.vals.length ≤ 1048576 := fun z hz => by
          obtain ⟨c, hc, hz2⟩ := List.mem_flatten.1 hz
          exact (HV.out c hc).2 z hz2
        have hd := ref_SameCmds l.flatten l.flatten ay az N N cy cz hfl hfl (by omega) (by omega) hvf hvf w3 (HAY.out.below CmdAt.abides hb3) haz
        rw [decide_eq_true rfl] at hd
        have HD := Lib.hid hd
        have HB3 := Lib.hid (bt HB2.out hb3)
        clear hd hb3 haz hfl hvf HC
        go_wp2_with fail
        refine HD.out.mono ?_
        rintro e w4 ⟨rfl, hb4⟩
        go_wp2_with fail
        go_ret
        exact ⟨rfl, bt HB3.out hb4⟩
set_option maxRecDepth 100000 in
theorem law_CmdJoins {H : Type} {enc : TypeId × Value → H} (W : World) {base : Nat} {r : Reach} {v0 : Value} {d : DataW H} {p : List MemPlace} {ds : List (DataW H)} (hv : Value.okWide Try.prog W r base 72 v0) (h : DataW.Trod enc Try.prog W 0 (fun _ => true) true 72 v0 d p) (hk : Rows.uptoSmall H ds = true) (hd : d ∈ ds) :
    Calls Try.prog 6 #[v0] W fun e w' => e = .returned (.bool true) ∧ Below W.heap.size W w' := by
  obtain ⟨a, len, cap, rfl⟩ := okWide_slice Try.underlying72 hv
  obtain ⟨fuel, hf⟩ := h
  obtain ⟨a', l, cap', hcs, _, _, hz, hb⟩ := read_cmdss hf
  simp [Value.cells] at hcs
  obtain ⟨rfl, rfl, rfl⟩ := hcs
  have h1 := Bulk.mem hd
  have h2 := of_decide_eq_true hk
  exact walk_CmdJoins l a _ cap rfl (by simp only at hb; omega) W hz
end Go.Proofs.Ytioboeiadebbcaa
