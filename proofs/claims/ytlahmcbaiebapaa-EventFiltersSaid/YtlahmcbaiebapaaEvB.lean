/- slices.Equal of a list of events with itself; event.Of. -/
import Derived.Test.YtlahmcbaiebapaaEvA
import Derived.Test.YtlahmcbaiebapaaCloneI
import Derived.Test.YtlahmcbaiebapaaRegSt2
import Derived.Deep.LoopGhost
namespace Go.Proofs.Ytlahmcbaiebapaa
open Go.ChangeShapes Go.WideShapes Go.ChangeAt Go.RowKit Go.Mem
set_option linter.unusedVariables false
set_option maxRecDepth 100000 in
set_option maxHeartbeats 4000000 in
theorem eq_evs (a b : Option Addr) (ca cb n : Nat) (E : List EvV) (hn : E.length = n) (h1 : n ≤ 17592186044416) (w : World) (ha : SlAt 4 EvAt w a E) (hb : SlAt 4 EvAt w b E) :
    Calls Try.prog 57 #[.slice a n ca, .slice b n cb] w fun e w' => e = .returned (.bool true) ∧ Below w.heap.size w w' := by
  have hne : ((n : Int) != (n : Int)) = false := by simp
  have HN := Lib.hid hn
  have HA := Lib.hid ha
  have HB := Lib.hid hb
  have q1 := ev_neq
  have q2 := ev_guard
  clear hn ha hb
  go_enter Try.func57, Try.ntmps57
  go_wp2_with fail
  go_loopg [5, 13] n (fun gk _ vi wx => ∃ k : Nat, k ≤ n ∧ gk = n - k ∧ vi = .int .i64 k ∧ Below w.heap.size w wx)
  case atStart => exact ⟨0, by omega, rfl, rfl, Below.refl _ _⟩
  case round =>
    obtain ⟨k, g1, g2, rfl, hbw⟩ := hrel
    have G2 := Lib.hid g2
    clear g2
    by_cases hlt : k < n
    · obtain ⟨x, rfl, hx, hcx⟩ := HA.out.below EvAt.abides hbw (by rw [HN.out]; omega)
      obtain ⟨y, rfl, hy, hcy⟩ := HB.out.below EvAt.abides hbw (by rw [HN.out]; omega)
      obtain ⟨cx0, cx1, cx2, cx3⟩ := hcx k (by rw [HN.out]; exact hlt)
      obtain ⟨cy0, cy1, cy2, cy3⟩ := hcy k (by rw [HN.out]; exact hlt)
      obtain ⟨⟨ps, pn, pg, pv⟩, hp⟩ : ∃ p : EvV, p = E[k]'(by rw [HN.out]; exact hlt) := ⟨_, rfl⟩
      rw [← hp] at cx0 cx1 cx2 cx3 cy0 cy1 cy2 cy3
      have i1 : (0 : Int) ≤ (k : Int) := by omega
      have i2 : (k : Int) < (n : Int) := by omega
      have r1 := q1 ps pn pg pv
      have r2 := q2 .neq
      clear hcx hcy hp q1 q2
      go_wp2_with fail
      go_quiet (fail)
      go_wp2_with fail
      go_roundg (n - (k + 1))
      case measure => rw [G2.out]; omega
      case rel => exact ⟨k + 1, by omega, rfl, by go_num, below_drewN hbw _⟩
    · obtain rfl : k = n := by omega
      go_wp2_with fail
      go_ret
      exact ⟨rfl, hbw⟩
def ofB (s lo hi : Int) (y : EvV) : Bool := (decide (s = -1) || decide (y.s = s)) && (decide (lo ≤ y.v) && decide (y.v ≤ hi))
theorem filt_succ {α : Type} (p : α → Bool) (l : List α) (k : Nat) (h : k < l.length) : (l.take (k + 1)).filter p = (l.take k).filter p ++ (if p l[k] = true then [l[k]] else []) := by
  rw [List.take_succ_eq_append_getElem h, List.filter_append]
  congr 1
  by_cases hp : p l[k] = true
  · rw [if_pos hp, List.filter_cons_of_pos hp]; rfl
  · rw [if_neg hp, List.filter_cons_of_neg hp]; rfl
theorem filt_len {α : Type} (p : α → Bool) (l : List α) (k : Nat) : ((l.take k).filter p).length ≤ k := Nat.le_trans (List.length_filter_le _ _) (by rw [List.length_take]; omega)
def EvsPost (F : List EvV) (w : World) (e : Ending) (w' : World) : Prop := ∃ a c, e = .returned (.slice a F.length c) ∧ SlAt 4 EvAt w' a F ∧ Below w.heap.size w w'
set_option maxRecDepth 100000 in
set_option maxHeartbeats 8000000 in
theorem ev_Of (l : List EvV) (a : Option Addr) (n c : Nat) (s lo hi : Int) (hn : l.length = n) (h1 : n ≤ 4398046510976) (W : World) (hz : SlAt 4 EvAt W a l) :
    Calls Try.prog 58 #[.slice a n c, .int .i64 s, .agg #[.int .i64 lo, .int .i64 hi]] W (EvsPost (l.filter (ofB s lo hi)) W) := by
  have HN := Lib.hid hn
  have HZ := Lib.hid hz
  have hb0 := (Below.refl W.heap.size W).alloc (Nat.le_refl _) (.cells #[.int .i64 lo, .int .i64 hi] 95)
  have HB0 := Lib.hid hb0
  have HX := Lib.hid (heap_alloc_new W (.cells #[.int .i64 lo, .int .i64 hi] 95))
  clear hn hz hb0
  go_enter Try.func58, Try.ntmps58
  go_wp2_with fail
  go_loopg [7, 12] n (fun gk v vi wx => ∃ (k : Nat), k ≤ n ∧ gk = n - k ∧ vi = .int .i64 k ∧ Hid (wx.ownsRow (W.heap.size + 1) 99 4 v ((l.take k).filter (ofB s lo hi)).length (evC ((l.take k).filter (ofB s lo hi)))) ∧ Hid (Below (W.heap.size + 1) (W.alloc (.cells #[.int .i64 lo, .int .i64 hi] 95)) wx))
  case atStart => exact ⟨0, Nat.zero_le _, rfl, rfl, Lib.hid (World.ownsRow_nil _ _ _ _), Lib.hid (Below.refl _ _)⟩
  case round =>
    obtain ⟨k, hk, g2, rfl, HO, HB⟩ := hrel
    have G2 := Lib.hid g2
    clear g2
    have HBW := Lib.hid (HB0.out.trans (HB.out.mono (by omega)))
    by_cases hlt : k < n
    · obtain ⟨x, rfl, hx, hix⟩ := HZ.out.below EvAt.abides HBW.out (by rw [HN.out]; omega)
      obtain ⟨c0, c1, c2, c3⟩ := hix k (by rw [HN.out]; exact hlt)
      have hst := filt_succ (ofB s lo hi) l k (by rw [HN.out]; exact hlt)
      have hfl := filt_len (ofB s lo hi) l k
      obtain ⟨y, hy⟩ : ∃ p : EvV, p = l[k]'(by rw [HN.out]; exact hlt) := ⟨_, rfl⟩
      rw [← hy] at c0 c1 c2 c3 hst
      obtain ⟨ps, pn, pg, pv⟩ := y
      have i1 : (0 : Int) ≤ (k : Int) := by omega
      have i2 : (k : Int) < (n : Int) := by omega
      obtain ⟨F, hF⟩ : ∃ F, F = (l.take k).filter (ofB s lo hi) := ⟨_, rfl⟩
      rw [← hF] at HO hst hfl
      have hbA : Below wr.heap.size wr (wr.alloc (.cells #[.int .i64 ps, .int .i64 pn, .int .i64 pg, .int .i64 pv] 99)) := (Below.refl _ _).alloc (Nat.le_refl _) _
      have HOA := Lib.hid (own_below HO.out hbA)
      have HBA := Lib.hid (HB.out.trans (hbA.mono (by have := HB.out.size; simp at this; omega)))
      have HE := Lib.hid (heap_alloc_new wr (.cells #[.int .i64 ps, .int .i64 pn, .int .i64 pg, .int .i64 pv] 99))
      have e0 := cell_of_row _ _ 0 _ _ _ HE.out
      have e1 := cell_of_row _ _ 1 _ _ _ HE.out
      have e2 := cell_of_row _ _ 2 _ _ _ HE.out
      have e3 := cell_of_row _ _ 3 _ _ _ HE.out
      have x0 := cell_of_row _ _ 0 _ _ _ ((HBA.out.block W.heap.size (by omega)).trans HX.out)
      have x1 := cell_of_row _ _ 1 _ _ _ ((HBA.out.block W.heap.size (by omega)).trans HX.out)
      simp only [List.getElem?_toArray, List.getElem?_cons_zero, List.getElem?_cons_succ] at e0 e1 e2 e3 x0 x1
      have hbB : Below (wr.alloc (.cells #[.int .i64 ps, .int .i64 pn, .int .i64 pg, .int .i64 pv] 99)).heap.size (wr.alloc (.cells #[.int .i64 ps, .int .i64 pn, .int .i64 pg, .int .i64 pv] 99)) ((wr.alloc (.cells #[.int .i64 ps, .int .i64 pn, .int .i64 pg, .int .i64 pv] 99)).alloc (.cells #[.int .i64 ps, .int .i64 pn, .int .i64 pg, .int .i64 pv] 99)) := (Below.refl _ _).alloc (Nat.le_refl _) _
      have hs1 : W.heap.size + 1 ≤ ((wr.alloc (.cells #[.int .i64 ps, .int .i64 pn, .int .i64 pg, .int .i64 pv] 99)).alloc (.cells #[.int .i64 ps, .int .i64 pn, .int .i64 pg, .int .i64 pv] 99)).heap.size := by have := HBA.out.size; simp at this ⊢; omega
      have HOB := Lib.hid (own_below HOA.out hbB)
      have HBB := Lib.hid (HBA.out.trans (hbB.mono (by have := HBA.out.size; simp at this ⊢; omega)))
      have HS1 := Lib.hid hs1
      have HST := Lib.hid hst
      have HFL := Lib.hid hfl
      clear hix hy hF hbA hbB hst hfl hs1 HO HB
      by_cases hA : s = -1 ∨ ps = s
      · by_cases hB : lo ≤ pv
        · by_cases hC : pv ≤ hi
          · have HP := Lib.hid (show ofB s lo hi ⟨ps, pn, pg, pv⟩ = true by simp [ofB, hA, hB, hC])
            have t1 : (s == -1) = true ∨ (s == -1) = false := by cases (s == -1) <;> simp
            rcases t1 with t1 | t1
            · clear hA
              go_wp2_with (at_builtin; go_must (refine wpList_append_blk rfl _ _ 93 rfl (W.heap.size + 1) 99 (.agg #[.int .i64 0, .int .i64 0, .int .i64 0, .int .i64 0]) 4 32 Try.underlying93 (by kernel_rfl) rfl (by decide) _ _ _ rfl HOB.out (wr.heap.size + 1) _ _ rfl (row_second wr _ _) rfl rfl (by have := HFL.out; omega) (by decide) HS1.out ?_))
              intro g' cap' w8 hown hg hor hlt'
              rw [evC_snoc F ⟨ps, pn, pg, pv⟩] at hown
              have HO8 := Lib.hid hown
              have HB8 := Lib.hid (HBB.out.grown hg HS1.out (fun j hj => (own_lt HOA.out j hj).1))
              clear hown hg hor hlt' HOA HBA HOB HBB
              go_wp2_with fail
              go_roundg (n - (k + 1))
              case measure => rw [G2.out]; omega
              case rel => exact ⟨k + 1, by omega, rfl, by go_num, by rw [HST.out, HP.out, if_pos rfl, List.length_append]; exact HO8, HB8⟩
            · have t2 : (ps == s) = true := by
                rw [beq_iff_eq]
                rcases hA with h | h
                · rw [h] at t1; simp at t1
                · exact h
              clear hA
              go_wp2_with (at_builtin; go_must (refine wpList_append_blk rfl _ _ 93 rfl (W.heap.size + 1) 99 (.agg #[.int .i64 0, .int .i64 0, .int .i64 0, .int .i64 0]) 4 32 Try.underlying93 (by kernel_rfl) rfl (by decide) _ _ _ rfl HOB.out (wr.heap.size + 1) _ _ rfl (row_second wr _ _) rfl rfl (by have := HFL.out; omega) (by decide) HS1.out ?_))
              intro g' cap' w8 hown hg hor hlt'
              rw [evC_snoc F ⟨ps, pn, pg, pv⟩] at hown
              have HO8 := Lib.hid hown
              have HB8 := Lib.hid (HBB.out.grown hg HS1.out (fun j hj => (own_lt HOA.out j hj).1))
              clear hown hg hor hlt' HOA HBA HOB HBB
              go_wp2_with fail
              go_roundg (n - (k + 1))
              case measure => rw [G2.out]; omega
              case rel => exact ⟨k + 1, by omega, rfl, by go_num, by rw [HST.out, HP.out, if_pos rfl, List.length_append]; exact HO8, HB8⟩
          · have HP := Lib.hid (show ofB s lo hi ⟨ps, pn, pg, pv⟩ = false by simp [ofB, hC])
            have t1 : (s == -1) = true ∨ (s == -1) = false := by cases (s == -1) <;> simp
            rcases t1 with t1 | t1
            · clear hA
              go_wp2_with fail
              go_roundg (n - (k + 1))
              case measure => rw [G2.out]; omega
              case rel => exact ⟨k + 1, by omega, rfl, by go_num, by rw [HST.out, HP.out]; simpa using HOA, HBA⟩
            · have t2 : (ps == s) = true := by
                rw [beq_iff_eq]
                rcases hA with h | h
                · rw [h] at t1; simp at t1
                · exact h
              clear hA
              go_wp2_with fail
              go_roundg (n - (k + 1))
              case measure => rw [G2.out]; omega
              case rel => exact ⟨k + 1, by omega, rfl, by go_num, by rw [HST.out, HP.out]; simpa using HOA, HBA⟩
        · have HP := Lib.hid (show ofB s lo hi ⟨ps, pn, pg, pv⟩ = false by simp [ofB, hB])
          have t1 : (s == -1) = true ∨ (s == -1) = false := by cases (s == -1) <;> simp
          rcases t1 with t1 | t1
          · clear hA
            go_wp2_with fail
            go_roundg (n - (k + 1))
            case measure => rw [G2.out]; omega
            case rel => exact ⟨k + 1, by omega, rfl, by go_num, by rw [HST.out, HP.out]; simpa using HOA, HBA⟩
          · have t2 : (ps == s) = true := by
              rw [beq_iff_eq]
              rcases hA with h | h
              · rw [h] at t1; simp at t1
              · exact h
            clear hA
            go_wp2_with fail
            go_roundg (n - (k + 1))
            case measure => rw [G2.out]; omega
            case rel => exact ⟨k + 1, by omega, rfl, by go_num, by rw [HST.out, HP.out]; simpa using HOA, HBA⟩
      · have HP := Lib.hid (show ofB s lo hi ⟨ps, pn, pg, pv⟩ = false by simp only [ofB]; rw [Bool.and_eq_false_iff]; left; rw [Bool.or_eq_false_iff]; exact ⟨decide_eq_false (fun h => hA (.inl h)), decide_eq_false (fun h => hA (.inr h))⟩)
        have t1 : (s == -1) = false := by rw [beq_eq_false_iff_ne]; exact fun h => hA (.inl h)
        have t2 : (ps == s) = false := by rw [beq_eq_false_iff_ne]; exact fun h => hA (.inr h)
        clear hA
        go_wp2_with fail
        go_roundg (n - (k + 1))
        case measure => rw [G2.out]; omega
        case rel => exact ⟨k + 1, by omega, rfl, by go_num, by rw [HST.out, HP.out]; simpa using HOA, HBA⟩
    · obtain rfl : k = n := by omega
      rw [List.take_of_length_le (by rw [HN.out]; omega)] at HO
      obtain ⟨a9, c9, rfl⟩ := own_slice HO.out
      have HR := Lib.hid (EvAt.of_own HO.out rfl)
      go_wp2_with fail
      go_ret
      exact ⟨a9, c9, rfl, HR.out, HBW.out⟩
end Go.Proofs.Ytlahmcbaiebapaa
