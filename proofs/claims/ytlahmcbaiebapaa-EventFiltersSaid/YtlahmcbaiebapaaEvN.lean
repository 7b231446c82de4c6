/- event.Counts. -/
import Derived.Test.YtlahmcbaiebapaaEvG
namespace Go.Proofs.Ytlahmcbaiebapaa
open Go.ChangeShapes Go.WideShapes Go.ChangeAt Go.RowKit Go.Mem Go.Slt
set_option linter.unusedVariables false
def CtsPost (F : List (Int × Int)) (w : World) (e : Ending) (w' : World) : Prop := ∃ a c, e = .returned (.slice a F.length c) ∧ SlAt 2 CtAt w' a F ∧ Below w.heap.size w w'
set_option maxRecDepth 100000 in
set_option maxHeartbeats 8000000 in
theorem ev_Counts (l : List EvV) (a : Option Addr) (n c : Nat) (hn : l.length = n) (h1 : n ≤ 4398046510976) (W : World) (hz : SlAt 4 EvAt W a l) :
    Calls Try.prog 55 #[.slice a n c] W (CtsPost (ctsOf l) W) := by
  have HN := Lib.hid hn
  have HZ := Lib.hid hz
  clear hn hz
  go_enter Try.func55, Try.ntmps55
  go_wp2_with fail
  go_loopg [3, 10] n (fun gk v vi wx => ∃ (k : Nat), k ≤ n ∧ gk = n - k ∧ vi = .int .i64 k ∧ Hid (wx.ownsRow W.heap.size 108 2 v (ctsOf (l.take k)).length (entC (ctsOf (l.take k)))) ∧ Hid (Below W.heap.size W wx))
  case atStart => exact ⟨0, Nat.zero_le _, rfl, rfl, Lib.hid (World.ownsRow_nil _ _ _ _), Lib.hid (Below.refl _ _)⟩
  case round =>
    obtain ⟨k, hk, g2, rfl, HO, HB⟩ := hrel
    have G2 := Lib.hid g2
    clear g2
    by_cases hlt : k < n
    · obtain ⟨x, rfl, hx, hix⟩ := HZ.out.below EvAt.abides HB.out (by rw [HN.out]; omega)
      obtain ⟨c0, c1, c2, c3⟩ := hix k (by rw [HN.out]; exact hlt)
      have hst := ctsOf_succ l k (by rw [HN.out]; exact hlt)
      have hok := ctsOf_ok l k (by rw [HN.out]; omega)
      obtain ⟨y, hy⟩ : ∃ p : EvV, p = l[k]'(by rw [HN.out]; exact hlt) := ⟨_, rfl⟩
      rw [← hy] at c0 c1 c2 c3 hst
      obtain ⟨ps, pn, pg, pv⟩ := y
      have i1 : (0 : Int) ≤ (k : Int) := by omega
      have i2 : (k : Int) < (n : Int) := by omega
      obtain ⟨L, hL⟩ : ∃ F, F = ctsOf (l.take k) := ⟨_, rfl⟩
      rw [← hL] at HO hst hok
      obtain ⟨m, hm⟩ : ∃ m, m = L.length := ⟨_, rfl⟩
      rw [← hm] at HO
      have hmk : m ≤ k := by rw [hm]; exact hok.2.2
      have HM := Lib.hid hm
      have HST := Lib.hid hst
      have HOK := Lib.hid hok
      have hbA : Below wr.heap.size wr (wr.alloc (.cells #[.int .i64 ps, .int .i64 pn, .int .i64 pg, .int .i64 pv] 99)) := (Below.refl _ _).alloc (Nat.le_refl _) _
      have HOA := Lib.hid (own_below HO.out hbA)
      have HBA := Lib.hid (HB.out.trans (hbA.mono HB.out.size))
      have HE := Lib.hid (heap_alloc_new wr (.cells #[.int .i64 ps, .int .i64 pn, .int .i64 pg, .int .i64 pv] 99))
      have e0 := cell_of_row _ _ 0 _ _ _ HE.out
      simp only [List.getElem?_toArray, List.getElem?_cons_zero] at e0
      clear hix hy hL hm hbA hst hok HO HB
      go_wp2_with fail
      clear c0 c1 c2 c3 e0
      obtain ⟨w5, hw5⟩ : ∃ q, q = wr.alloc (.cells #[.int .i64 ps, .int .i64 pn, .int .i64 pg, .int .i64 pv] 99) := ⟨_, rfl⟩
      rw [← hw5] at HOA HBA HE ⊢
      obtain ⟨be, hbe⟩ : ∃ q, q = wr.heap.size := ⟨_, rfl⟩
      rw [← hbe] at HE ⊢
      clear hw5 hbe
      obtain ⟨a3, c3, rfl⟩ := own_slice HOA.out
      have HBS := Lib.hid (bs_cts L a3 m c3 ps HM.out.symm (by omega) (cfUp_ct ps HOK.out.1) w5 (CtAt.of_own HOA.out HM.out))
      refine HBS.out.mono ?_
      rintro e w6 ⟨i, ok, hi, hlo, hhi, hokk, rfl, hb6⟩
      have HO6 := Lib.hid (own_below HOA.out hb6)
      have HB6 := Lib.hid (HBA.out.trans (hb6.mono HBA.out.size))
      have HE6 := Lib.hid (heap_below HE.out hb6)
      have HI := Lib.hid (And.intro hlo (And.intro hhi hokk))
      have him : i ≤ m := by rw [HM.out]; exact hi
      clear hb6 HBS HOA HBA HE hlo hhi hokk hi
      cases ok with
      | true =>
        obtain ⟨hil, hie⟩ := HI.out.2.2.1 rfl
        have HY := Lib.hid (insG_yes (fun y : Int × Int => cmpI y.1 ps) (fun y => (y.1, y.2 + 1)) (ps, 1) L i hil HI.out.1 hie)
        have him2 : i < m := by rw [HM.out]; exact hil
        obtain ⟨g, cp, hv, _, hgl⟩ := HO6.out.form (by omega)
        injection hv with hv1 hv2 hv3
        subst hv1
        obtain ⟨g0, g1⟩ := entC_get L i hil
        rw [getD_pair L i hil] at g0 g1
        have k1 := HO6.out.cells (g := g) rfl _ _ g1
        rw [Addr.add_lit, Nat.zero_add] at k1
        obtain ⟨cur, hcur⟩ := own_room HO6.out
        have kf : w6.frozen? ⟨g, i * 2 + 1, none⟩ = false := by simp [World.frozen?, hcur]
        have hb := HOK.out.2.1 L[i] (List.getElem_mem _)
        obtain ⟨z, hz⟩ : ∃ z, z = (L[i]'hil).2 := ⟨_, rfl⟩
        rw [← hz] at k1 hb
        have hzw : IntKind.i64.wrap (z + 1) = z + 1 := by rw [IntKind.wrap_i64]; omega
        have HP := own_put HO6.out (i * 2 + 1) (.int .i64 (z + 1))
        have hes := entC_set L i hil (z + 1)
        rw [hes] at HP
        have hyy := HY.out
        rw [hz] at HP
        have HP2 := Lib.hid HP
        have HQ := Lib.hid (show ctAdd L ps = L.set i ((L[i]'hil).1, (L[i]'hil).2 + 1) from hyy)
        have HGB := Lib.hid (own_lt HO6.out g rfl).1
        have i3 : (0 : Int) ≤ (i : Int) := by omega
        have i4 : (i : Int) < (m : Int) := by rw [HM.out]; omega
        have HZ2 := Lib.hid hz
        clear g0 g1 hcur hes hyy HP hz hv2 hv3
        go_wp2_with fail
        go_roundg (n - (k + 1))
        case measure => rw [G2.out]; omega
        case rel => exact ⟨k + 1, by omega, rfl, by go_num, by rw [HST.out, HQ.out, List.length_set, ← HM.out]; exact Lib.hid (by have h := HP2.out; rw [← HZ2.out] at h ⊢; exact h), Lib.hid (HB6.out.setCell (p := ⟨g, i * 2 + 1, none⟩) HGB.out _)⟩
      | false =>
        have hno : ¬ ∃ h : i < L.length, cmpI (L[i]).1 ps = 0 := fun h => by have := HI.out.2.2.2 h; cases this
        have HY := Lib.hid (insG_no (fun y : Int × Int => cmpI y.1 ps) (fun y => (y.1, y.2 + 1)) (ps, 1) L i (by rw [← HM.out]; exact him) HI.out.1 HI.out.2.1 hno)
        have e0 := cell_of_row _ _ 0 _ _ _ HE6.out
        simp only [List.getElem?_toArray, List.getElem?_cons_zero] at e0
        have hbT : Below w6.heap.size w6 (w6.alloc (.cells #[.int .i64 ps, .int .i64 0] 108)) := (Below.refl _ _).alloc (Nat.le_refl _) _
        have HO7 := Lib.hid (own_below HO6.out hbT)
        have HB7 := Lib.hid (HB6.out.trans (hbT.mono HB6.out.size))
        have HT7 := Lib.hid (heap_alloc_new w6 (.cells #[.int .i64 ps, .int .i64 0] 108))
        have HNE := Lib.hid (fun g (hg : (Value.slice a3 m c3).ownBlock = some g) => show w6.heap.size ≠ g by have := (own_lt HO6.out g hg).2; omega)
        clear hbT hno
        go_wp2_with fail
        clear e0
        obtain ⟨w7, hw7⟩ : ∃ q, q = w6.alloc (.cells #[.int .i64 ps, .int .i64 0] 108) := ⟨_, rfl⟩
        rw [← hw7] at HO7 HB7 HT7 ⊢
        obtain ⟨bt, hbt⟩ : ∃ q, q = w6.heap.size := ⟨_, rfl⟩
        rw [← hbt] at HT7 HNE ⊢
        clear hw7 hbt
        have HIN := Lib.hid (ins_ct W.heap.size (entC L) [.int .i64 ps, .int .i64 0] (.slice a3 m c3) m i bt w7 HO7.out him (by omega) HB7.out.size rfl HT7.out HNE.out (entC_one L) (by intro v hv; simp only [List.mem_cons, List.not_mem_nil, or_false] at hv; rcases hv with rfl | rfl <;> rfl))
        refine HIN.out.mono ?_
        rintro e w8 ⟨v', rfl, ho8, hg8⟩
        rw [entC_split L i (by rw [← HM.out]; exact him) (ps, 0)] at ho8
        have hb8 := HB7.out.grown hg8 HB7.out.size (fun j hj => (own_lt HO7.out j hj).1)
        obtain ⟨g, cp, hv, _, hgl⟩ := ho8.form (by omega)
        subst hv
        obtain ⟨L2, hL2⟩ : ∃ q, q = L.take i ++ [(ps, (0 : Int))] ++ L.drop i := ⟨_, rfl⟩
        rw [← hL2] at ho8
        have hl2 : L2.length = m + 1 := by rw [hL2]; simp; have := HM.out; omega
        have hil : i < L2.length := by omega
        have hat : L2[i] = (ps, 0) := by
          simp only [hL2]
          rw [List.getElem_append_left (by simp; have := HM.out; omega), List.getElem_append_right (by rw [List.length_take]; omega)]
          simp
        obtain ⟨g0, g1⟩ := entC_get L2 i hil
        rw [getD_pair L2 i hil, hat] at g0 g1
        have k1 := ho8.cells (g := g) rfl _ _ g1
        rw [Addr.add_lit, Nat.zero_add] at k1
        obtain ⟨cur, hcur⟩ := own_room ho8
        have kf : w8.frozen? ⟨g, i * 2 + 1, none⟩ = false := by simp [World.frozen?, hcur]
        have HP := own_put ho8 (i * 2 + 1) (.int .i64 1)
        have hes := entC_set L2 i hil 1
        rw [hat] at hes
        rw [hes] at HP
        have hset : L2.set i (ps, 1) = ctAdd L ps := by
          have hy := HY.out
          unfold ctAdd
          rw [hy, hL2, List.set_append_left _ _ (by simp; have := HM.out; omega), List.set_append_right _ _ (by rw [List.length_take]; omega)]
          simp
          have : i - min i L.length = 0 := by have := HM.out; omega
          rw [this]; rfl
        rw [hset] at HP
        have hlen : (ctAdd L ps).length = m + 1 := by rw [← hset, List.length_set, hl2]
        have HP2 := Lib.hid HP
        have HLN := Lib.hid hlen
        have HB8 := Lib.hid hb8
        have HGB := Lib.hid (own_lt ho8 g rfl).1
        have i3 : (0 : Int) ≤ (i : Int) := by omega
        have i4 : (i : Int) < (m : Int) + 1 := by omega
        clear g0 g1 hcur hes HP hat hil hl2 hL2 ho8 hg8 hb8 hset hlen HIN HNE
        go_wp2_with fail
        go_roundg (n - (k + 1))
        case measure => rw [G2.out]; omega
        case rel => exact ⟨k + 1, by omega, rfl, by go_num, by rw [HST.out, HLN.out]; exact HP2, Lib.hid (HB8.out.setCell (p := ⟨g, i * 2 + 1, none⟩) HGB.out _)⟩
    · obtain rfl : k = n := by omega
      rw [List.take_of_length_le (by rw [HN.out]; omega)] at HO
      obtain ⟨a9, c9, rfl⟩ := own_slice HO.out
      have HR := Lib.hid (CtAt.of_own HO.out rfl)
      go_wp2_with fail
      go_ret
      exact ⟨a9, c9, rfl, HR.out, HB.out⟩
end Go.Proofs.Ytlahmcbaiebapaa
