/- event.Last. -/
import Derived.Test.YtlahmcbaiebapaaEvG
namespace Go.Proofs.Ytlahmcbaiebapaa
open Go.ChangeShapes Go.WideShapes Go.ChangeAt Go.RowKit Go.Mem Go.Slt
set_option linter.unusedVariables false
theorem cmpI_cases (x y : Int) : (x < y ∧ cmpI x y = -1) ∨ (x = y ∧ cmpI x y = 0) ∨ (y < x ∧ cmpI x y = 1) := by
  unfold cmpI
  by_cases h1 : x < y
  · left; exact ⟨h1, if_pos h1⟩
  · by_cases h2 : y < x
    · right; right; exact ⟨h2, by rw [if_neg h1, if_pos h2]⟩
    · right; left; exact ⟨by omega, by rw [if_neg h1, if_neg h2]⟩
theorem ordE_spec (a b : EvV) : (ordE a b < 0 ↔ a.s < b.s ∨ (a.s = b.s ∧ (a.n < b.n ∨ (a.n = b.n ∧ a.g < b.g)))) ∧ (ordE a b = 0 ↔ a.s = b.s ∧ a.n = b.n ∧ a.g = b.g) := by
  unfold ordE
  rcases cmpI_cases a.s b.s with ⟨h, e⟩ | ⟨h, e⟩ | ⟨h, e⟩ <;> rw [e]
  · simp [orI]; omega
  · rcases cmpI_cases a.n b.n with ⟨h2, e2⟩ | ⟨h2, e2⟩ | ⟨h2, e2⟩ <;> rw [e2]
    · simp [orI]; omega
    · rcases cmpI_cases a.g b.g with ⟨h3, e3⟩ | ⟨h3, e3⟩ | ⟨h3, e3⟩ <;> rw [e3] <;> simp [orI] <;> omega
    · simp [orI]; omega
  · simp [orI]; omega
theorem ordE_trans {a b c : EvV} (h1 : ordE a b < 0) (h2 : ordE b c < 0) : ordE a c < 0 := by
  have a1 := (ordE_spec a b).1.1 h1
  have a2 := (ordE_spec b c).1.1 h2
  exact (ordE_spec a c).1.2 (by omega)
theorem ordE_flip {a b : EvV} (h1 : ¬ ordE a b < 0) (h2 : ¬ ordE a b = 0) : ordE b a < 0 := by
  have a1 := fun h => h1 ((ordE_spec a b).1.2 h)
  have a2 := fun h => h2 ((ordE_spec a b).2.2 h)
  refine (ordE_spec b a).1.2 ?_
  by_cases c1 : a.s < b.s
  · exact (a1 (.inl c1)).elim
  · by_cases c2 : a.s = b.s
    · by_cases c3 : a.n < b.n
      · exact (a1 (.inr ⟨c2, .inl c3⟩)).elim
      · by_cases c4 : a.n = b.n
        · by_cases c5 : a.g < b.g
          · exact (a1 (.inr ⟨c2, .inr ⟨c4, c5⟩⟩)).elim
          · by_cases c6 : a.g = b.g
            · exact (a2 ⟨c2, c4, c6⟩).elim
            · omega
        · omega
    · omega
theorem ordE_same {a b c : EvV} (h : ordE a b = 0) : (ordE a c < 0 ↔ ordE b c < 0) ∧ (ordE c a < 0 ↔ ordE c b < 0) := by
  have a1 := (ordE_spec a b).2.1 h
  rw [(ordE_spec a c).1, (ordE_spec b c).1, (ordE_spec c a).1, (ordE_spec c b).1]
  rw [a1.1, a1.2.1, a1.2.2]
  exact ⟨Iff.rfl, Iff.rfl⟩
theorem evC_set : ∀ (E : List EvV) (i : Nat) (h : i < E.length) (y : EvV), ((((evC E).set (i * 4) (.int .i64 y.s)).set (i * 4 + 1) (.int .i64 y.n)).set (i * 4 + 2) (.int .i64 y.g)).set (i * 4 + 3) (.int .i64 y.v) = evC (E.set i y)
  | x :: E, 0, _, y => rfl
  | x :: E, i + 1, h, y => by
    have h1 := evC_set E i (by simpa using h) y
    have e : evC (x :: E) = .int .i64 x.s :: .int .i64 x.n :: .int .i64 x.g :: .int .i64 x.v :: evC E := rfl
    rw [e, show (i + 1) * 4 = i * 4 + 1 + 1 + 1 + 1 by omega, show i * 4 + 1 + 1 + 1 + 1 + 1 = (i * 4 + 1) + 1 + 1 + 1 + 1 by omega, show i * 4 + 1 + 1 + 1 + 1 + 2 = (i * 4 + 2) + 1 + 1 + 1 + 1 by omega, show i * 4 + 1 + 1 + 1 + 1 + 3 = (i * 4 + 3) + 1 + 1 + 1 + 1 by omega]
    simp only [List.set_cons_succ]
    rw [h1]
    rfl
theorem evC_split (E : List EvV) (i : Nat) (hi : i ≤ E.length) (y : EvV) : (evC E).take (i * 4) ++ [.int .i64 y.s, .int .i64 y.n, .int .i64 y.g, .int .i64 y.v] ++ (evC E).drop (i * 4) = evC (E.take i ++ [y] ++ E.drop i) := by
  have e1 : ∀ (E : List EvV) (i : Nat), (evC E).take (i * 4) = evC (E.take i) ∧ (evC E).drop (i * 4) = evC (E.drop i) := by
    intro E
    induction E with
    | nil => intro i; simp [evC]
    | cons x E ih =>
      intro i
      cases i with
      | zero => exact ⟨rfl, rfl⟩
      | succ i =>
        have e : evC (x :: E) = .int .i64 x.s :: .int .i64 x.n :: .int .i64 x.g :: .int .i64 x.v :: evC E := rfl
        obtain ⟨h1, h2⟩ := ih i
        rw [e, show (i + 1) * 4 = i * 4 + 1 + 1 + 1 + 1 by omega]
        simp only [List.take_succ_cons, List.drop_succ_cons]
        rw [h1, h2]
        exact ⟨rfl, rfl⟩
  obtain ⟨h1, h2⟩ := e1 E i
  rw [h1, h2]
  simp [evC, evL]
theorem evC_one (E : List EvV) : ∀ v ∈ evC E, v.oneCell' = true := by
  intro v hv
  unfold evC at hv
  obtain ⟨x, _, hx⟩ := List.mem_flatMap.1 hv
  unfold evL at hx
  simp only [List.mem_cons, List.not_mem_nil, or_false] at hx
  rcases hx with rfl | rfl | rfl | rfl <;> rfl
def evAdd (L : List EvV) (e : EvV) : List EvV := insG (fun y => ordE y e) (fun _ => e) e L
def evsOf (l : List EvV) : List EvV := l.foldl evAdd []
theorem evsOf_succ (l : List EvV) (k : Nat) (h : k < l.length) : evsOf (l.take (k + 1)) = evAdd (evsOf (l.take k)) l[k] := by
  unfold evsOf; rw [List.take_succ_eq_append_getElem h, List.foldl_append]; rfl
theorem evAdd_mem {L : List EvV} {e : EvV} : ∀ {y : EvV}, y ∈ evAdd L e → (y = e ∨ y ∈ L) := by
  unfold evAdd
  induction L with
  | nil => intro y h; simp [insG] at h; left; exact h
  | cons x L ih =>
    intro y h
    unfold insG at h
    split at h
    · rcases List.mem_cons.1 h with rfl | h
      · right; simp
      · rcases ih h with h | h
        · exact .inl h
        · right; simp [h]
    · split at h
      · rcases List.mem_cons.1 h with rfl | h
        · left; rfl
        · right; simp [h]
      · rcases List.mem_cons.1 h with rfl | h
        · left; rfl
        · right; exact h
def EvsOk (L : List EvV) : Prop := L.Pairwise (fun a b => ordE a b < 0)
theorem evAdd_ok {L : List EvV} (e : EvV) (h : EvsOk L) : EvsOk (evAdd L e) := by
  unfold EvsOk at *
  induction L with
  | nil => simp [evAdd, insG]
  | cons x L ih =>
    obtain ⟨h4, h5⟩ := List.pairwise_cons.1 h
    have ih := ih h5
    unfold evAdd insG
    split
    · rename_i hx
      refine List.pairwise_cons.2 ⟨fun y hy => ?_, ih⟩
      rcases evAdd_mem (L := L) (e := e) hy with h | h
      · rw [h]; exact hx
      · exact h4 y h
    · rename_i hx
      split
      · rename_i hx2
        exact List.pairwise_cons.2 ⟨fun y hy => (ordE_same hx2).1.1 (h4 y hy), h5⟩
      · rename_i hx2
        refine List.pairwise_cons.2 ⟨fun y hy => ?_, h⟩
        have h6 := ordE_flip hx hx2
        rcases List.mem_cons.1 hy with rfl | h
        · exact h6
        · exact ordE_trans h6 (h4 y h)
theorem cfUp_ev {L : List EvV} (e : EvV) (h : EvsOk L) : CfUp (fun y : EvV => ordE y e) L := by
  intro a b ha hb hab hlt
  rcases Nat.lt_or_ge a b with h2 | h2
  · exact ordE_trans (List.pairwise_iff_getElem.1 h a b ha hb h2) hlt
  · obtain rfl : a = b := by omega
    exact hlt
theorem evsOf_ok (l : List EvV) : ∀ k, k ≤ l.length → EvsOk (evsOf (l.take k)) ∧ (evsOf (l.take k)).length ≤ k
  | 0, _ => ⟨by simp [evsOf, EvsOk], by simp [evsOf]⟩
  | k + 1, h => by
    obtain ⟨h1, h2⟩ := evsOf_ok l k (by omega)
    rw [evsOf_succ l k (by omega)]
    refine ⟨evAdd_ok _ h1, ?_⟩
    have := (insG_len (fun y => ordE y (l[k]'(by omega))) (fun _ => l[k]'(by omega)) (l[k]'(by omega)) (evsOf (l.take k))).2
    unfold evAdd
    omega
set_option maxRecDepth 100000 in
set_option maxHeartbeats 8000000 in
theorem ev_Last (l : List EvV) (a : Option Addr) (n c : Nat) (hn : l.length = n) (h1 : n ≤ 4398046510976) (W : World) (hz : SlAt 4 EvAt W a l) :
    Calls Try.prog 59 #[.slice a n c] W (fun e w' => ∃ a c, e = .returned (.slice a (evsOf l).length c) ∧ SlAt 4 EvAt w' a (evsOf l) ∧ Below W.heap.size W w') := by
  have HN := Lib.hid hn
  have HZ := Lib.hid hz
  clear hn hz
  go_enter Try.func59, Try.ntmps59
  go_wp2_with fail
  go_loopg [3, 10] n (fun gk v vi wx => ∃ (k : Nat), k ≤ n ∧ gk = n - k ∧ vi = .int .i64 k ∧ Hid (wx.ownsRow W.heap.size 99 4 v (evsOf (l.take k)).length (evC (evsOf (l.take k)))) ∧ Hid (Below W.heap.size W wx))
  case atStart => exact ⟨0, Nat.zero_le _, rfl, rfl, Lib.hid (World.ownsRow_nil _ _ _ _), Lib.hid (Below.refl _ _)⟩
  case round =>
    obtain ⟨k, hk, g2, rfl, HO, HB⟩ := hrel
    have G2 := Lib.hid g2
    clear g2
    by_cases hlt : k < n
    · obtain ⟨x, rfl, hx, hix⟩ := HZ.out.below EvAt.abides HB.out (by rw [HN.out]; omega)
      obtain ⟨c0, c1, c2, c3⟩ := hix k (by rw [HN.out]; exact hlt)
      have hst := evsOf_succ l k (by rw [HN.out]; exact hlt)
      have hok := evsOf_ok l k (by rw [HN.out]; omega)
      obtain ⟨y, hy⟩ : ∃ p : EvV, p = l[k]'(by rw [HN.out]; exact hlt) := ⟨_, rfl⟩
      rw [← hy] at c0 c1 c2 c3 hst
      obtain ⟨ps, pn, pg, pv⟩ := y
      have i1 : (0 : Int) ≤ (k : Int) := by omega
      have i2 : (k : Int) < (n : Int) := by omega
      obtain ⟨L, hL⟩ : ∃ F, F = evsOf (l.take k) := ⟨_, rfl⟩
      rw [← hL] at HO hst hok
      obtain ⟨m, hm⟩ : ∃ m, m = L.length := ⟨_, rfl⟩
      rw [← hm] at HO
      have hmk : m ≤ k := by rw [hm]; exact hok.2
      have HM := Lib.hid hm
      have HST := Lib.hid hst
      have HOK := Lib.hid hok
      have hbA : Below wr.heap.size wr (wr.alloc (.cells #[.int .i64 ps, .int .i64 pn, .int .i64 pg, .int .i64 pv] 99)) := (Below.refl _ _).alloc (Nat.le_refl _) _
      have HOA := Lib.hid (own_below HO.out hbA)
      have HBA := Lib.hid (HB.out.trans (hbA.mono HB.out.size))
      have HE := Lib.hid (heap_alloc_new wr (.cells #[.int .i64 ps, .int .i64 pn, .int .i64 pg, .int .i64 pv] 99))
      have e0 := cell_of_row _ _ 0 _ _ _ HE.out
      have e1 := cell_of_row _ _ 1 _ _ _ HE.out
      have e2 := cell_of_row _ _ 2 _ _ _ HE.out
      have e3 := cell_of_row _ _ 3 _ _ _ HE.out
      simp only [List.getElem?_toArray, List.getElem?_cons_zero, List.getElem?_cons_succ] at e0 e1 e2 e3
      clear hix hy hL hm hbA hst hok HO HB
      go_wp2_with fail
      clear c0 c1 c2 c3 e0 e1 e2 e3
      obtain ⟨w5, hw5⟩ : ∃ q, q = wr.alloc (.cells #[.int .i64 ps, .int .i64 pn, .int .i64 pg, .int .i64 pv] 99) := ⟨_, rfl⟩
      rw [← hw5] at HOA HBA HE ⊢
      obtain ⟨be, hbe⟩ : ∃ q, q = wr.heap.size := ⟨_, rfl⟩
      rw [← hbe] at HE ⊢
      clear hw5 hbe
      obtain ⟨a3, c3, rfl⟩ := own_slice HOA.out
      have HBS := Lib.hid (bs_evs L a3 m c3 ⟨ps, pn, pg, pv⟩ HM.out.symm (by omega) (cfUp_ev ⟨ps, pn, pg, pv⟩ HOK.out.1) w5 (EvAt.of_own HOA.out HM.out))
      refine HBS.out.mono ?_
      rintro e w6 ⟨i, ok, hi, hlo, hhi, hokk, rfl, hb6⟩
      have HO6 := Lib.hid (own_below HOA.out hb6)
      have HB6 := Lib.hid (HBA.out.trans (hb6.mono HBA.out.size))
      have HE6 := Lib.hid (heap_below HE.out hb6)
      have HI := Lib.hid (And.intro hlo (And.intro hhi hokk))
      have him : i ≤ m := by rw [HM.out]; exact hi
      have e0 := cell_of_row _ _ 0 _ _ _ HE6.out
      have e1 := cell_of_row _ _ 1 _ _ _ HE6.out
      have e2 := cell_of_row _ _ 2 _ _ _ HE6.out
      have e3 := cell_of_row _ _ 3 _ _ _ HE6.out
      simp only [List.getElem?_toArray, List.getElem?_cons_zero, List.getElem?_cons_succ] at e0 e1 e2 e3
      clear hb6 HBS HOA HBA HE hlo hhi hokk hi
      cases ok with
      | true =>
        obtain ⟨hil, hie⟩ := HI.out.2.2.1 rfl
        have HY := Lib.hid (insG_yes (fun y : EvV => ordE y ⟨ps, pn, pg, pv⟩) (fun _ => ⟨ps, pn, pg, pv⟩) ⟨ps, pn, pg, pv⟩ L i hil HI.out.1 hie)
        have him2 : i < m := by rw [HM.out]; exact hil
        obtain ⟨g, cp, hv, _, hgl⟩ := HO6.out.form (by omega)
        injection hv with hv1 hv2 hv3
        subst hv1
        obtain ⟨g0, g1, g2, g3⟩ := evC_get L i hil
        have k0 := HO6.out.cells (g := g) rfl _ _ g0
        have k1 := HO6.out.cells (g := g) rfl _ _ g1
        have k2 := HO6.out.cells (g := g) rfl _ _ g2
        have k3 := HO6.out.cells (g := g) rfl _ _ g3
        rw [Addr.add_lit, Nat.zero_add] at k0 k1 k2 k3
        obtain ⟨cur, hcur⟩ := own_room HO6.out
        have kf0 : w6.frozen? ⟨g, i * 4, none⟩ = false := by simp [World.frozen?, hcur]
        have kf1 : w6.frozen? ⟨g, i * 4 + 1, none⟩ = false := by simp [World.frozen?, hcur]
        have kf2 : w6.frozen? ⟨g, i * 4 + 2, none⟩ = false := by simp [World.frozen?, hcur]
        have kf3 : w6.frozen? ⟨g, i * 4 + 3, none⟩ = false := by simp [World.frozen?, hcur]
        have HP := own_put (own_put (own_put (own_put HO6.out (i * 4) (.int .i64 ps)) (i * 4 + 1) (.int .i64 pn)) (i * 4 + 2) (.int .i64 pg)) (i * 4 + 3) (.int .i64 pv)
        have hes := evC_set L i hil ⟨ps, pn, pg, pv⟩
        simp only at hes
        rw [hes] at HP
        have HP2 := Lib.hid HP
        have HQ := Lib.hid (show evAdd L ⟨ps, pn, pg, pv⟩ = L.set i ⟨ps, pn, pg, pv⟩ from HY.out)
        have HGB := Lib.hid (own_lt HO6.out g rfl).1
        have i3 : (0 : Int) ≤ (i : Int) := by omega
        have i4 : (i : Int) < (m : Int) := by omega
        clear g0 g1 g2 g3 hcur hes HP hv2 hv3
        go_wp2_with fail
        go_roundg (n - (k + 1))
        case measure => rw [G2.out]; omega
        case rel => exact ⟨k + 1, by omega, rfl, by go_num, by rw [HST.out, HQ.out, List.length_set, ← HM.out]; exact HP2, Lib.hid ((((HB6.out.setCell (p := ⟨g, i * 4, none⟩) HGB.out _).setCell (p := ⟨g, i * 4 + 1, none⟩) HGB.out _).setCell (p := ⟨g, i * 4 + 2, none⟩) HGB.out _).setCell (p := ⟨g, i * 4 + 3, none⟩) HGB.out _)⟩
      | false =>
        have hno : ¬ ∃ h : i < L.length, ordE L[i] ⟨ps, pn, pg, pv⟩ = 0 := fun h => by have := HI.out.2.2.2 h; cases this
        have HY := Lib.hid (insG_no (fun y : EvV => ordE y ⟨ps, pn, pg, pv⟩) (fun _ => ⟨ps, pn, pg, pv⟩) ⟨ps, pn, pg, pv⟩ L i (by rw [← HM.out]; exact him) HI.out.1 HI.out.2.1 hno)
        have hbT : Below w6.heap.size w6 (w6.alloc (.cells #[.int .i64 ps, .int .i64 pn, .int .i64 pg, .int .i64 pv] 99)) := (Below.refl _ _).alloc (Nat.le_refl _) _
        have HO7 := Lib.hid (own_below HO6.out hbT)
        have HB7 := Lib.hid (HB6.out.trans (hbT.mono HB6.out.size))
        have HT7 := Lib.hid (heap_alloc_new w6 (.cells #[.int .i64 ps, .int .i64 pn, .int .i64 pg, .int .i64 pv] 99))
        have HNE := Lib.hid (fun g (hg : (Value.slice a3 m c3).ownBlock = some g) => show w6.heap.size ≠ g by have := (own_lt HO6.out g hg).2; omega)
        clear hbT hno
        go_wp2_with fail
        clear e0 e1 e2 e3
        obtain ⟨w7, hw7⟩ : ∃ q, q = w6.alloc (.cells #[.int .i64 ps, .int .i64 pn, .int .i64 pg, .int .i64 pv] 99) := ⟨_, rfl⟩
        rw [← hw7] at HO7 HB7 HT7 ⊢
        obtain ⟨bt, hbt⟩ : ∃ q, q = w6.heap.size := ⟨_, rfl⟩
        rw [← hbt] at HT7 HNE ⊢
        clear hw7 hbt
        have HIN := Lib.hid (ins_ev W.heap.size (evC L) [.int .i64 ps, .int .i64 pn, .int .i64 pg, .int .i64 pv] (.slice a3 m c3) m i bt w7 HO7.out him (by omega) HB7.out.size rfl HT7.out HNE.out (evC_one L) (by intro v hv; simp only [List.mem_cons, List.not_mem_nil, or_false] at hv; rcases hv with rfl | rfl | rfl | rfl <;> rfl))
        refine HIN.out.mono ?_
        rintro e w8 ⟨v', rfl, ho8, hg8⟩
        rw [evC_split L i (by rw [← HM.out]; exact him) ⟨ps, pn, pg, pv⟩, ← HY.out] at ho8
        have hlen : (evAdd L ⟨ps, pn, pg, pv⟩).length = m + 1 := by
          have hy := HY.out
          unfold evAdd
          rw [hy]; simp; have := HM.out; omega
        have HLN := Lib.hid hlen
        have HP2 := Lib.hid ho8
        have HB8 := Lib.hid (HB7.out.grown hg8 HB7.out.size (fun j hj => (own_lt HO7.out j hj).1))
        clear ho8 hg8 hlen HIN HNE
        go_wp2_with fail
        go_roundg (n - (k + 1))
        case measure => rw [G2.out]; omega
        case rel => exact ⟨k + 1, by omega, rfl, by go_num, by rw [HST.out, HLN.out]; exact HP2, HB8⟩
    · obtain rfl : k = n := by omega
      rw [List.take_of_length_le (by rw [HN.out]; omega)] at HO
      obtain ⟨a9, c9, rfl⟩ := own_slice HO.out
      have HR := Lib.hid (EvAt.of_own HO.out rfl)
      go_wp2_with fail
      go_ret
      exact ⟨a9, c9, rfl, HR.out, HB.out⟩
end Go.Proofs.Ytlahmcbaiebapaa
