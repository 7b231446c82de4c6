/- Package sets: word, one, join. -/
import Derived.Test.YtlahmcbaiebapaaSetP
import Derived.Test.YtlahmcbaiebapaaW64
import Derived.Test.YtlahmcbaiebapaaOwn
import Derived.Test.YtlahmcbaiebapaaRows
import Derived.Test.YtlahmcbaiebapaaCloneI
import Derived.Lib.MinMax
import Derived.Deep.LoopGhost
import Derived.Deep.DeepMust
import Derived.WalkSpells
import Derived.Shelf.Abstract
namespace Go.Proofs.Ytlahmcbaiebapaa
open Go.ChangeShapes Go.WideShapes Go.ChangeAt Go.RowKit Go.Mem Go.Sp
set_option linter.unusedVariables false

/-- A list of natural numbers as integers. -/
def V (A : List Nat) : List Int := A.map (fun (n : Nat) => (n : Int))
theorem V_length (A : List Nat) : (V A).length = A.length := by simp [V]
theorem V_getD (A : List Nat) (i : Nat) : (V A).getD i 0 = ((A.getD i 0 : Nat) : Int) := by
  unfold V
  rw [List.getD_eq_getElem?_getD, List.getElem?_map, List.getD_eq_getElem?_getD]
  cases A[i]? <;> rfl
theorem V_inj {A B : List Nat} (h : V A = V B) : A = B := by
  have := congrArg (List.map Int.toNat) h
  simpa [V, Function.comp_def] using this
/-- A slice that reads as a set. -/
def SetAt (w : World) (a : Option Addr) (A : List Nat) : Prop := IntsAt .u64 w a (V A)
theorem SetAt.below {w w2 : World} {a : Option Addr} {A : List Nat} (h : SetAt w a A) (hb : Below w.heap.size w w2) : SetAt w2 a A := IntsAt.below h hb
theorem SetAt.nil (w : World) (a : Option Addr) : SetAt w a [] := fun h => absurd h (by simp [V])
theorem SetAt.read {w : World} {a : Option Addr} {A : List Nat} (h : SetAt w a A) {k : Nat} (hk : k < A.length) : ∃ x, a = some x ∧ x.block < w.heap.size ∧ w.cell? (x.add k) = some (.int .u64 ((A.getD k 0 : Nat) : Int)) := by
  obtain ⟨x, hx, hb, hc⟩ := h (by rw [V_length]; omega)
  exact ⟨x, hx, hb, by rw [hc k (by rw [V_length]; exact hk), V_getD]⟩

set_option maxHeartbeats 2000000 in
theorem set_word (A : List Nat) (a : Option Addr) (n c k : Nat) (hn : A.length = n) (h1 : n ≤ 17592186044416) (hk : k ≤ 9223372036854775807) (w : World) (hz : SetAt w a A) :
    Calls Try.prog 78 #[.slice a n c, .int .i64 (k : Int)] w fun e w' => e = .returned (.int .u64 ((wd A k : Nat) : Int)) ∧ w = w' := by
  obtain ⟨X, hX⟩ : ∃ X, X = wd A k := ⟨_, rfl⟩
  rw [← hX]
  have HX := Lib.hid hX
  have HN := Lib.hid hn
  have HZ := Lib.hid hz
  clear hX hn hz
  by_cases h : k < n ∧ k < 64
  · obtain ⟨x, rfl, hx, hc⟩ := HZ.out.read (k := k) (by rw [HN.out]; exact h.1)
    have hc2 : w.cell? (x.add k) = some (.int .u64 (X : Int)) := by
      rw [hc, HX.out, wd, if_pos h.2]
    clear hc
    have ht : decide ((k : Int) < min (n : Int) 64) = true := by simp; omega
    have hk0 : (0 : Int) ≤ (k : Int) := by omega
    have hkn : (k : Int) < (n : Int) := by omega
    clear h
    go_enter Try.func78, Try.ntmps78
    go_wp2
    go_ret
    exact ⟨rfl, rfl⟩
  · have ht : decide ((k : Int) < min (n : Int) 64) = false := by simp; omega
    have HX0 := Lib.hid (show X = 0 by
      rw [HX.out]; unfold wd
      split
      · rw [List.getD_eq_getElem?_getD, List.getElem?_eq_none (by rw [HN.out]; omega)]; rfl
      · rfl)
    clear h
    go_enter Try.func78, Try.ntmps78
    go_wp2
    go_ret
    exact ⟨by rw [HX0.out]; rfl, rfl⟩
/-- A function value that works on two words. -/
def Op2 (fid : Nat) (f : Nat → Nat → Nat) : Prop := ∀ (x y : Nat) (W : World), x < 18446744073709551616 → y < 18446744073709551616 → Calls Try.prog fid #[.int .u64 (x : Int), .int .u64 (y : Int)] W fun e w' => e = .returned (.int .u64 ((f x y : Nat) : Int)) ∧ W = w'
theorem own_take {w : World} {base e k j : Nat} {a : Option Addr} {c : Nat} {xs : List Value} (h : w.ownsRow base e 1 (.slice a k c) k xs) (hj : j ≤ k) : w.ownsRow base e 1 (.slice a j c) j (xs.take j) := by
  refine ⟨by rw [List.length_take]; have := h.1; omega, ?_⟩
  rcases h.2 with ⟨h1, h2⟩ | ⟨g, cap, cur, h1, h2, h3, h4, h5, h6, h7⟩
  · injection h1 with q1 q2 q3
    have : j = 0 := by omega
    subst q1; subst q3; subst this
    exact .inl ⟨rfl, rfl⟩
  · injection h1 with q1 q2 q3
    subst q1; subst q3
    exact .inr ⟨g, c, cur, rfl, h2, h3, by omega, h5, h6, by rw [← h7, Nat.mul_one, Nat.mul_one, List.take_take, Nat.min_eq_left hj]⟩
theorem vints_V_take (A : List Nat) (j : Nat) : (vints .u64 (V A)).take j = vints .u64 (V (A.take j)) := by simp [vints, V, List.map_take]
def SetPost (A : List Nat) (n : Nat) (w : World) (e : Ending) (w' : World) : Prop := ∃ a c, e = .returned (.slice a n c) ∧ SetAt w' a A ∧ Below w.heap.size w w' ∧ (∀ x, a = some x → w.heap.size ≤ x.block ∧ x.block < w'.heap.size) ∧ w'.ownsRow w.heap.size 26 1 (.slice a n c) n (vints .u64 (V A))
theorem bits_andNot (x y : Nat) (hx : x < 18446744073709551616) (hy : y < 18446744073709551616) : bits .andNot .u64 (x : Int) (y : Int) = ((minus x y : Nat) : Int) := by
  have h1 : (BitVec.ofInt 64 (x : Int)).toNat = x := by
    rw [BitVec.ofInt_natCast, BitVec.toNat_ofNat]; exact Nat.mod_eq_of_lt (by omega)
  have h2 : (BitVec.ofInt 64 (y : Int)).toNat = y := by
    rw [BitVec.ofInt_natCast, BitVec.toNat_ofNat]; exact Nat.mod_eq_of_lt (by omega)
  have h3 := (bw_minus.2 x y hx hy).1
  show IntKind.u64.wrap ((BitVec.ofInt 64 (x : Int) &&& ~~~ BitVec.ofInt 64 (y : Int)).toNat : Int) = _
  rw [BitVec.toNat_and, BitVec.toNat_not, h1, h2]
  have e : 2 ^ 64 - 1 - y = 18446744073709551615 - y := rfl
  rw [e]
  exact W64.u_in _ h3
theorem op_or : Op2 80 (· ||| ·) := by
  intro x y W hx hy
  have h := W64.bits_or_u64 x y hx hy
  obtain ⟨z, hz⟩ : ∃ z, z = x ||| y := ⟨_, rfl⟩
  rw [← hz] at h
  show Calls Try.prog 80 #[.int .u64 (x : Int), .int .u64 (y : Int)] W fun e w' => e = .returned (.int .u64 ((x ||| y : Nat) : Int)) ∧ W = w'
  rw [← hz]
  clear hz
  go_enter Try.func80, Try.ntmps80
  go_wp2
  go_ret
  exact ⟨rfl, rfl⟩
theorem op_and : Op2 82 (· &&& ·) := by
  intro x y W hx hy
  have h := W64.bits_and_u64 x y hx hy
  obtain ⟨z, hz⟩ : ∃ z, z = x &&& y := ⟨_, rfl⟩
  rw [← hz] at h
  show Calls Try.prog 82 #[.int .u64 (x : Int), .int .u64 (y : Int)] W fun e w' => e = .returned (.int .u64 ((x &&& y : Nat) : Int)) ∧ W = w'
  rw [← hz]
  clear hz
  go_enter Try.func82, Try.ntmps82
  go_wp2
  go_ret
  exact ⟨rfl, rfl⟩
theorem op_minus : Op2 83 minus := by
  intro x y W hx hy
  have h := bits_andNot x y hx hy
  obtain ⟨z, hz⟩ : ∃ z, z = minus x y := ⟨_, rfl⟩
  rw [← hz] at h ⊢
  clear hz
  go_enter Try.func83, Try.ntmps83
  go_wp2
  go_ret
  exact ⟨rfl, rfl⟩
theorem op_fst : Op2 76 (fun x _ => x) := by
  intro x y W hx hy
  show Calls Try.prog 76 #[.int .u64 (x : Int), .int .u64 (y : Int)] W fun e w' => e = .returned (.int .u64 (x : Int)) ∧ W = w'
  go_enter Try.func76, Try.ntmps76
  go_wp2
  go_ret
  exact ⟨rfl, rfl⟩

theorem vints_V_snoc (A : List Nat) (x : Nat) : vints .u64 (V A) ++ #[Value.int .u64 (x : Int)].toList = vints .u64 (V (A ++ [x])) := by simp [vints, V]
theorem take_getD {A : List Nat} {j : Nat} (h : j < A.length) : A.take (j + 1) = A.take j ++ [A.getD j 0] := by
  rw [List.take_succ_eq_append_getElem h, List.getD_eq_getElem?_getD, List.getElem?_eq_getElem h]; rfl
theorem SetAt.take {w : World} {a : Option Addr} {A : List Nat} (h : SetAt w a A) (j : Nat) : SetAt w a (A.take j) := by
  have := IntsAt.take h j
  unfold SetAt V
  rwa [List.map_take]

set_option maxHeartbeats 4000000 in
theorem sets_join (f : Nat → Nat → Nat) (g : Bool → Bool → Bool) (fid : Nat) (he : ∀ args w, (callFunc fid args).run Try.prog w = .ok (.enter fid args) w) (hop : Op2 fid f) (hf : Bw f g) (A B : List Nat) (a b : Option Addr) (n m ca cb : Nat) (hn : A.length = n) (hm : B.length = m) (h1 : n ≤ 17592186044416) (h2 : m ≤ 17592186044416) (ha : Words A) (hb : Words B) (w : World) (hza : SetAt w a A) (hzb : SetAt w b B) :
    Calls Try.prog 75 #[.slice a n ca, .slice b m cb, .func (.func fid) #[] #[]] w (SetPost (joinN f A B) (joinN f A B).length w) := by
  obtain ⟨M, hM⟩ : ∃ M, M = max n m := ⟨_, rfl⟩
  obtain ⟨N, hN⟩ : ∃ N, N = min M 64 := ⟨_, rfl⟩
  obtain ⟨R, hR⟩ : ∃ R, R = joinL f A B N := ⟨_, rfl⟩
  have hJ : joinN f A B = trim R := by unfold joinN; rw [hn, hm, ← hM, ← hN, ← hR]
  have hRl : R.length = N := by rw [hR, joinL_length]
  have hRw : Words R := by rw [hR]; exact joinL_words hf ha hb N
  rw [hJ]
  have e1 : max (n : Int) (m : Int) = (M : Int) := by omega
  have e2 : min (M : Int) 64 = (N : Int) := by omega
  have hN64 : N ≤ 64 := by omega
  have HN := Lib.hid hn
  have HM := Lib.hid hm
  have HA := Lib.hid ha
  have HB := Lib.hid hb
  have HZA := Lib.hid hza
  have HZB := Lib.hid hzb
  have HR := Lib.hid hR
  have HRL := Lib.hid hRl
  have HRW := Lib.hid hRw
  have HOP := Lib.hid hop
  have HF := Lib.hid hf
  clear hn hm ha hb hza hzb hR hRl hRw hop hf hJ hM hN
  go_enter Try.func75, Try.ntmps75
  go_wp2
  clear e1 e2
  go_loopg [7, 8, 15] N (fun gk v7 _ vi wx => ∃ k : Nat, k ≤ N ∧ gk = N - k ∧ vi = .int .i64 k ∧ wx.ownsRow w.heap.size 26 1 v7 k (vints .u64 (V (joinL f A B k))) ∧ Below w.heap.size w wx)
  case atStart => exact ⟨0, Nat.zero_le _, rfl, rfl, World.ownsRow_nil _ _ _ _, Below.refl _ _⟩
  case round =>
    obtain ⟨k, hk, g2, rfl, hown, hbw⟩ := hrel
    have G2 := Lib.hid g2
    have HOWN := Lib.hid hown
    clear g2 hown
    by_cases hlt : k < N
    · have cA := set_word A a n ca k HN.out h1 (by omega) wr (HZA.out.below hbw)
      have cB := set_word B b m cb k HM.out h2 (by omega) wr (HZB.out.below hbw)
      obtain ⟨x, hx⟩ : ∃ x, x = wd A k := ⟨_, rfl⟩
      obtain ⟨y, hy⟩ : ∃ y, y = wd B k := ⟨_, rfl⟩
      rw [← hx] at cA
      rw [← hy] at cB
      have hx64 : x < 18446744073709551616 := by rw [hx]; exact HA.out.wd k
      have hy64 : y < 18446744073709551616 := by rw [hy]; exact HB.out.wd k
      have cF := HOP.out x y wr hx64 hy64
      obtain ⟨z, hz⟩ : ∃ z, z = f x y := ⟨_, rfl⟩
      rw [← hz] at cF
      have HXY := Lib.hid (show z = f (wd A k) (wd B k) by rw [hz, hx, hy])
      have CA := Lib.hid cA
      have CB := Lib.hid cB
      have CF := Lib.hid cF
      clear hx hy hz cA cB cF hx64 hy64
      go_wp2_with fail
      refine CA.out.mono ?_
      rintro e w1 ⟨rfl, rfl⟩
      go_wp2_with fail
      refine CB.out.mono ?_
      rintro e w1 ⟨rfl, rfl⟩
      go_wp2_with fail
      refine CF.out.mono ?_
      rintro e w1 ⟨rfl, rfl⟩
      have HE := Lib.hid hbw.size
      go_wp2_with (at_builtin; go_must (refine wpList_append_new rfl _ _ 25 rfl w.heap.size 26 (.int .u64 0) 1 8 Try.underlying25 (by kernel_rfl) rfl (by decide) _ _ _ rfl HOWN.out _ _ rfl rfl rfl (by omega) (by decide) HE.out ?_))
      intro g2 cap w2 hown2 hg2 _ _
      rw [vints_V_snoc, HXY.out, ← joinL_succ] at hown2
      have hb2 : Below w.heap.size w w2 := hbw.grown hg2 HE.out (fun j hj => (own_lt HOWN.out j hj).1)
      have HOWN2 := Lib.hid hown2
      clear hown2 hg2
      go_wp2_with fail
      go_roundg (N - (k + 1))
      case measure => rw [G2.out]; omega
      case rel => exact ⟨k + 1, by omega, rfl, by go_num, HOWN2.out, hb2⟩
    · obtain rfl : k = N := by omega
      have hown := HOWN.out
      rw [← HR.out] at hown
      obtain ⟨r, cr, rfl⟩ := own_slice hown
      have hz : SetAt wr r R := IntsAt.of_own hown (by rw [V_length, HRL.out])
      have hcap : k ≤ cr := by
        rcases Nat.eq_zero_or_pos k with h0 | h0
        · omega
        · rcases hown.2 with ⟨_, h9⟩ | ⟨g0, c0, _, he0, _, _, hc0, _⟩
          · omega
          · have he1 : cr = c0 := by injection he0
            omega
      have HZ := Lib.hid hz
      have HFR := Lib.hid (show ∀ x, r = some x → w.heap.size ≤ x.block ∧ x.block < wr.heap.size from fun x hx => own_lt hown x.block (by rw [hx]; rfl))
      have HOW := Lib.hid hown
      clear hown hz HOWN HR
      obtain ⟨wo, rfl⟩ : ∃ wo : World, wo = wr := ⟨_, rfl⟩
      go_wp2_with fail
      go_loopg [7] k (fun gk v7 wx => ∃ j : Nat, j ≤ k ∧ gk = j ∧ v7 = .slice r j cr ∧ trim (R.take j) = trim R ∧ wo = wx)
      case atStart => exact ⟨k, Nat.le_refl _, rfl, rfl, by rw [List.take_of_length_le (by rw [HRL.out]; omega)], rfl⟩
      case round =>
        obtain ⟨j, hj, g2, rfl, ht, rfl⟩ := hrel
        have G3 := Lib.hid g2
        have HT := Lib.hid ht
        clear g2 ht
        rcases j with _ | j
        · have hp := Lib.hid (show trim R = [] by rw [← HT.out]; rfl)
          go_wp2_with fail
          go_ret
          exact ⟨r, cr, by rw [hp.out]; rfl, by rw [hp.out]; exact SetAt.nil _ _, hbw, HFR.out, by rw [hp.out]; have := own_take HOW.out (Nat.zero_le k); simpa [vints, V] using this⟩
        · obtain ⟨x, rfl, hx, hc⟩ := HZ.out.read (k := j) (by rw [HRL.out]; omega)
          have hsn := take_getD (A := R) (j := j) (by rw [HRL.out]; omega)
          obtain ⟨X, hX⟩ : ∃ X, X = R.getD j 0 := ⟨_, rfl⟩
          rw [← hX] at hc hsn
          have HX := Lib.hid hX
          have HSN := Lib.hid hsn
          have ej : ((j + 1 : Nat) : Int) - 1 = (j : Int) := by omega
          have j0 : (0 : Int) ≤ (j : Int) := by omega
          have j1 : (j : Int) < ((j + 1 : Nat) : Int) := by omega
          have j2 : (0 : Int) < ((j + 1 : Nat) : Int) := by omega
          clear hX hsn
          by_cases h0 : X = 0
          · subst h0
            have ht0 : (((0 : Nat) : Int) == 0) = true := rfl
            have HT2 := Lib.hid (show trim (R.take j) = trim R by rw [← HT.out, HSN.out, trim_zero])
            go_wp2_with fail
            go_roundg j
            case measure => rw [G3.out]; omega
            case rel => exact ⟨j, by omega, rfl, by go_num, HT2.out, rfl⟩
          · have ht0 : ((X : Int) == 0) = false := by rw [beq_eq_false_iff_ne]; omega
            have HT2 := Lib.hid (show trim R = R.take (j + 1) by rw [← HT.out, HSN.out, trim_more _ _ h0])
            have HLN := Lib.hid (show (trim R).length = j + 1 by rw [HT2.out, List.length_take, HRL.out]; omega)
            have HZ2 := Lib.hid (show SetAt wo (some x) (trim R) by rw [HT2.out]; exact HZ.out.take _)
            clear h0
            go_wp2_with fail
            go_ret
            exact ⟨_, cr, by rw [HLN.out]; rfl, HZ2.out, hbw, HFR.out, by
              have h9 := own_take HOW.out hj
              rw [vints_V_take] at h9
              rw [HLN.out, HT2.out]; exact h9⟩
theorem SetPost.n {A : List Nat} {n m : Nat} {w : World} {e : Ending} {w' : World} (h : SetPost A n w e w') (hn : n = m) : SetPost A m w e w' := hn ▸ h
theorem en_or : ∀ args w, (callFunc 80 args).run Try.prog w = .ok (.enter 80 args) w := enters_of Try.func80 (by kernel_rfl) rfl
theorem en_and : ∀ args w, (callFunc 82 args).run Try.prog w = .ok (.enter 82 args) w := enters_of Try.func82 (by kernel_rfl) rfl
theorem en_minus : ∀ args w, (callFunc 83 args).run Try.prog w = .ok (.enter 83 args) w := enters_of Try.func83 (by kernel_rfl) rfl
theorem en_fst : ∀ args w, (callFunc 76 args).run Try.prog w = .ok (.enter 76 args) w := enters_of Try.func76 (by kernel_rfl) rfl
def SetRes (A : List Nat) (w : World) (e : Ending) (w' : World) : Prop := ∃ a n c, A.length = n ∧ e = .returned (.slice a n c) ∧ SetAt w' a A ∧ Below w.heap.size w w' ∧ w'.ownsRow w.heap.size 26 1 (.slice a n c) n (vints .u64 (V A))
theorem SetPost.res {A : List Nat} {w : World} {e : Ending} {w' : World} (h : SetPost A A.length w e w') : SetRes A w e w' := by
  obtain ⟨a, c, rfl, h1, h2, _, h3⟩ := h
  exact ⟨a, _, c, rfl, rfl, h1, h2, h3⟩

theorem sets_Either (A B : List Nat) (a b : Option Addr) (n m ca cb : Nat) (hn : A.length = n) (hm : B.length = m) (h1 : n ≤ 17592186044416) (h2 : m ≤ 17592186044416) (ha : Words A) (hb : Words B) (w : World) (hza : SetAt w a A) (hzb : SetAt w b B) :
    Calls Try.prog 28 #[.slice a n ca, .slice b m cb] w (SetRes (joinN (· ||| ·) A B) w) := by
  have CJ := Lib.hid (sets_join _ _ _ en_or op_or bw_or A B a b n m ca cb hn hm h1 h2 ha hb w hza hzb)
  clear hn hm ha hb hza hzb
  go_enter Try.func28, Try.ntmps28
  go_wp2_with fail
  refine CJ.out.mono ?_
  rintro e w1 hp
  obtain ⟨r, k, c, h3, rfl, h4, h5, h6⟩ := hp.res
  have H6 := Lib.hid h6
  clear h6
  go_wp2_with fail
  go_ret
  exact ⟨r, k, c, h3, rfl, h4, h5, H6.out⟩
theorem sets_Both (A B : List Nat) (a b : Option Addr) (n m ca cb : Nat) (hn : A.length = n) (hm : B.length = m) (h1 : n ≤ 17592186044416) (h2 : m ≤ 17592186044416) (ha : Words A) (hb : Words B) (w : World) (hza : SetAt w a A) (hzb : SetAt w b B) :
    Calls Try.prog 30 #[.slice a n ca, .slice b m cb] w (SetRes (joinN (· &&& ·) A B) w) := by
  have CJ := Lib.hid (sets_join _ _ _ en_and op_and bw_and A B a b n m ca cb hn hm h1 h2 ha hb w hza hzb)
  clear hn hm ha hb hza hzb
  go_enter Try.func30, Try.ntmps30
  go_wp2_with fail
  refine CJ.out.mono ?_
  rintro e w1 hp
  obtain ⟨r, k, c, h3, rfl, h4, h5, h6⟩ := hp.res
  have H6 := Lib.hid h6
  clear h6
  go_wp2_with fail
  go_ret
  exact ⟨r, k, c, h3, rfl, h4, h5, H6.out⟩
theorem sets_Minus (A B : List Nat) (a b : Option Addr) (n m ca cb : Nat) (hn : A.length = n) (hm : B.length = m) (h1 : n ≤ 17592186044416) (h2 : m ≤ 17592186044416) (ha : Words A) (hb : Words B) (w : World) (hza : SetAt w a A) (hzb : SetAt w b B) :
    Calls Try.prog 31 #[.slice a n ca, .slice b m cb] w (SetRes (joinN minus A B) w) := by
  have CJ := Lib.hid (sets_join _ _ _ en_minus op_minus bw_minus A B a b n m ca cb hn hm h1 h2 ha hb w hza hzb)
  clear hn hm ha hb hza hzb
  go_enter Try.func31, Try.ntmps31
  go_wp2_with fail
  refine CJ.out.mono ?_
  rintro e w1 hp
  obtain ⟨r, k, c, h3, rfl, h4, h5, h6⟩ := hp.res
  have H6 := Lib.hid h6
  clear h6
  go_wp2_with fail
  go_ret
  exact ⟨r, k, c, h3, rfl, h4, h5, H6.out⟩

set_option maxHeartbeats 2000000 in
theorem sets_one (i : Int) (w : World) : Calls Try.prog 79 #[.int .i64 i] w (SetRes (oneN i) w) := by
  by_cases h1 : i < 0
  · have hp := Lib.hid (show oneN i = [] by unfold oneN; rw [if_pos (.inl h1)])
    go_enter Try.func79, Try.ntmps79
    go_wp2_with fail
    go_ret
    exact ⟨none, 0, 0, by rw [hp.out]; rfl, rfl, by rw [hp.out]; exact SetAt.nil _ _, Below.refl _ _, by rw [hp.out]; exact ⟨rfl, .inl ⟨rfl, rfl⟩⟩⟩
  · by_cases h2 : 4096 ≤ i
    · have hp := Lib.hid (show oneN i = [] by unfold oneN; rw [if_pos (.inr h2)])
      go_enter Try.func79, Try.ntmps79
      go_wp2_with fail
      go_ret
      exact ⟨none, 0, 0, by rw [hp.out]; rfl, rfl, by rw [hp.out]; exact SetAt.nil _ _, Below.refl _ _, by rw [hp.out]; exact ⟨rfl, .inl ⟨rfl, rfl⟩⟩⟩
    · obtain ⟨q, hq⟩ : ∃ q, q = i.toNat / 64 := ⟨_, rfl⟩
      obtain ⟨r, hr⟩ : ∃ r, r = i.toNat % 64 := ⟨_, rfl⟩
      have hr64 : r < 64 := by omega
      have hq64 : q < 64 := by omega
      have eq1 : i / 64 = (q : Int) := by omega
      have er1 : i % 64 = (r : Int) := by omega
      have hpw := lt64 hr64
      obtain ⟨X, hX⟩ : ∃ X, X = 2 ^ r := ⟨_, rfl⟩
      have hp : oneN i = (List.replicate (q + 1) 0).set q X := by
        unfold oneN
        rw [if_neg (by omega), ← hq, ← hr, ← hX, List.replicate_succ', List.set_append_right _ _ (by simp)]
        simp
      rw [hp]
      have HX := Lib.hid hX
      obtain ⟨n, hn0⟩ : ∃ n, n = q + 1 := ⟨_, rfl⟩
      rw [← hn0]
      have hn : (q : Int) + 1 = (n : Int) := by omega
      have HN0 := Lib.hid hn0
      clear hq hr hX hp hn0
      go_enter Try.func79, Try.ntmps79
      go_wp2_with (at_make; go_must (refine wpList_make_rowB rfl _ _ 25 rfl 26 .u64 8 Try.underlying25 (by kernel_rfl) _ _ _ _ n rfl rfl rfl rfl ?b1 ?b2 ?_))
      case b1 => omega
      case b2 => unfold maxLen; omega
      intro w1 hro hb1 hz1
      have e1 := hro.cell q (by simp; omega)
      have e2 := hro.frozen q
      have HRO := Lib.hid hro
      clear hro hz1
      go_wp2_with fail
      go_ret
      have hv : IntKind.u64.wrap (2 ^ r) = (X : Int) := by
        have e : ((2 : Int) ^ r) = ((2 ^ r : Nat) : Int) := by simp
        rw [e, W64.u_in _ hpw, HX.out]
      rw [hv]
      have hs := (HRO.out.set q (X : Int)).ints
      have e : V ((List.replicate n 0).set q X) = (List.replicate n (0 : Int)).set q (X : Int) := by simp [V, List.map_set]
      refine ⟨_, n, n, by simp, rfl, by unfold SetAt; rw [e]; exact hs, hb1.setCell (by simp) _, ?_⟩
      rw [e]
      have hrow := HRO.out.set q (X : Int)
      refine ⟨by simp [vints], .inr ⟨w.heap.size, n, _, rfl, Nat.le_refl _, hrow, Nat.le_refl _, by have := HN0.out; unfold maxLen; omega, by simp [vints], ?_⟩⟩
      rw [Nat.mul_one]
      exact List.take_of_length_le (by simp [vints])

theorem len64 {A : List Nat} (h : Canon A) : A.length ≤ 64 := h.1
theorem sets_With (A : List Nat) (a : Option Addr) (n ca : Nat) (hn : A.length = n) (h1 : n ≤ 17592186044416) (ha : Words A) (i : Int) (w : World) (hza : SetAt w a A) :
    Calls Try.prog 24 #[.slice a n ca, .int .i64 i] w (SetRes (withN A i) w) := by
  have HN := Lib.hid hn
  have HA := Lib.hid ha
  have HZ := Lib.hid hza
  clear hn ha hza
  go_enter Try.func24, Try.ntmps24
  go_wp2_with fail
  refine (sets_one i w).mono ?_
  rintro e w1 ⟨b, m, cb, h3, rfl, h4, h5, _⟩
  have HE := Lib.hid (sets_Either A (oneN i) a b n m ca cb HN.out h3 h1 (by have := len64 (one_canon i); omega) HA.out (one_canon i).2.1 w1 (HZ.out.below h5) h4)
  have HB := Lib.hid h5
  clear h3 h4 h5
  go_wp2_with fail
  refine HE.out.mono ?_
  rintro e w2 ⟨r, k, c, h3, rfl, h4, h5, h6⟩
  have H3 := Lib.hid h3
  have H6 := Lib.hid (own_lower h6 HB.out.size)
  clear h3 h6
  go_wp2_with fail
  go_ret
  exact ⟨r, k, c, H3.out, rfl, h4, bt HB.out h5, H6.out⟩
theorem sets_Without (A : List Nat) (a : Option Addr) (n ca : Nat) (hn : A.length = n) (h1 : n ≤ 17592186044416) (ha : Words A) (i : Int) (w : World) (hza : SetAt w a A) :
    Calls Try.prog 26 #[.slice a n ca, .int .i64 i] w (SetRes (joinN minus A (oneN i)) w) := by
  have HN := Lib.hid hn
  have HA := Lib.hid ha
  have HZ := Lib.hid hza
  clear hn ha hza
  go_enter Try.func26, Try.ntmps26
  go_wp2_with fail
  refine (sets_one i w).mono ?_
  rintro e w1 ⟨b, m, cb, h3, rfl, h4, h5, _⟩
  have HE := Lib.hid (sets_Minus A (oneN i) a b n m ca cb HN.out h3 h1 (by have := len64 (one_canon i); omega) HA.out (one_canon i).2.1 w1 (HZ.out.below h5) h4)
  have HB := Lib.hid h5
  clear h3 h4 h5
  go_wp2_with fail
  refine HE.out.mono ?_
  rintro e w2 ⟨r, k, c, h3, rfl, h4, h5, h6⟩
  have H3 := Lib.hid h3
  have H6 := Lib.hid (own_lower h6 HB.out.size)
  clear h3 h6
  go_wp2_with fail
  go_ret
  exact ⟨r, k, c, H3.out, rfl, h4, bt HB.out h5, H6.out⟩
set_option maxHeartbeats 2000000 in
theorem sets_Of (l : List Int) (a : Option Addr) (n c : Nat) (hn : l.length = n) (h1 : n ≤ 17592186044416) (w : World) (hz : IntsAt .i64 w a l) :
    Calls Try.prog 10 #[.slice a n c] w (SetRes (ofN l) w) := by
  have HN := Lib.hid hn
  have HZ := Lib.hid hz
  clear hn hz
  go_enter Try.func10, Try.ntmps10
  go_wp2_with fail
  go_loopg [3, 5, 8] n (fun gk v3 _ vi wx => ∃ (k : Nat) (r : Option Addr) (m cr : Nat), k ≤ n ∧ gk = n - k ∧ vi = .int .i64 k ∧ v3 = .slice r m cr ∧ (ofN (l.take k)).length = m ∧ SetAt wx r (ofN (l.take k)) ∧ Below w.heap.size w wx ∧ wx.ownsRow w.heap.size 26 1 v3 m (vints .u64 (V (ofN (l.take k)))))
  case atStart => exact ⟨0, none, 0, 0, Nat.zero_le _, rfl, rfl, rfl, rfl, SetAt.nil _ _, Below.refl _ _, ⟨rfl, .inl ⟨rfl, rfl⟩⟩⟩
  case round =>
    obtain ⟨k, r, m, cr, hk, g2, rfl, rfl, hm, hs, hbw, how⟩ := hrel
    have HOW := Lib.hid how
    clear how
    have G2 := Lib.hid g2
    have HM := Lib.hid hm
    have HS := Lib.hid hs
    clear g2 hm hs
    by_cases hlt : k < n
    · obtain ⟨x, rfl, hx, hc⟩ := (HZ.out.below hbw) (by rw [HN.out]; omega)
      have hck := hc k (by rw [HN.out]; exact hlt)
      obtain ⟨i, hi⟩ : ∃ i, i = l.getD k 0 := ⟨_, rfl⟩
      rw [← hi] at hck
      have hst : ofN (l.take (k + 1)) = withN (ofN (l.take k)) i := by
        have : l.take (k + 1) = l.take k ++ [i] := by
          rw [List.take_succ_eq_append_getElem (by rw [HN.out]; exact hlt), hi, List.getD_eq_getElem?_getD, List.getElem?_eq_getElem (by rw [HN.out]; exact hlt)]; rfl
        rw [this]; simp [ofN]
      have HST := Lib.hid hst
      have CW := Lib.hid (sets_With (ofN (l.take k)) r m cr HM.out (by have := (of_canon (l.take k)).1; rw [HM.out] at this; omega) (of_canon _).2.1 i wr HS.out)
      clear hc hi hst
      go_wp2_with fail
      refine CW.out.mono ?_
      rintro e w1 ⟨r2, m2, c2, h3, rfl, h4, h5, h6⟩
      have H6 := Lib.hid (own_lower h6 hbw.size)
      clear h6
      have H3 := Lib.hid h3
      have H4 := Lib.hid h4
      have hB := hbw.trans (h5.mono hbw.size)
      clear h3 h4 h5 CW
      go_wp2_with fail
      go_roundg (n - (k + 1))
      case measure => rw [G2.out]; omega
      case rel => exact ⟨k + 1, r2, m2, c2, by omega, rfl, by go_num, rfl, by rw [HST.out]; exact H3.out, by rw [HST.out]; exact H4.out, hB, by rw [HST.out]; exact H6.out⟩
    · have hall : l.take k = l := List.take_of_length_le (by rw [HN.out]; omega)
      rw [hall] at HM HS HOW
      clear hall
      go_wp2_with fail
      go_ret
      exact ⟨r, m, cr, HM.out, rfl, HS.out, hbw, HOW.out⟩
set_option maxHeartbeats 2000000 in
theorem sets_Has (A : List Nat) (a : Option Addr) (n c : Nat) (hn : A.length = n) (h1 : n ≤ 17592186044416) (ha : Words A) (i : Int) (hi : i ≤ 9223372036854775807) (w : World) (hz : SetAt w a A) :
    Calls Try.prog 21 #[.slice a n c, .int .i64 i] w fun e w' => e = .returned (.bool (decide (0 ≤ i) && bit A i.toNat)) ∧ w = w' := by
  by_cases h0 : 0 ≤ i
  · obtain ⟨q, hq⟩ : ∃ q, q = i.toNat / 64 := ⟨_, rfl⟩
    obtain ⟨r, hr⟩ : ∃ r, r = i.toNat % 64 := ⟨_, rfl⟩
    have eq1 : i / 64 = (q : Int) := by omega
    have er1 : i % 64 = (r : Int) := by omega
    obtain ⟨X, hX⟩ : ∃ X, X = wd A q := ⟨_, rfl⟩
    have hb : (decide (0 ≤ i) && bit A i.toNat) = X.testBit r := by
      rw [decide_eq_true h0]; unfold bit; rw [← hq, ← hr, ← hX]; rfl
    rw [hb]
    have HX := Lib.hid hX
    have HN := Lib.hid hn
    have HZ := Lib.hid hz
    have CW := Lib.hid (set_word A a n c q HN.out h1 (by omega) w HZ.out)
    rw [← HX.out] at CW
    have hr64 : r < 64 := by omega
    have hX64 : X < 18446744073709551616 := by rw [HX.out]; exact ha.wd q
    obtain ⟨Y, hY⟩ : ∃ Y, Y = X / 2 ^ r := ⟨_, rfl⟩
    have hY64 : Y < 18446744073709551616 := by rw [hY]; exact Nat.lt_of_le_of_lt (Nat.div_le_self _ _) hX64
    have eY : (X : Int) / 2 ^ r = (Y : Int) := by rw [hY]; simp
    have hand := W64.bits_and_u64 Y 1 hY64 (by omega)
    rw [Nat.and_one_is_mod, hY, bit_num, ← hY] at hand
    clear hq hr hX hn hz hb hY
    obtain ⟨b, hb⟩ : ∃ b, b = X.testBit r := ⟨_, rfl⟩
    rw [← hb] at hand ⊢
    clear hb
    cases b
    · have hand2 : bits .and .u64 (Y : Int) 1 = 0 := hand
      clear hand
      go_enter Try.func21, Try.ntmps21
      go_wp2_with fail
      refine CW.out.mono ?_
      rintro e w1 ⟨rfl, rfl⟩
      go_wp2_with fail
      go_ret
      exact ⟨rfl, rfl⟩
    · have hand2 : bits .and .u64 (Y : Int) 1 = 1 := hand
      clear hand
      go_enter Try.func21, Try.ntmps21
      go_wp2_with fail
      refine CW.out.mono ?_
      rintro e w1 ⟨rfl, rfl⟩
      go_wp2_with fail
      go_ret
      exact ⟨rfl, rfl⟩
  · have hd : (decide (0 ≤ i) && bit A i.toNat) = false := by rw [decide_eq_false h0]; rfl
    rw [hd]
    clear hd
    go_enter Try.func21, Try.ntmps21
    go_wp2_with fail
    go_ret
    exact ⟨rfl, rfl⟩
end Go.Proofs.Ytlahmcbaiebapaa
