/- The closures of the law on sets. -/
import Derived.Test.YtlahmcbaiebapaaSetR
import Derived.Test.YtlahmcbaiebapaaSetIt
import Derived.Test.YtlahmcbaiebapaaEqSet
import Derived.Test.YtlahmcbaiebapaaContI
namespace Go.Proofs.Ytlahmcbaiebapaa
open Go.ChangeShapes Go.WideShapes Go.ChangeAt Go.RowKit Go.Mem Go.Sp
set_option linter.unusedVariables false
def IRes (zs : List Int) (w : World) (e : Ending) (w' : World) : Prop := ∃ a n c, zs.length = n ∧ e = .returned (.slice a n c) ∧ IntsAt .i64 w' a zs ∧ Below w.heap.size w w'
theorem same_cl (A : List Nat) (L : List Int) (a b : Option Addr) (n m ca cb : Nat) (hn : A.length = n) (hm : L.length = m) (h1 : n ≤ 17592186044416) (h2 : m ≤ 17592186044416) (w : World) (hz : SetAt w a A) (hl : IntsAt .i64 w b L) :
    Calls Try.prog 22 #[.slice a n ca, .slice b m cb] w fun e w' => e = .returned (.bool (decide (A = setN L))) ∧ Below w.heap.size w w' := by
  have HZ := Lib.hid hz
  have HN := Lib.hid hn
  have CR := Lib.hid (ref_SetOf L b m cb hm h2 w hl)
  clear hz hl hn
  go_enter Try.func22, Try.ntmps22
  go_wp2_with fail
  refine CR.out.mono ?_
  rintro e w1 ⟨v, k, hk, rfl, hown, hb⟩
  obtain ⟨r, cr, rfl⟩ := own_slice hown
  have hk64 : k ≤ 64 := by rw [← hk]; exact (set_canon L).1
  have he : decide (V A = V (setN L)) = decide (A = setN L) := by
    by_cases h : A = setN L
    · rw [decide_eq_true h, decide_eq_true (by rw [h])]
    · rw [decide_eq_false h, decide_eq_false (fun h2 => h (V_inj h2))]
  have CE := eq_sets a r ca cr (V A) (V (setN L)) (by rw [V_length, HN.out]; omega) (by rw [V_length, hk]; omega) w1 (HZ.out.below hb) (IntsAt.of_own hown (by rw [V_length, hk]))
  rw [V_length, V_length, HN.out, hk, he] at CE
  have HCE := Lib.hid CE
  clear CE he hk hown CR
  go_wp2_with fail
  refine HCE.out.mono ?_
  rintro e w2 ⟨rfl, hb2⟩
  go_wp2_with fail
  go_ret
  exact ⟨rfl, bt hb hb2⟩
theorem in_cl (a : Option Addr) (n c : Nat) (w : World) : Calls Try.prog 12 #[.slice a n c] w fun e w' => e = .returned (.func (.func 13) #[] #[.pointer (some ⟨w.heap.size, 0, none⟩)]) ∧ w' = w.alloc (.cells #[.slice a n c] 23) := by
  go_enter Try.func12, Try.ntmps12
  go_wp2_with fail
  go_ret
  exact ⟨rfl, rfl⟩
theorem not_cl (a : Option Addr) (n c : Nat) (w : World) : Calls Try.prog 15 #[.slice a n c] w fun e w' => e = .returned (.func (.func 16) #[] #[.pointer (some ⟨w.heap.size, 0, none⟩)]) ∧ w' = w.alloc (.cells #[.slice a n c] 23) := by
  go_enter Try.func15, Try.ntmps15
  go_wp2_with fail
  go_ret
  exact ⟨rfl, rfl⟩
theorem in_at (B : Nat) (L : List Int) (a : Option Addr) (n c : Nat) (hn : L.length = n) (h1 : n ≤ 17592186044416) (k : Int) (w : World) (hb : w.cell? ⟨B, 0, none⟩ = some (.slice a n c)) (hl : IntsAt .i64 w a L) :
    Calls Try.prog 13 #[.int .i64 k, .pointer (some ⟨B, 0, none⟩)] w fun e w' => e = .returned (.bool (decide (k ∈ L))) ∧ Below w.heap.size w w' := by
  have HC := Lib.hid (contains_ints a c n L k hn (by omega) w hl)
  clear hn hl
  go_enter Try.func13, Try.ntmps13
  go_wp2_with fail
  refine HC.out.mono ?_
  rintro e w1 ⟨rfl, hb1⟩
  go_wp2_with fail
  go_ret
  exact ⟨rfl, hb1⟩
theorem not_at (B : Nat) (L : List Int) (a : Option Addr) (n c : Nat) (hn : L.length = n) (h1 : n ≤ 17592186044416) (k : Int) (w : World) (hb : w.cell? ⟨B, 0, none⟩ = some (.slice a n c)) (hl : IntsAt .i64 w a L) :
    Calls Try.prog 16 #[.int .i64 k, .pointer (some ⟨B, 0, none⟩)] w fun e w' => e = .returned (.bool (!decide (k ∈ L))) ∧ Below w.heap.size w w' := by
  have HC := Lib.hid (contains_ints a c n L k hn (by omega) w hl)
  obtain ⟨b, hb0⟩ : ∃ b, b = decide (k ∈ L) := ⟨_, rfl⟩
  rw [← hb0] at HC ⊢
  clear hn hl hb0
  go_enter Try.func16, Try.ntmps16
  go_wp2_with fail
  refine HC.out.mono ?_
  rintro e w1 ⟨rfl, hb1⟩
  go_wp2_with fail
  go_ret
  exact ⟨rfl, hb1⟩
theorem ne_at (B : Nat) (i k : Int) (w : World) (hb : w.cell? ⟨B, 0, none⟩ = some (.int .i64 i)) :
    Calls Try.prog 27 #[.int .i64 k, .pointer (some ⟨B, 0, none⟩)] w fun e w' => e = .returned (.bool (k != i)) ∧ Below w.heap.size w w' := by
  go_enter Try.func27, Try.ntmps27
  go_wp2_with fail
  go_ret
  exact ⟨rfl, Below.refl _ _⟩

theorem filter_snoc (L : List Int) (p : Int → Bool) (k : Nat) (h : k < L.length) : (L.take (k + 1)).filter p = (L.take k).filter p ++ (if p (L.getD k 0) then [L.getD k 0] else []) := by
  rw [List.take_succ_eq_append_getElem h, List.filter_append, List.getD_eq_getElem?_getD, List.getElem?_eq_getElem h]
  congr 1
  cases hp : p L[k] <;> simp [hp]
set_option maxHeartbeats 4000000 in
theorem pick_cl (fid : Nat) (caps : Array Value) (p : Int → Bool) (L : List Int) (a : Option Addr) (n c : Nat) (hn : L.length = n) (h1 : n ≤ 17592186044) (w : World) (hl : IntsAt .i64 w a L)
    (he : ∀ args w, (callFunc fid args).run Try.prog w = .ok (.enter fid args) w)
    (hf : ∀ (k : Int) (w1 : World), Below w.heap.size w w1 → Calls Try.prog fid (#[.int .i64 k] ++ caps) w1 fun e w' => e = .returned (.bool (p k)) ∧ Below w1.heap.size w1 w') :
    Calls Try.prog 17 #[.slice a n c, .func (.func fid) #[] caps] w (IRes (L.filter p) w) := by
  have HN := Lib.hid hn
  have HL := Lib.hid hl
  have HF := Lib.hid hf
  clear hn hl hf
  go_enter Try.func17, Try.ntmps17
  go_wp2_with fail
  go_loopg [5, 7, 10] n (fun gk v5 _ vi wx => ∃ (k m : Nat), k ≤ n ∧ gk = n - k ∧ vi = .int .i64 k ∧ m = ((L.take k).filter p).length ∧ m ≤ k ∧ wx.ownsRow w.heap.size 3 1 v5 m (vints .i64 ((L.take k).filter p)) ∧ Below w.heap.size w wx)
  case atStart => exact ⟨0, 0, Nat.zero_le _, rfl, rfl, rfl, Nat.le_refl _, World.ownsRow_nil _ _ _ _, Below.refl _ _⟩
  case round =>
    obtain ⟨k, m, hk, g2, rfl, hm, hmk, hown, hbw⟩ := hrel
    have G2 := Lib.hid g2
    have HOWN := Lib.hid hown
    have HM := Lib.hid hm
    clear g2 hown hm
    by_cases hlt : k < n
    · obtain ⟨x, rfl, hx, hc⟩ := (HL.out.below hbw) (by rw [HN.out]; omega)
      have hck := hc k (by rw [HN.out]; exact hlt)
      have hfs := filter_snoc L p k (by rw [HN.out]; exact hlt)
      obtain ⟨i, hi⟩ : ∃ i, i = L.getD k 0 := ⟨_, rfl⟩
      rw [← hi] at hck hfs
      have CF := HF.out i wr hbw
      obtain ⟨b, hb⟩ : ∃ b, b = p i := ⟨_, rfl⟩
      rw [← hb] at CF hfs
      have HCF := Lib.hid CF
      have HFS := Lib.hid hfs
      have hbs := hbw.size
      clear hc hi hb CF hfs
      go_wp2_with fail
      refine HCF.out.mono ?_
      rintro e w1 ⟨rfl, hb1⟩
      have HB1 := Lib.hid (hbw.trans (hb1.mono hbs))
      have HOWN1 := Lib.hid (own_below HOWN.out hb1)
      clear hb1 HCF
      cases b with
      | true =>
        have HE := Lib.hid HB1.out.size
        go_wp2_with (at_builtin; go_must (refine wpList_append_new rfl _ _ 23 rfl w.heap.size 3 (.int .i64 0) 1 8 Try.underlying23 (by kernel_rfl) rfl (by decide) _ _ _ rfl HOWN1.out _ _ rfl rfl rfl (by omega) (by decide) HE.out ?_))
        intro g2 cap w2 hown2 hg2 _ _
        rw [vints_snoc] at hown2
        have hb2 : Below w.heap.size w w2 := HB1.out.grown hg2 HE.out (fun j hj => (own_lt HOWN1.out j hj).1)
        have HOWN2 := Lib.hid hown2
        have HFS2 := Lib.hid (show (L.take (k + 1)).filter p = (L.take k).filter p ++ [i] from HFS.out)
        clear hown2 hg2
        go_wp2_with fail
        go_roundg (n - (k + 1))
        case measure => rw [G2.out]; omega
        case rel => exact ⟨k + 1, m + 1, by omega, rfl, by go_num, by rw [HFS2.out, List.length_append, ← HM.out]; rfl, by omega, by rw [HFS2.out]; exact HOWN2.out, hb2⟩
      | false =>
        have HFS2 := Lib.hid (show (L.take (k + 1)).filter p = (L.take k).filter p by rw [HFS.out]; simp)
        go_wp2_with fail
        go_roundg (n - (k + 1))
        case measure => rw [G2.out]; omega
        case rel => exact ⟨k + 1, m, by omega, rfl, by go_num, by rw [HFS2.out]; exact HM.out, by omega, by rw [HFS2.out]; exact HOWN1.out, HB1.out⟩
    · have hall : L.take k = L := List.take_of_length_le (by rw [HN.out]; omega)
      rw [hall] at HOWN HM
      obtain ⟨r, cr, rfl⟩ := own_slice HOWN.out
      clear hall
      go_wp2_with fail
      go_ret
      exact ⟨r, m, cr, HM.out.symm, rfl, IntsAt.of_own HOWN.out HM.out, hbw⟩
end Go.Proofs.Ytlahmcbaiebapaa
