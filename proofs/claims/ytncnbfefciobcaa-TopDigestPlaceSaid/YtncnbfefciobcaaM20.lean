/- Lemmas for the law TopDigestPlace: WNew, SortL, CmpI, WFitC, FitP, WFit, FitSort. No conditions. -/
import Derived.Test.YtncnbfefciobcaaM19
import Derived.Shelf.SlGeneric
import Derived.Ground.SlsfProg
import Derived.Shelf.SlSortCmp.NoneTotal
import Derived.Test.YtncnbfefciobcaaProg
import Derived.Test.YtncnbfefciobcaaM01
import Derived.Test.YtncnbfefciobcaaRows
import Derived.Test.YtncnbfefciobcaaM06
import Derived.Test.YtncnbfefciobcaaM09
import Derived.Deep.LoopGhost
import Derived.Test.YtncnbfefciobcaaM17
import Derived.Test.YtncnbfefciobcaaM14
import Derived.Sort.OwnSorted
/- world.New. -/
section
namespace Go.Proofs.Ytncnbfefciobcaa
open Go.ChangeShapes Go.WideShapes Go.ChangeAt Go.RowKit Go.Nm Go.Mem
set_option linter.unusedVariables false
def newV (l : List KindV) : WorldV := if kindsE l = 0 then ⟨l, [], []⟩ else ⟨[], [], []⟩
set_option maxHeartbeats 4000000 in
theorem world_New (l : List KindV) (a : Option Addr) (n cap : Nat) (hn : l.length = n) (h1 : n ≤ 1048576) (hnc : n ≤ cap) (hcm : cap ≤ 9223372036854775807) (hv : ∀ y ∈ l, y.fields.length ≤ 1048576) (W : World) (hz : SlAt 2 KindAt W a l) :
    Calls Try.prog 16 #[.slice a n cap] W fun e w' => (∃ v, e = .returned (.tuple #[v, .int .i64 (kindsE l)]) ∧ WorldIn w' v (newV l)) ∧ Below W.heap.size W w' := by
  obtain ⟨E, hE⟩ : ∃ E, E = kindsE l := ⟨_, rfl⟩
  have hb0 := (Below.refl W.heap.size W).alloc (Nat.le_refl _) (.cells #[.slice none 0 0, .slice none 0 0, .slice none 0 0] 27)
  have HC := Lib.hid (kind_Check l a n cap hn (by omega) hnc hcm _ (hz.below KindAt.abides hb0))
  have HCP := Lib.hid (kind_Copy l a n cap hn (by omega) (fun y hy => by have := hv y hy; omega))
  rw [← hE] at HC ⊢
  have HE := Lib.hid hE
  have HN := Lib.hid hn
  have HZ := Lib.hid hz
  have HB0 := Lib.hid hb0
  clear hE hn hz hb0 hv
  go_enter Try.func16, Try.ntmps16
  go_wp2_with fail
  refine HC.out.mono ?_
  rintro e w1 ⟨rfl, hb1⟩
  have HB1 := Lib.hid (HB0.out.trans (hb1.mono HB0.out.size))
  have HROW := Lib.hid (heap_below (heap_alloc_new W (.cells #[.slice none 0 0, .slice none 0 0, .slice none 0 0] 27)) hb1)
  clear hb1 HC
  by_cases he : E = 0
  · subst he
    have t0 : ((0 : Int) != 0) = false := rfl
    go_wp2_with fail
    refine (HCP.out _ (HZ.out.below KindAt.abides HB1.out)).mono ?_
    rintro e w2 ⟨⟨a2, rfl, hk⟩, hb2⟩
    have HK := Lib.hid hk
    have HB2 := Lib.hid (HB1.out.trans (hb2.mono HB1.out.size))
    have HROW2 := Lib.hid (heap_below HROW.out hb2)
    clear hk hb2
    go_wp2_with (refine wpList_store_rowP rfl 27 (.tmp 2) (.tmp 13) rfl (W.heap.size) #[.slice a2 n n, .slice none 0 0, .slice none 0 0] rfl rfl _ _ HROW2.out (by kernel_rfl) rfl (ones3 _ _ _ rfl rfl rfl) ?_; intro W9 hput; have HPUT := Lib.hid hput; clear hput)
    refine bodyPost_ret (results_ct Try.results16 _ _ W.heap.size 27 _ (0, 0) _ rfl HPUT.out.here Try.underlying27 rfl (by kernel_rfl)) rfl ⟨⟨_, rfl, ?_⟩, HB2.out.trans ((HPUT.out.below (Nat.le_refl _)))⟩
    have hg : w2.grownBy W9 (some W.heap.size) := ⟨HPUT.out.os, HPUT.out.tape, HPUT.out.output, by rw [HPUT.out.size]; exact Nat.le_refl _, fun k hk hne => HPUT.out.else_ k (fun e => hne (by rw [e]))⟩
    have hk9 := kinds_gb HK.out (nostr_row HROW2.out nostr_zero) hg
    unfold newV
    rw [← HE.out, if_pos rfl]
    exact ⟨a2, n, none, 0, none, 0, by rw [HN.out]; rfl, hk9, fun h => absurd h (by simp), fun h => absurd h (by simp), by rw [HN.out]; exact Nat.le_refl _, by omega⟩
  · have t0 : (E != 0) = true := by rw [bne_iff_ne]; exact he
    go_wp2_with (refine wpList_store_rowP rfl 27 (.tmp 2) (.tmp 9) rfl (W.heap.size) #[.slice none 0 0, .slice none 0 0, .slice none 0 0] rfl rfl _ _ HROW.out (by kernel_rfl) rfl (ones3 _ _ _ rfl rfl rfl) ?_; intro W9 hput; have HPUT := Lib.hid hput; clear hput)
    refine bodyPost_ret (results_ct Try.results16 _ _ W.heap.size 27 _ (0, 0) _ rfl HPUT.out.here Try.underlying27 rfl (by kernel_rfl)) rfl ⟨⟨_, rfl, ?_⟩, HB1.out.trans ((HPUT.out.below (Nat.le_refl _)))⟩
    unfold newV
    rw [← HE.out, if_neg he]
    exact ⟨none, 0, none, 0, none, 0, rfl, fun h => absurd h (by simp), fun h => absurd h (by simp), fun h => absurd h (by simp), by simp, by simp⟩
end Go.Proofs.Ytncnbfefciobcaa
end
/- Layings of the kit's shelf at this translation, in plain words. -/
section
namespace Go.Proofs
open Go.Shelf
def Try.sortComps_ren : Go.Shelf.Ren := ⟨fun | 6 => 55 | 15 => 65 | 14 => 64 | 28 => 76 | 29 => 77 | 20 => 68 | 21 => 69 | 22 => 70 | 23 => 71 | 24 => 72 | 25 => 73 | 26 => 74 | 27 => 75 | 46 => 79 | 47 => 80 | 48 => 81 | 49 => 82 | 50 => 83 | 57 => 84 | n => n, fun | 22 => 60 | 24 => 59 | 25 => 109 | 3 => 3 | 39 => 111 | 0 => 0 | 53 => 130 | 55 => 31 | 4 => 4 | 46 => 124 | 45 => 123 | 50 => 90 | 5 => 5 | 9 => 9 | 66 => 133 | 70 => 137 | 76 => 139 | 77 => 36 | n => n, fun | n => n⟩
theorem Try.sortComps : Go.Proofs.SlLaysF0.n6 Try.prog Try.sortComps_ren := {
  mixed := by kernel_rfl
  f6 := ⟨Try.f55.name, by decide, Try.func55.trans (congrArg some (by kernel_rfl))⟩
  f14 := ⟨Try.f64.name, by decide, Try.func64.trans (congrArg some (by kernel_rfl))⟩
  f15 := Try.func65.trans (congrArg some (by kernel_rfl))
  f20 := ⟨Try.f68.name, by decide, Try.func68.trans (congrArg some (by kernel_rfl))⟩
  f21 := ⟨Try.f69.name, by decide, Try.func69.trans (congrArg some (by kernel_rfl))⟩
  f22 := ⟨Try.f70.name, by decide, Try.func70.trans (congrArg some (by kernel_rfl))⟩
  f23 := ⟨Try.f71.name, by decide, Try.func71.trans (congrArg some (by kernel_rfl))⟩
  f24 := ⟨Try.f72.name, by decide, Try.func72.trans (congrArg some (by kernel_rfl))⟩
  f25 := ⟨Try.f73.name, by decide, Try.func73.trans (congrArg some (by kernel_rfl))⟩
  f26 := ⟨Try.f74.name, by decide, Try.func74.trans (congrArg some (by kernel_rfl))⟩
  f27 := ⟨Try.f75.name, by decide, Try.func75.trans (congrArg some (by kernel_rfl))⟩
  f28 := Try.func76.trans (congrArg some (by kernel_rfl))
  f29 := Try.func77.trans (congrArg some (by kernel_rfl))
  f46 := ⟨Try.f79.name, by decide, Try.func79.trans (congrArg some (by kernel_rfl))⟩
  f47 := Try.func80.trans (congrArg some (by kernel_rfl))
  f48 := Try.func81.trans (congrArg some (by kernel_rfl))
  f49 := ⟨Try.f82.name, by decide, Try.func82.trans (congrArg some (by kernel_rfl))⟩
  f50 := ⟨Try.f83.name, by decide, Try.func83.trans (congrArg some (by kernel_rfl))⟩
  f57 := ⟨Try.f84.name, by decide, Try.func84.trans (congrArg some (by kernel_rfl))⟩
  t0 := Try.underlying0
  a0 := Try.isAgg0
  z0 := Try.sizeOf0
  v0 := Try.zeroValue0
  t3 := Try.underlying3
  a3 := Try.isAgg3
  z3 := Try.sizeOf3
  v3 := Try.zeroValue3
  t4 := Try.underlying4
  a4 := Try.isAgg4
  z4 := Try.sizeOf4
  v4 := Try.zeroValue4
  t5 := Try.underlying5
  a5 := Try.isAgg5
  z5 := Try.sizeOf5
  v5 := Try.zeroValue5
  t9 := Try.underlying9
  a9 := Try.isAgg9
  z9 := Try.sizeOf9
  v9 := Try.zeroValue9
  t22 := Try.underlying60
  a22 := Try.isAgg60
  z22 := Try.sizeOf60
  v22 := Try.zeroValue60
  t25 := Try.underlying109
  a25 := Try.isAgg109
  z25 := Try.sizeOf109
  v25 := Try.zeroValue109
  t39 := Try.underlying111
  a39 := Try.isAgg111
  z39 := Try.sizeOf111
  v39 := Try.zeroValue111
  t45 := Try.underlying123
  a45 := Try.isAgg123
  z45 := Try.sizeOf123
  v45 := Try.zeroValue123
  t46 := Try.underlying124
  a46 := Try.isAgg124
  z46 := Try.sizeOf124
  v46 := Try.zeroValue124
  t50 := Try.underlying90
  a50 := Try.isAgg90
  z50 := Try.sizeOf90
  v50 := Try.zeroValue90
  t53 := Try.underlying130
  a53 := Try.isAgg130
  z53 := Try.sizeOf130
  v53 := Try.zeroValue130
  t55 := Try.underlying31
  a55 := Try.isAgg31
  z55 := Try.sizeOf31
  v55 := Try.zeroValue31
  t66 := Try.underlying133
  a66 := Try.isAgg133
  z66 := Try.sizeOf133
  v66 := Try.zeroValue133
  t70 := Try.underlying137
  a70 := Try.isAgg137
  z70 := Try.sizeOf137
  v70 := Try.zeroValue137
  t76 := Try.underlying139
  a76 := Try.isAgg139
  z76 := Try.sizeOf139
  v76 := Try.zeroValue139
  t77 := Try.underlying36
  a77 := Try.isAgg36
  z77 := Try.sizeOf36
  v77 := Try.zeroValue36 }
end Go.Proofs
end
/- cmp.Compare of ints. -/
section
namespace Go.Proofs.Ytncnbfefciobcaa
open Go.ChangeShapes Go.WideShapes Go.ChangeAt Go.RowKit Go.Mem
set_option linter.unusedVariables false
def cmpI (x y : Int) : Int := if x < y then -1 else if y < x then 1 else 0
theorem nan_int (x : Int) (w : World) : Calls Try.prog 57 #[.int .i64 x] w fun e w' => e = .returned (.bool false) ∧ w' = w := by
  have t1 : (x != x) = false := bne_self_eq_false _
  go_enter Try.func57, Try.ntmps57
  go_wp2
  go_ret
  exact ⟨rfl, rfl⟩
theorem cmp_ints (x y : Int) (w : World) : Calls Try.prog 43 #[.int .i64 x, .int .i64 y] w fun e w' => e = .returned (.int .i64 (cmpI x y)) ∧ w' = w := by
  have N1 := Lib.hid (nan_int x w)
  have N2 := Lib.hid (nan_int y w)
  go_enter Try.func43, Try.ntmps43
  go_wp2_with fail
  refine N1.out.mono ?_
  rintro e w1 ⟨rfl, rfl⟩
  go_wp2_with fail
  refine N2.out.mono ?_
  rintro e w2 ⟨rfl, rfl⟩
  by_cases h1 : x < y
  · have HC := Lib.hid (show cmpI x y = -1 from if_pos h1)
    go_wp2
    go_ret
    exact ⟨by rw [HC.out]; rfl, rfl⟩
  · by_cases h2 : y < x
    · have HC := Lib.hid (show cmpI x y = 1 by unfold cmpI; rw [if_neg h1, if_pos h2])
      go_wp2
      go_ret
      exact ⟨by rw [HC.out]; rfl, rfl⟩
    · have HC := Lib.hid (show cmpI x y = 0 by unfold cmpI; rw [if_neg h1, if_neg h2])
      go_wp2
      go_ret
      exact ⟨by rw [HC.out]; rfl, rfl⟩
end Go.Proofs.Ytncnbfefciobcaa
end
/- slices.ContainsFunc and IndexFunc at components, with world.Fit's closure. -/
section
namespace Go.Proofs.Ytncnbfefciobcaa
open Go.ChangeShapes Go.WideShapes Go.ChangeAt Go.RowKit Go.Nm Go.Mem
set_option linter.unusedVariables false
def hasK (l : List CompV) (k : Int) : Bool := l.any fun y => decide (y.kind = k)
theorem hasK_true {l : List CompV} {k : Int} (i : Nat) (h : i < l.length) (hk : l[i].kind = k) : hasK l k = true := by
  unfold hasK
  rw [List.any_eq_true]
  exact ⟨_, List.getElem_mem h, decide_eq_true hk⟩
theorem hasK_false {l : List CompV} {k : Int} (h : ∀ i (hi : i < l.length), l[i].kind ≠ k) : hasK l k = false := by
  unfold hasK
  rw [List.any_eq_false]
  intro x hx
  obtain ⟨i, hi, rfl⟩ := List.getElem_of_mem hx
  rw [decide_eq_false (h i hi)]
  exact Bool.false_ne_true
set_option maxHeartbeats 4000000 in
theorem clos_comp (y k : Int) (ay : Option Addr) (f cy : Nat) (B : Nat) (W : World) (hs : W.cell? ⟨B, 0, none⟩ = some (.int .i64 k)) :
    Calls Try.prog 53 #[.agg #[.int .i64 y, .slice ay f cy], .pointer (some ⟨B, 0, none⟩)] W fun e w' => e = .returned (.bool (decide (y = k))) ∧ Below W.heap.size W w' := by
  have hb0 := (Below.refl W.heap.size W).alloc (Nat.le_refl _) (.cells #[.int .i64 y, .slice ay f cy] 59)
  have hs1 := cell_abides hs hb0
  have HB0 := Lib.hid hb0
  clear hs hb0
  go_enter Try.func53, Try.ntmps53
  by_cases h : y = k
  · have HD := Lib.hid (decide_eq_true h)
    rw [HD.out]
    subst h
    go_wp2_with fail
    go_ret
    exact ⟨rfl, HB0.out⟩
  · have t1 : (y == k) = false := by simpa using h
    have HD := Lib.hid (decide_eq_false h)
    rw [HD.out]
    go_wp2_with fail
    go_ret
    exact ⟨rfl, HB0.out⟩
set_option maxHeartbeats 4000000 in
theorem idx_comps (l : List CompV) (a : Option Addr) (n cap : Nat) (s : Int) (B : Nat) (hn : l.length = n) (h1 : n ≤ 17592186044000) (W : World) (hz : SlAt 2 CompAt W a l) (hs : W.cell? ⟨B, 0, none⟩ = some (.int .i64 s)) :
    Calls Try.prog 62 #[.slice a n cap, .func (.func 53) #[] #[.pointer (some ⟨B, 0, none⟩)]] W fun e w' => (∃ r : Int, e = .returned (.int .i64 r) ∧ decide (0 ≤ r) = hasK l s) ∧ Below W.heap.size W w' := by
  obtain ⟨R, hR⟩ : ∃ R, R = hasK l s := ⟨_, rfl⟩
  rw [← hR]
  have HR := Lib.hid hR
  have HN := Lib.hid hn
  have HZ := Lib.hid hz
  have HS := Lib.hid hs
  clear hR hn hz hs
  go_enter Try.func62, Try.ntmps62
  go_wp2_with fail
  go_loopg [5, 8] n (fun gk v5 vi wx => ∃ i : Nat, i ≤ n ∧ gk = n - i ∧ vi = .int .i64 i ∧ (∀ j (h : j < l.length), j < i → l[j].kind ≠ s) ∧ Below W.heap.size W wx)
  case atStart => exact ⟨0, Nat.zero_le _, rfl, rfl, fun j h h2 => absurd h2 (by omega), Below.refl _ _⟩
  case round =>
    obtain ⟨i, hi, g2, rfl, hat, hb⟩ := hrel
    have G2 := Lib.hid g2
    have HAT := Lib.hid hat
    have HB := Lib.hid hb
    have hbs := hb.size
    clear g2 hat hb
    by_cases hlt : i < n
    · obtain ⟨x, rfl, hx, hix⟩ := (HZ.out.below CompAt.abides HB.out) (by rw [HN.out]; omega)
      obtain ⟨k0, ay, cy, k1, _⟩ := hix i (by rw [HN.out]; exact hlt)
      obtain ⟨y, hy⟩ : ∃ y, y = l[i]'(by rw [HN.out]; exact hlt) := ⟨_, rfl⟩
      rw [← hy] at k0 k1
      obtain ⟨kn, hkn⟩ : ∃ kn, kn = y.kind := ⟨_, rfl⟩
      rw [← hkn] at k0
      have hs2 := cell_abides HS.out HB.out
      have HC := Lib.hid (clos_comp kn s ay y.vals.length cy B wr hs2)
      have HY := Lib.hid hy
      have HKN := Lib.hid hkn
      clear hix hy hs2 hkn
      obtain ⟨r, hr⟩ : ∃ r, r = decide (kn = s) := ⟨_, rfl⟩
      rw [← hr] at HC
      have HR2 := Lib.hid hr
      clear hr
      go_wp2_with fail
      refine HC.out.mono ?_
      rintro e w1 ⟨rfl, hb1⟩
      have HB2 := Lib.hid (HB.out.trans (hb1.mono hbs))
      clear hb1 HC
      cases r
      · have HE := Lib.hid (of_decide_eq_false HR2.out.symm)
        go_wp2_with fail
        go_roundg (n - (i + 1))
        case measure => rw [G2.out]; omega
        case rel => exact ⟨i + 1, hlt, rfl, by go_num, fun j h hj => by
          by_cases hji : j < i
          · exact HAT.out j h hji
          · obtain rfl : j = i := by omega
            rw [← HY.out, ← HKN.out]; exact HE.out, HB2.out⟩
      · have HF := Lib.hid (show decide (0 ≤ (i : Int)) = R by
          rw [HR.out, hasK_true i (by rw [HN.out]; exact hlt) (by rw [← HY.out, ← HKN.out]; exact of_decide_eq_true HR2.out.symm), decide_eq_true (by omega)])
        go_wp2_with fail
        go_ret
        exact ⟨⟨_, rfl, HF.out⟩, HB2.out⟩
    · have HF := Lib.hid (show decide (0 ≤ (-1 : Int)) = R by
        rw [HR.out, hasK_false (fun j hj => HAT.out j hj (by rw [HN.out] at hj; omega))]; rfl)
      go_wp2_with fail
      go_ret
      exact ⟨⟨_, rfl, HF.out⟩, HB.out⟩
set_option maxHeartbeats 4000000 in
theorem con_comps (l : List CompV) (a : Option Addr) (n cap : Nat) (s : Int) (B : Nat) (hn : l.length = n) (h1 : n ≤ 17592186044000) (W : World) (hz : SlAt 2 CompAt W a l) (hs : W.cell? ⟨B, 0, none⟩ = some (.int .i64 s)) :
    Calls Try.prog 52 #[.slice a n cap, .func (.func 53) #[] #[.pointer (some ⟨B, 0, none⟩)]] W fun e w' => e = .returned (.bool (hasK l s)) ∧ Below W.heap.size W w' := by
  have HC := Lib.hid (idx_comps l a n cap s B hn h1 W hz hs)
  clear hn hz hs
  go_enter Try.func52, Try.ntmps52
  go_wp2_with fail
  refine HC.out.mono ?_
  rintro e w1 ⟨⟨r, rfl, hr⟩, hb1⟩
  have HR := Lib.hid hr
  have HB1 := Lib.hid hb1
  clear hr hb1
  go_wp2_with fail
  go_ret
  exact ⟨by rw [← HR.out]; rfl, HB1.out⟩
end Go.Proofs.Ytncnbfefciobcaa
end
/- Fitted components, sorted by their kinds: the plain law of world.Fit. No program is walked here. -/
section
namespace Go.Proofs.Ytncnbfefciobcaa
open Go.ChangeShapes Go.WideShapes Go.ChangeAt Go.RowKit Go.Nm Go.Mem Go.Maps
set_option linter.unusedVariables false
def fitC (ks : List KindV) (c : CompV) : CompV := ⟨c.kind, fitL (ks.getD c.kind.toNat default).fields c.vals⟩
def fitOut (ks : List KindV) (l : List CompV) : List CompV := l.map (fitC ks)
theorem fitGo_ne (ks : List KindV) : ∀ (l : List CompV) (M : Part), (fitGo ks l M).1 = 0 → l.Pairwise (fun x y => x.kind ≠ y.kind)
  | [], M, _ => List.Pairwise.nil
  | c :: r, M, h => by
    unfold fitGo at h
    split at h
    · simp at h
    · rename_i h1
      split at h
      · simp at h
      · split at h
        · rename_i h3
          exact absurd h h3
        · refine List.pairwise_cons.2 ⟨fun d hd e => ?_, fitGo_ne ks r _ h⟩
          have := ((fitGo_ok ks r _ h).1 d hd).2.2.2.1
          rw [← e, updF_same] at this
          cases this
theorem sorted_fit {ks : List KindV} {l l' : List CompV} (hk : ks.length ≤ 16) (hE : fitAllE ks l = 0) (hp : l'.Perm (fitOut ks l)) (hs : l'.Pairwise (fun x y => ¬ y.kind < x.kind)) : l' = listed (fitAllM ks l) := by
  obtain ⟨q1, q2⟩ := fitGo_ok ks l _ hE
  have hne : (fitOut ks l).Pairwise (fun x y => x.kind ≠ y.kind) := by
    unfold fitOut
    rw [List.pairwise_map]
    exact fitGo_ne ks l _ hE
  have hne' : l'.Pairwise (fun x y => x.kind ≠ y.kind) := (hp.pairwise_iff (fun {x y} h e => h e.symm)).2 hne
  have hlt : l'.Pairwise (fun x y => x.kind < y.kind) := (List.Pairwise.and hs hne').imp fun h => by omega
  rw [listed_listK]
  refine sorted_ext CompV.kind hlt (listK_sorted CompV.kind (fun i b => rfl) _ _) fun x => ?_
  rw [mem_listK, hp.mem_iff]
  unfold fitOut
  rw [List.mem_map]
  constructor
  · rintro ⟨c, hc, rfl⟩
    obtain ⟨g1, g2, g3, g4, g5⟩ := q1 c hc
    refine ⟨c.kind.toNat, by omega, _, g5, ?_⟩
    unfold fitC
    rw [show ((c.kind.toNat : Nat) : Int) = c.kind by omega]
  · rintro ⟨i, hi, L, hL, rfl⟩
    by_cases he : ∃ c ∈ l, c.kind.toNat = i
    · obtain ⟨c, hc, rfl⟩ := he
      obtain ⟨g1, g2, g3, g4, g5⟩ := q1 c hc
      refine ⟨c, hc, ?_⟩
      rw [show (fitGo ks l fun x => none).2 = fitAllM ks l from rfl, hL] at g5
      injection g5 with g5
      unfold fitC
      rw [g5, show ((c.kind.toNat : Nat) : Int) = c.kind by omega]
    · have := q2 i (fun c hc e => he ⟨c, hc, e⟩)
      rw [show (fitGo ks l fun x => none).2 = fitAllM ks l from rfl, hL] at this
      cases this
theorem sl_take {α : Type} {sz : Nat} {E : World → Addr → α → Prop} {w : World} {a : Option Addr} {l : List α} (h : SlAt sz E w a l) (i : Nat) : SlAt sz E w a (l.take i) := fun h0 => by
  rw [List.length_take] at h0
  obtain ⟨x, e, hx, hi⟩ := h (by omega)
  refine ⟨x, e, hx, fun j hj => ?_⟩
  rw [List.length_take] at hj
  rw [List.getElem_take]
  exact hi j (by omega)
theorem hasK_snoc (l : List CompV) (c : CompV) (k : Int) : hasK (l ++ [c]) k = (hasK l k || decide (c.kind = k)) := by
  unfold hasK
  rw [List.any_append]
  simp
theorem take_snocC {α : Type} (l : List α) (i : Nat) (h : i < l.length) : l.take (i + 1) = l.take i ++ [l[i]] := by
  rw [List.take_add_one, List.getElem?_eq_getElem h]; rfl
theorem upd_has {M : Part} {l : List CompV} {c : CompV} {q : Nat} {L : List Int} (h : ∀ k : Nat, (M k).isSome = hasK l k) (hc : c.kind = (q : Int)) : ∀ k : Nat, (updF M q L k).isSome = hasK (l ++ [c]) k := fun k => by
  rw [hasK_snoc, hc]
  by_cases e : k = q
  · subst e
    rw [updF_same, decide_eq_true rfl, Bool.or_true]; rfl
  · rw [updF_other _ _ e, h k, decide_eq_false (by omega), Bool.or_false]
end Go.Proofs.Ytncnbfefciobcaa
end
/- world.Fit. -/
section
namespace Go.Proofs.Ytncnbfefciobcaa
open Go.ChangeShapes Go.WideShapes Go.ChangeAt Go.RowKit Go.Nm Go.Mem Go.Maps
set_option linter.unusedVariables false
def FitWR (KE RE : Int) (RM : Part) (W : World) (e : Ending) (w' : World) : Prop :=
  ((KE ≠ 0 ∧ e = .returned (.tuple #[.slice none 0 0, .int .i64 KE])) ∨ (KE = 0 ∧ RE ≠ 0 ∧ e = .returned (.tuple #[.slice none 0 0, .int .i64 RE])) ∨
   (KE = 0 ∧ RE = 0 ∧ ∃ a c, e = .returned (.tuple #[.slice a (listed RM).length c, .int .i64 0]) ∧ Up W.heap.size (fun w => SlAt 2 CompAt w a (listed RM)) w')) ∧ Below W.heap.size W w'
theorem FitWR.one {KE RE : Int} {RM : Part} {W w' : World} {e : Ending} (h : KE ≠ 0) (he : e = .returned (.tuple #[.slice none 0 0, .int .i64 KE])) (hb : Below W.heap.size W w') : FitWR KE RE RM W e w' := ⟨Or.inl ⟨h, he⟩, hb⟩
theorem FitWR.two {RE E : Int} {RM : Part} {W w' : World} {e : Ending} (h : E = RE) (h0 : E ≠ 0) (he : e = .returned (.tuple #[.slice none 0 0, .int .i64 E])) (hb : Below W.heap.size W w') : FitWR 0 RE RM W e w' := ⟨Or.inr (Or.inl ⟨rfl, by rw [← h]; exact h0, by rw [← h]; exact he⟩), hb⟩
theorem FitWR.three {RM : Part} {W w' : World} {e : Ending} (a : Option Addr) (c : Nat) (he : e = .returned (.tuple #[.slice a (listed RM).length c, .int .i64 0])) (hu : Up W.heap.size (fun w => SlAt 2 CompAt w a (listed RM)) w') (hb : Below W.heap.size W w') : FitWR 0 0 RM W e w' := ⟨Or.inr (Or.inr ⟨rfl, rfl, a, c, he, hu⟩), hb⟩
def FitWPost (ks : List KindV) (l : List CompV) (W : World) (e : Ending) (w' : World) : Prop := FitWR (kindsE ks) (fitAllE ks l) (fitAllM ks l) W e w'
/-- what the sort does with a grown list of components -/
def SortsC (g : Nat) : Prop := ∀ (W : World) (B : Nat) (v : Value) (l : List CompV), GrowL EComp B 59 2 W v l → B ≤ W.heap.size → l.length ≤ 1048576 →
  Calls Try.prog 55 #[v, .func (.func g) #[] #[]] W fun e w' => e = .returned (.tuple #[]) ∧ (∃ l', l'.Perm l ∧ l'.Pairwise (fun x y => ¬ y.kind < x.kind) ∧ GrowL EComp B 59 2 w' v l') ∧ Below B W w'
def F_wf (wr B kn kc kb ko q nf cf nv cv : Nat) (av af : Option Addr) (nm : ByteArray) (E : Int) (K : KindV) (vals : List Int) (jq : Nat) (v : Value) (w : World) : Prop :=
  match jq with
  | 0 => v = .slice (some ⟨kb, ko, none⟩) kn kc
  | 1 => v = .pointer (some ⟨wr, 0, none⟩)
  | 2 => v = .int .i64 (q : Int)
  | 3 => v = .pointer (some ⟨kb, ko + q * 2, none⟩)
  | 4 => v = .agg #[.string nm, .slice af nf cf]
  | 5 => v = .pointer (some ⟨wr, 1, none⟩)
  | 6 => v = .slice av nv cv
  | 7 => FitTU B K vals v w
  | 8 => FitTU B K vals v w
  | 9 => FitSU B K vals v w
  | 10 => v = .int .i64 E
  | 11 => FitSU B K vals v w
  | 12 => v = .int .i64 E
  | _ => True
theorem F_wf_mono (wr B kn kc kb ko q nf cf nv cv : Nat) (av af : Option Addr) (nm : ByteArray) (E : Int) (K : KindV) (vals : List Int) : Facts (F_wf wr B kn kc kb ko q nf cf nv cv  av af  nm  E  K  vals ) := ⟨by
  intro jq v w w' h hb
  unfold F_wf at h ⊢
  split at h
  all_goals first
    | exact h
    | exact FitSU.below h hb
    | exact FitTU.below h hb
    | trivial⟩

set_option maxHeartbeats 16000000 in
set_option maxRecDepth 20000 in
theorem world_Fit (hsort : SortsC 56) (ks : List KindV) (l : List CompV) (ka a : Option Addr) (kn kc n ca : Nat) (hkn : ks.length = kn) (hn : l.length = n) (hk1 : kn ≤ 1048576) (h1 : n ≤ 1048576) (hca : n ≤ ca) (hkc : kn ≤ kc) (hkm : kc ≤ 9223372036854775807) (hvl : ∀ z ∈ l, z.vals.length ≤ 1048576) (W : World) (hzk : SlAt 2 KindAt W ka ks) (hz : SlAt 2 CompAt W a l) :
    Calls Try.prog 39 #[.slice ka kn kc, .slice a n ca] W (FitWPost ks l W) := by
  obtain ⟨KE, hKE⟩ : ∃ R, R = kindsE ks := ⟨_, rfl⟩
  obtain ⟨RE, hRE⟩ : ∃ R, R = fitAllE ks l := ⟨_, rfl⟩
  obtain ⟨RM, hRM⟩ : ∃ R, R = fitAllM ks l := ⟨_, rfl⟩
  have CK := kind_Check ks ka kn kc hkn (by omega) hkc hkm W hzk
  unfold FitWPost
  rw [← hRE, ← hRM, ← hKE]
  rw [← hKE] at CK
  have HCK := Lib.hid CK
  have HKE := Lib.hid hKE
  have HRE := Lib.hid hRE
  have HRM := Lib.hid hRM
  have HN := Lib.hid hkn
  have HM := Lib.hid hn
  have HZK := Lib.hid hzk
  have HZ := Lib.hid hz
  have HV := Lib.hid hvl
  have HSO := Lib.hid hsort
  clear hKE hRE hRM hkn hn hzk hz hvl CK hsort
  go_enter Try.func39, Try.ntmps39
  go_wp2_with fail
  refine HCK.out.mono ?_
  rintro e w1 ⟨rfl, hb1⟩
  have HB1 := Lib.hid hb1
  clear hb1 HCK
  by_cases hke : KE = 0
  · subst hke
    have t0 : ((0 : Int) != 0) = false := rfl
    go_wp2_with fail
    clear t0
    go_loopg [19, 7, 8, 9, 39, 10, 11] n (fun gk v19 v7 _ _ _ _ _ wx => ∃ (i : Nat) (F : Part), i ≤ n ∧ gk = n - i ∧ v19 = .int .i64 i ∧ fitGo ks (l.drop i) F = (RE, RM) ∧ (∀ k : Nat, (F k).isSome = hasK (l.take i) k) ∧ GrowL EComp W.heap.size 59 2 wx v7 (fitOut ks (l.take i)) ∧ Below W.heap.size W wx)
    case atStart => exact ⟨0, fun _ => none, Nat.zero_le _, rfl, rfl, by rw [HRE.out, HRM.out]; rfl, fun k => rfl, GrowL.nil _ _ _ _ _, HB1.out⟩
    case round =>
      obtain ⟨i, F, hi0, g2, rfl, hgo, hhas, hgr, hb⟩ := hrel
      have G2 := Lib.hid g2
      have HGO := Lib.hid hgo
      have HHAS := Lib.hid hhas
      have HGR := Lib.hid hgr
      have HB := Lib.hid hb
      clear g2 hgo hhas hgr hb
      by_cases hi : i < n
      · obtain ⟨x, rfl, _, _⟩ := HZ.out (by rw [HM.out]; omega)
        obtain ⟨xb, xo, rfl, av, cv, hcl, hiv⟩ := comp_cells (HZ.out.below CompAt.abides HB.out) i (by rw [HM.out]; exact hi)
        have hgo := HGO.out
        rw [List.drop_eq_getElem_cons (by rw [HM.out]; exact hi)] at hgo
        have htk := take_snocC l i (by rw [HM.out]; exact hi)
        obtain ⟨y, hy⟩ : ∃ y, y = l[i]'(by rw [HM.out]; exact hi) := ⟨_, rfl⟩
        have hyv := HV.out _ (List.getElem_mem (by rw [HM.out]; exact hi) : l[i]'(by rw [HM.out]; exact hi) ∈ l)
        rw [← hy] at hcl hiv hgo hyv htk
        rw [fitGo] at hgo
        obtain ⟨nv, hnv⟩ : ∃ nv, nv = y.vals.length := ⟨_, rfl⟩
        rw [← hnv] at hcl hyv
        obtain ⟨kq, hkq⟩ : ∃ kq, kq = y.kind := ⟨_, rfl⟩
        rw [← hkq] at hcl hgo
        have e0 := hcl.at 0 (by simp)
        have e1 := hcl.at 1 (by simp)
        simp only [List.getElem_cons_zero, List.getElem_cons_succ, Nat.add_zero] at e0 e1
        have hro := new_row wr #[.int .i64 kq, .slice av nv cv] 59
        have q0 := hro.at 0 (by simp)
        have q1 := hro.at 1 (by simp)
        simp only [List.getElem_cons_zero, List.getElem_cons_succ, Nat.zero_add] at q0 q1
        have hbA : Below wr.heap.size wr (wr.alloc (.cells #[.int .i64 kq, .slice av nv cv] 59 (0, 0))) := (Below.refl _ _).alloc (Nat.le_refl _) _
        have Q0 := Lib.hid q0
        have Q1 := Lib.hid q1
        have HNV := Lib.hid hnv
        have HKQ := Lib.hid hkq
        have HTK := Lib.hid htk
        have HIV := Lib.hid (hiv.below hbA)
        have HBA := Lib.hid hbA
        have HGO2 := Lib.hid hgo
        have HYV := Lib.hid hyv
        have HCF := Lib.hid (con_comps (l.take i) (some ⟨xb, xo, none⟩) i ca kq wr.heap.size (by rw [List.length_take, HM.out]; omega) (by omega) (wr.alloc (.cells #[.int .i64 kq, .slice av nv cv] 59 (0, 0))) (sl_take (HZ.out.below CompAt.abides (bt HB.out hbA)) i) q0)
        have HNN := HN.out
        clear hy hkq hnv hcl hiv hro hbA hgo hyv htk
        by_cases hA : kq < 0
        · have hres := HGO2.out
          rw [if_pos (Or.inl hA)] at hres
          injection hres with hr1 hr2
          have HR1 := Lib.hid hr1
          clear hr1 hr2
          go_wp2_with fail
          go_ret2
          exact FitWR.two HR1.out (by decide) rfl (bt HB.out HBA.out)
        · by_cases hB : (kn : Int) ≤ kq
          · have hres := HGO2.out
            rw [if_pos (Or.inr (by rw [HNN]; exact hB))] at hres
            injection hres with hr1 hr2
            have HR1 := Lib.hid hr1
            clear hr1 hr2
            go_wp2_with fail
            go_ret2
            exact FitWR.two HR1.out (by decide) rfl (bt HB.out HBA.out)
          · obtain ⟨q, rfl⟩ : ∃ q : Nat, kq = (q : Int) := ⟨kq.toNat, by omega⟩
            have hqn : q < kn := by omega
            have hres := HGO2.out
            rw [if_neg (fun h => by rcases h with h | h; exact hA h; rw [HNN] at h; exact hB h), Int.toNat_natCast] at hres
            obtain ⟨z, rfl, _, _⟩ := HZK.out (by rw [HNN]; omega)
            obtain ⟨kb, ko, rfl, af, cf, hck, hnm, hnc, hcm, hfl⟩ := kind_cells (HZK.out.below KindAt.abides (bt HB.out HBA.out)) q (by rw [HNN]; exact hqn)
            have hgq : ks.getD q default = ks[q]'(by rw [HNN]; exact hqn) := by rw [List.getD_eq_getElem?_getD, List.getElem?_eq_getElem (by rw [HNN]; exact hqn)]; rfl
            obtain ⟨K, hK⟩ : ∃ K, K = ks[q]'(by rw [HNN]; exact hqn) := ⟨_, rfl⟩
            rw [← hK] at hck hnm hnc hfl hgq
            rw [hgq] at hres
            obtain ⟨nf, hnf⟩ : ∃ nf, nf = K.fields.length := ⟨_, rfl⟩
            rw [← hnf] at hck hnc
            have HFC := Lib.hid (show fitC ks y = ⟨(q : Int), fitL K.fields y.vals⟩ by unfold fitC; rw [← HKQ.out, Int.toNat_natCast, hgq])
            have HFL := Lib.hid (show SlAt 3 FieldAt _ af K.fields ∧ K.name.size ≤ 9223372036854775807 ∧ nf ≤ cf ∧ cf ≤ 9223372036854775807 ∧ nf = K.fields.length from ⟨hfl, hnm, hnc, hcm, hnf⟩)
            obtain ⟨nm, hnm2⟩ : ∃ nm, nm = K.name := ⟨_, rfl⟩
            rw [← hnm2] at hck
            have HNM := Lib.hid hnm2
            have HCK := Lib.hid hck
            have HRES := Lib.hid hres
            clear hres hgq hK hnf hnm2 hck hnm hnc hcm hfl
            go_wp2_with fail
            refine HCF.out.mono ?_
            rintro e w5 ⟨rfl, hb5⟩
            have HA5 := Lib.hid (bt HBA.out hb5)
            have HB5 := Lib.hid hb5
            have Q05 := Lib.hid (cell_abides Q0.out hb5)
            have Q15 := Lib.hid (cell_abides Q1.out hb5)
            clear hb5 q0 q1 HCF e0 e1
            obtain ⟨HH, hHH⟩ : ∃ H, H = hasK (l.take i) (q : Int) := ⟨_, rfl⟩
            have hsq := HHAS.out q
            rw [← hHH] at hsq ⊢
            have HSQ := Lib.hid hsq
            clear hHH hsq
            cases HH with
            | true =>
              have hr := HRES.out
              rw [if_pos HSQ.out] at hr
              injection hr with hr1 hr2
              have HR1 := Lib.hid hr1
              clear hr1 hr2
              go_wp2_with fail
              go_ret2
              exact FitWR.two HR1.out (by decide) rfl (bt HB.out HA5.out)
            | false =>
              have hr := HRES.out
              rw [if_neg (by rw [HSQ.out]; simp)] at hr
              obtain ⟨E, hE⟩ : ∃ E, E = fitE K y.vals := ⟨_, rfl⟩
              rw [← hE] at hr
              have HR := Lib.hid hr
              have HE := Lib.hid hE
              have HCC := Lib.hid (fun w' (hb : Below w5.heap.size w5 w') => kind_FitU K af nf cf y.vals av nv cv HFL.out.2.2.2.2.symm HNV.out.symm (by have := HYV.out; omega) HFL.out.2.1 HFL.out.2.2.1 HFL.out.2.2.2.1 w' (SlAt.below FieldAt.abides HFL.out.1 (bt HB5.out hb)) (IntsAt.below HIV.out (bt HB5.out hb)))
              rw [← HNM.out] at HCC
              have HCK5 := Lib.hid (HCK.out.below HB5.out)
              clear hr hE
              go_wp2_with fail
              refine wp_region_facts_t rfl 13 (by kernel_rfl) (F_wf wr.heap.size w5.heap.size kn kc kb ko q nf cf nv cv av af nm E K y.vals) (F_wf_mono wr.heap.size w5.heap.size kn kc kb ko q nf cf nv cv av af nm E K y.vals) ?_ ?_
              · refine ⟨?_, ?_, ?_, ?_, ?_, ?_, ?_, ?_, ?_, ?_, ?_, ?_, ?_, trivial⟩
                · intro vs w' F hb hd hF hl hT
                  have e := (hF 0).trans (look_out _ 0 _ _ (by kernel_rfl))
                  exact one_move _ rfl (by first | exact Or.inl rfl | exact Or.inr rfl) ⟨_, rfl, Below.refl _ _, e⟩
                · intro vs w' F hb hd hF hl hT
                  have e := (hF 9).trans (look_out _ 9 _ _ (by kernel_rfl))
                  exact one_field _ _ _ rfl rfl _ _ e (0) (fun w => by kernel_rfl) ⟨_, rfl, Below.refl _ _, rfl⟩
                · intro vs w' F hb hd hF hl hT
                  have e := ((hF 41).trans (look_at _ 41 1 _ _ (by kernel_rfl) (by kernel_rfl) hl)).trans (dep_of (Fact := F_wf wr.heap.size w5.heap.size kn kc kb ko q nf cf nv cv av af nm E K y.vals) hd 1 (by kernel_rfl))
                  exact one_load _ _ rfl rfl _ _ e (cell_abides Q05.out hb) (by kernel_rfl) ⟨_, rfl, Below.refl _ _, rfl⟩
                · intro vs w' F hb hd hF hl hT
                  have ex := ((hF 40).trans (look_at _ 40 0 _ _ (by kernel_rfl) (by kernel_rfl) hl)).trans (dep_of (Fact := F_wf wr.heap.size w5.heap.size kn kc kb ko q nf cf nv cv av af nm E K y.vals) hd 0 (by kernel_rfl))
                  have ey := ((hF 42).trans (look_at _ 42 2 _ _ (by kernel_rfl) (by kernel_rfl) hl)).trans (dep_of (Fact := F_wf wr.heap.size w5.heap.size kn kc kb ko q nf cf nv cv av af nm E K y.vals) hd 2 (by kernel_rfl))
                  exact one_index 24 _ _ rfl rfl (.slice (some ⟨kb, ko, none⟩) kn kc) (.int .i64 (q : Int)) (.pointer (some ⟨kb, ko + q * 2, none⟩)) ex ey (fun w => rg_idx Try.underlying24 (show (Try.prog.info? 53).map (·.size) = some 2 by kernel_rfl) (kb) (ko) (kn) (kc) (q) (by omega) w) ⟨_, rfl, Below.refl _ _, rfl⟩
                · intro vs w' F hb hd hF hl hT
                  have e := ((hF 43).trans (look_at _ 43 3 _ _ (by kernel_rfl) (by kernel_rfl) hl)).trans (dep_of (Fact := F_wf wr.heap.size w5.heap.size kn kc kb ko q nf cf nv cv av af nm E K y.vals) hd 3 (by kernel_rfl))
                  exact rg_load 53 _ rfl rfl (kb) (ko + q * 2) [.string nm, .slice af nf cf] e (HCK5.out.below hb) _ Try.underlying53 rfl (by kernel_rfl) ⟨_, rfl, Below.refl _ _, rfl⟩
                · intro vs w' F hb hd hF hl hT
                  have e := (hF 9).trans (look_out _ 9 _ _ (by kernel_rfl))
                  exact one_field _ _ _ rfl rfl _ _ e (1) (fun w => by kernel_rfl) ⟨_, rfl, Below.refl _ _, rfl⟩
                · intro vs w' F hb hd hF hl hT
                  have e := ((hF 45).trans (look_at _ 45 5 _ _ (by kernel_rfl) (by kernel_rfl) hl)).trans (dep_of (Fact := F_wf wr.heap.size w5.heap.size kn kc kb ko q nf cf nv cv av af nm E K y.vals) hd 5 (by kernel_rfl))
                  exact one_load _ _ rfl rfl _ _ e (cell_abides Q15.out hb) (by kernel_rfl) ⟨_, rfl, Below.refl _ _, rfl⟩
                · intro vs w' F hb hd hF hl hT
                  have e1 := (((hF 44).trans (look_at _ 44 4 _ _ (by kernel_rfl) (by kernel_rfl) hl)).trans (dep_of (Fact := F_wf wr.heap.size w5.heap.size kn kc kb ko q nf cf nv cv av af nm E K y.vals) hd 4 (by kernel_rfl)))
                  have e2 := (((hF 46).trans (look_at _ 46 6 _ _ (by kernel_rfl) (by kernel_rfl) hl)).trans (dep_of (Fact := F_wf wr.heap.size w5.heap.size kn kc kb ko q nf cf nv cv av af nm E K y.vals) hd 6 (by kernel_rfl)))
                  refine one_call _ _ rfl rfl (enters_of Try.func54 (by kernel_rfl) rfl) #[.agg #[.string nm, .slice af nf cf], .slice av nv cv] (eval2 e1 e2) ?_
                  refine (HCC.out w' hb).mono ?_
                  intro e3 w2 hp
                  have hb2 := hp.2.2
                  obtain ⟨v, rfl, ht⟩ := FitPostU.tuple (B := w5.heap.size) hp hb.size
                  exact ⟨_, rfl, _, rfl, hb2, ht⟩
                · intro vs w' F hb hd hF hl hT
                  have e := ((hF 47).trans (look_at _ 47 7 _ _ (by kernel_rfl) (by kernel_rfl) hl))
                  have d := (dep_of (Fact := F_wf wr.heap.size w5.heap.size kn kc kb ko q nf cf nv cv av af nm E K y.vals) hd 7 (by kernel_rfl))
                  rw [← e] at d
                  exact one_move _ rfl (by first | exact Or.inl rfl | exact Or.inr rfl) ⟨_, rfl, Below.refl _ _, d⟩
                · intro vs w' F hb hd hF hl hT
                  have e := ((hF 39).trans (look_at _ 39 8 _ _ (by kernel_rfl) (by kernel_rfl) hl))
                  obtain ⟨u, hu, hs⟩ := (dep_of (Fact := F_wf wr.heap.size w5.heap.size kn kc kb ko q nf cf nv cv av af nm E K y.vals) hd 8 (by kernel_rfl))
                  exact rg_extract _ _ rfl rfl _ u (e.trans hu) (fun w => rfl) ⟨_, rfl, Below.refl _ _, hs⟩
                · intro vs w' F hb hd hF hl hT
                  have e := ((hF 39).trans (look_at _ 39 8 _ _ (by kernel_rfl) (by kernel_rfl) hl))
                  obtain ⟨u, hu, hs⟩ := (dep_of (Fact := F_wf wr.heap.size w5.heap.size kn kc kb ko q nf cf nv cv av af nm E K y.vals) hd 8 (by kernel_rfl))
                  rw [← HE.out] at hu
                  exact rg_extract _ _ rfl rfl _ (.int .i64 E) (e.trans hu) (fun w => rfl) ⟨_, rfl, Below.refl _ _, rfl⟩
                · intro vs w' F hb hd hF hl hT
                  have e := ((hF 48).trans (look_at _ 48 9 _ _ (by kernel_rfl) (by kernel_rfl) hl))
                  have d := (dep_of (Fact := F_wf wr.heap.size w5.heap.size kn kc kb ko q nf cf nv cv av af nm E K y.vals) hd 9 (by kernel_rfl))
                  rw [← e] at d
                  exact one_move _ rfl (by first | exact Or.inl rfl | exact Or.inr rfl) ⟨_, rfl, Below.refl _ _, d⟩
                · intro vs w' F hb hd hF hl hT
                  have e := ((hF 49).trans (look_at _ 49 10 _ _ (by kernel_rfl) (by kernel_rfl) hl)).trans (dep_of (Fact := F_wf wr.heap.size w5.heap.size kn kc kb ko q nf cf nv cv av af nm E K y.vals) hd 10 (by kernel_rfl))
                  exact one_move _ rfl (by first | exact Or.inl rfl | exact Or.inr rfl) ⟨_, rfl, Below.refl _ _, e⟩
              · intro vs8 W8 hl hb hI
                have i11 : FitSU w5.heap.size K y.vals (vs8.getD 11 undef) W8 := hI 11 (by omega)
                have i12 : vs8.getD 12 undef = .int .i64 E := hI 12 (by omega)
                obtain ⟨x0, x1, x2, x3, x4, x5, x6, x7, x8, x9, x10, x11, x12, hvs⟩ := list13 hl
                subst hvs
                replace i11 : FitSU w5.heap.size K y.vals x11 W8 := i11
                replace i12 : x12 = .int .i64 E := i12
                subst i12
                have HS := Lib.hid i11
                have HB8 := Lib.hid hb
                clear i11 hI hl hb HCC HCK5
                simp only [fillAll, Act.put, List.setIfInBounds_toArray, List.set_cons_succ, List.set_cons_zero]
                show wpList _ _ _ [] _ _
                by_cases he : E = 0
                · subst he
                  obtain ⟨fa, fc, hfe, hfi, hfx⟩ := HS.out.2 HE.out.symm
                  rw [← HNV.out] at hfe
                  subst hfe
                  have hlen := fitL_len HE.out.symm
                  rw [← HNV.out] at hlen
                  have c0 := cell_abides Q05.out HB8.out
                  have t0 : ((0 : Int) != 0) = false := rfl
                  obtain ⟨css, hcss⟩ := HGR.out
                  have HCSS := Lib.hid hcss
                  obtain ⟨nl, hnl⟩ : ∃ nl, nl = (fitOut ks (l.take i)).length := ⟨_, rfl⟩
                  have hnl2 : nl ≤ i := by rw [hnl]; unfold fitOut; rw [List.length_map, List.length_take]; omega
                  have HNN2 := Lib.hid hnl
                  have hba := (Below.refl W8.heap.size W8).alloc (Nat.le_refl _) (.cells #[.int .i64 (q : Int), .slice fa nv fc] 59 (0, 0))
                  have hb8 : Below wr.heap.size wr W8 := bt HA5.out HB8.out
                  have hbw : Below wr.heap.size wr (W8.alloc (.cells #[.int .i64 (q : Int), .slice fa nv fc] 59 (0, 0))) := bt hb8 hba
                  have hro := new_row W8 #[.int .i64 (q : Int), .slice fa nv fc] 59
                  have hcl : CellsAt (W8.alloc (.cells #[.int .i64 (q : Int), .slice fa nv fc] 59 (0, 0))) (some ⟨W8.heap.size, 0, none⟩) [.int .i64 (q : Int), .slice fa nv fc] := fun _ => ⟨_, rfl, by simp, fun j u hu => by
                    have := hro j u hu
                    rw [add_zero_block]
                    simpa using this⟩
                  have hownC := own_bel hcss.2.2.1 hbw
                  rw [← hnl] at hownC
                  have hbs2 : W.heap.size ≤ (W8.alloc (.cells #[.int .i64 (q : Int), .slice fa nv fc] 59 (0, 0))).heap.size := Nat.le_trans HB.out.size hbw.size
                  have hsz5 : wr.heap.size ≤ w5.heap.size := HA5.out.size
                  have hy : Win wr.heap.size (W8.alloc (.cells #[.int .i64 (q : Int), .slice fa nv fc] 59 (0, 0))).heap.size (fun w => EComp w [.int .i64 (q : Int), .slice fa nv fc] ⟨(q : Int), fitL K.fields y.vals⟩) (W8.alloc (.cells #[.int .i64 (q : Int), .slice fa nv fc] 59 (0, 0))) :=
                    Win.ofUp (Up.below (fun w2 hs => ⟨fa, fc, by rw [hlen], ints_up hs (fun x hx => Nat.le_trans hsz5 (hfx x hx)) hfi⟩) hba)
                  have HY := Lib.hid hy
                  have HBW := Lib.hid hbw
                  clear hy hro hfi hfx hlen hbw hb8 hba hcss hnl hsz5
                  go_wp2_with (at_builtin; go_must (refine wpList_append_cells rfl _ _ 60 rfl W.heap.size 59 (.agg #[.int .i64 0, .slice none 0 0]) 2 32 Try.underlying60 (by kernel_rfl) rfl (by decide) _ nl css.flatten rfl hownC (some ⟨W8.heap.size, 0, none⟩) 1 1 [.int .i64 (q : Int), .slice fa nv fc] rfl rfl hcl (by simp [Value.oneCell']) (by unfold maxLen; omega) (by omega) hbs2 ?_); intro v3 w3 hown3 hg3 hat3; have HO3 := Lib.hid hown3; have HG3 := Lib.hid hg3; have HA3 := Lib.hid hat3; clear hown3 hg3 hat3)
                  have HNEW := Lib.hid (show GrowL EComp W.heap.size 59 2 w3 v3 (fitOut ks (l.take (i + 1))) by
                    rw [HTK.out]
                    unfold fitOut
                    rw [List.map_append, List.map_cons, List.map_nil, HFC.out]
                    exact GrowL.push2 HGR.out HB.out.size HBW.out [.int .i64 (q : Int), .slice fa nv fc] ⟨(q : Int), fitL K.fields y.vals⟩ rfl HY.out HCSS.out (by have := HO3.out; rw [HNN2.out] at this; exact this) HG3.out HA3.out)
                  have HB3 := Lib.hid ((HB.out.trans (HBW.out.mono HB.out.size)).grown HG3.out (HB.out.trans (HBW.out.mono HB.out.size)).size (fun r h => (own_lt HCSS.out.2.2.1 r h).1))
                  have HR9 := Lib.hid (show fitGo ks (l.drop (i + 1)) (updF F q (fitL K.fields y.vals)) = (RE, RM) by have h := HR.out; rw [if_neg (by simp)] at h; exact h)
                  have HH9 := Lib.hid (show ∀ k : Nat, (updF F q (fitL K.fields y.vals) k).isSome = hasK (l.take (i + 1)) k by rw [HTK.out]; exact upd_has HHAS.out HKQ.out.symm)
                  clear hcl hownC hbs2 c0
                  go_roundg (n - (i + 1))
                  case measure => rw [G2.out]; omega
                  case rel => exact ⟨i + 1, _, hi, rfl, by go_num, HR9.out, HH9.out, HNEW.out, HB3.out⟩
                · have t0 : (E != 0) = true := by rw [bne_iff_ne]; exact he
                  have hr := HR.out
                  rw [if_pos he] at hr
                  injection hr with hr1 hr2
                  have HR1 := Lib.hid hr1
                  clear hr1 hr2
                  go_wp2
                  go_ret2
                  exact FitWR.two HR1.out he rfl (bt HB.out (bt HA5.out HB8.out))
      · obtain rfl : n = i := by omega
        have hgo := HGO.out
        rw [List.drop_of_length_le (by rw [HM.out]; exact Nat.le_refl _), fitGo] at hgo
        injection hgo with hr1 hr2
        have hgr := HGR.out
        rw [List.take_of_length_le (by rw [HM.out]; exact Nat.le_refl _)] at hgr
        have hlo : (fitOut ks l).length ≤ 1048576 := by unfold fitOut; rw [List.length_map, HM.out]; exact h1
        have HSC := Lib.hid (HSO.out wr W.heap.size u7 (fitOut ks l) hgr HB.out.size hlo)
        have HE0 := Lib.hid (show fitAllE ks l = 0 by rw [← HRE.out]; exact hr1.symm)
        have HK16 := Lib.hid (kindsE_len HKE.out.symm)
        subst hr1
        clear hr2 hgr hlo
        go_wp2_with fail
        refine HSC.out.mono ?_
        rintro e w9 ⟨rfl, ⟨l', hp, hs, hg⟩, hb9⟩
        obtain rfl := sorted_fit HK16.out HE0.out hp (hs.imp fun h => by omega)
        rw [← HRM.out] at hg
        obtain ⟨a9, c9, hv9, _, _⟩ := GrowL.slice hg
        have HUP := Lib.hid (GrowL.up EComp.at hg a9 c9 hv9)
        have HB9 := Lib.hid (HB.out.trans hb9)
        have HV9 := Lib.hid hv9
        clear hp hs hg hb9 hv9
        go_wp2
        go_ret2
        exact FitWR.three a9 c9 (by rw [HV9.out]; rfl) HUP.out HB9.out
  · have t0 : (KE != 0) = true := by rw [bne_iff_ne]; exact hke
    go_wp2
    go_ret2
    exact FitWR.one hke rfl HB1.out
end Go.Proofs.Ytncnbfefciobcaa
end
/- The sort of fitted components, out of the kit's contract of slices.SortFunc. -/
section
namespace Go.Proofs.Ytncnbfefciobcaa
open Go.ChangeShapes Go.WideShapes Go.ChangeAt Go.RowKit Go.Nm Go.Mem Go.Shelf
open Go.Sort (putRow putCells mapBlock grow SWO PermIn SortedIn onCells heap_grow_old flatK get_flatK HoldsK)
set_option linter.unusedVariables false
/-- a component as its two cells, with its numbers beside -/
abbrev KS := (Int × Option Addr × Nat × Nat) × CompV
def encS (x : KS) : List Value := [.int .i64 x.1.1, .slice x.1.2.1 x.1.2.2.1 x.1.2.2.2]
def cfS (x y : KS) : Int := cmpI x.1.1 y.1.1
theorem ltS (x y : KS) : ltOf cfS x y = decide (x.1.1 < y.1.1) := by
  unfold ltOf cfS cmpI
  by_cases h1 : x.1.1 < y.1.1
  · simp [h1]
  · by_cases h2 : y.1.1 < x.1.1 <;> simp [h1, h2]
theorem swoS : SWO (ltOf cfS) where
  irrefl x := by rw [ltS]; simp
  trans x y z h1 h2 := by rw [ltS] at *; simp at *; omega
  ntrans x y z h1 h2 := by rw [ltS] at *; simp at *; omega
set_option maxHeartbeats 1000000 in
theorem clos_sort (k1 k2 : Int) (a1 a2 : Option Addr) (n1 c1 n2 c2 : Nat) (W : World) : Calls Try.prog 56 #[.agg #[.int .i64 k1, .slice a1 n1 c1], .agg #[.int .i64 k2, .slice a2 n2 c2]] W fun e w' => e = .returned (.int .i64 (cmpI k1 k2)) ∧ ∃ q os', w' = grow (W.drewN q) os' := by
  have HC := Lib.hid (fun W' => cmp_ints k1 k2 W')
  obtain ⟨R, hR⟩ : ∃ R, R = cmpI k1 k2 := ⟨_, rfl⟩
  rw [← hR] at HC ⊢
  clear hR
  go_enter Try.func56, Try.ntmps56
  go_wp2_with fail
  refine (HC.out _).mono ?_
  rintro e w' ⟨rfl, rfl⟩
  go_wp2
  go_ret
  exact ⟨rfl, 0, _, by rw [Sort.alloc_eq_grow, Sort.alloc_eq_grow, Sort.grow_grow]; rfl⟩
theorem cmpLaysS (blk off size : Nat) (w : World) : CmpLays Try.prog 56 #[] encS 2 cfS blk off size w :=
  fun _ _ _ _ x y => clos_sort x.1.1 y.1.1 _ _ _ _ _ _ _
theorem heap_sortedG {w : World} {g n : Nat} {os : Array Obj} {cur : Array Value} {e : TypeId} {fr : Nat × Nat} (F : Array Value) (hb : w.heap[g]? = some (.cells cur e fr)) :
    (grow (putRow id (Sort.ahead w n) g 0 F) os).heap[g]? = some (.cells (putCells id 0 F cur) e fr) := by
  have hg : g < w.heap.size := (Array.getElem?_eq_some_iff.1 hb).1
  rw [heap_grow_old _ _ (by simpa using hg)]
  simp [putRow, mapBlock, Sort.ahead, Array.getElem?_modify, hb, onCells]
theorem grownBy_sortedG {w : World} {g n : Nat} {os : Array Obj} (F : Array Value) : w.grownBy (grow (putRow id (Sort.ahead w n) g 0 F) os) (some g) := by
  refine ⟨rfl, rfl, rfl, by simp, fun k hk hne => ?_⟩
  rw [heap_grow_old _ _ (by simpa using hk)]
  have : g ≠ k := fun e => hne (by rw [e])
  simp [putRow, mapBlock, Sort.ahead, Array.getElem?_modify, this]
theorem take_putCellsG (cur F : Array Value) (h : F.size ≤ cur.size) : (putCells id 0 F cur).toList.take F.size = F.toList := by
  apply List.ext_getElem?
  intro j
  by_cases hj : j < F.size
  · rw [List.getElem?_take_of_lt hj, Array.getElem?_toList]
    simp [putCells, hj, show j < cur.size by omega]
  · rw [List.getElem?_take_eq_none (by omega), List.getElem?_eq_none (by simp; omega)]
theorem flatK_list (D : List KS) : (flatK encS 2 D.toArray).toList = (D.map encS).flatten := by
  have hl : (D.map encS).flatten.length = D.length * 2 := by
    rw [flat_len (sz := 2) _ (fun c hc => by obtain ⟨x, _, rfl⟩ := List.mem_map.1 hc; rfl), List.length_map]
  apply List.ext_getElem?
  intro t
  by_cases ht : t < D.length * 2
  · have h2 : t / 2 < (D.map encS).length := by rw [List.length_map]; omega
    have hf := flat_get (sz := 2) (D.map encS) (fun c hc => by obtain ⟨x, _, rfl⟩ := List.mem_map.1 hc; rfl) (t / 2) h2 (t % 2) (by omega)
    rw [show t / 2 * 2 + t % 2 = t by omega] at hf
    rw [hf, Array.getElem?_toList]
    have hs : t < (flatK encS 2 D.toArray).size := by simp; omega
    have hg := get_flatK encS 2 D.toArray t (by simpa using ht)
    rw [getElem!_pos _ t hs] at hg
    rw [Array.getElem?_eq_getElem hs, hg]
    have h3 : t / 2 < D.length := by omega
    have e1 : (D.toArray[t / 2]! : KS) = D[t / 2]'h3 := by rw [getElem!_pos D.toArray (t / 2) (by simpa using h3)]; simp
    rw [e1, List.getElem_map]
    have h4 : t % 2 < (encS (D[t / 2]'h3)).length := by show t % 2 < 2; omega
    rw [getElem!_pos (encS (D[t / 2]'h3)) (t % 2) h4, List.getElem?_eq_getElem h4]
  · rw [List.getElem?_eq_none (by simp; omega), List.getElem?_eq_none (by rw [hl]; omega)]
/-- what is known of an element of the row -/
def GoodS (B g : Nat) (W : World) (x : KS) : Prop := x.1.1 = x.2.kind ∧ ∃ lo hi, B ≤ lo ∧ ¬(lo ≤ g ∧ g < hi) ∧ Win lo hi (fun w => EComp w (encS x) x.2) W
theorem sorts_comps : SortsC 56 := by
  intro W B v l hgr hB hl1
  by_cases h0 : l.length = 0
  · have hl : l = [] := List.eq_nil_of_length_eq_zero h0
    subst hl
    obtain ⟨a, c, rfl, _, _⟩ := hgr.slice
    have hcon := AnyF.slices_SortFunc_none Try.sortComps a c (.func (.func 56) #[] #[]) W
    change Calls Try.prog 55 _ _ _ at hcon
    refine hcon.mono ?_
    rintro e w' ⟨he, rfl⟩
    exact ⟨he, ⟨[], List.Perm.refl _, List.Pairwise.nil, hgr⟩, Below.refl _ _⟩
  · obtain ⟨css, h1, h2, h3, h4⟩ := hgr
    rcases h3.2 with ⟨_, h⟩ | ⟨g, cap, cur, rfl, hBg, hb, hnc, hcm, hcs, htk⟩
    · omega
    · have key : ∀ j, j < l.length → ∃ x : KS, css[j]? = some (encS x) ∧ l[j]? = some x.2 ∧ GoodS B g W x := by
        intro j hj
        obtain ⟨lo, hi, p0, p1, p2⟩ := h4 j hj (by omega)
        obtain ⟨a, c, ec, hi2⟩ := p2.now
        refine ⟨((l[j].kind, a, l[j].vals.length, c), l[j]), ?_, List.getElem?_eq_getElem hj, rfl, lo, hi, p0, p1 g rfl, ?_⟩
        · rw [List.getElem?_eq_getElem (by omega), ec]; rfl
        · have : encS ((l[j].kind, a, l[j].vals.length, c), l[j]) = css[j]'(by omega) := ec.symm
          rw [this]
          exact p2
      obtain ⟨Y, hY⟩ := Go.Deep.choose_lt key
      obtain ⟨D, hD⟩ : ∃ D : List KS, D = (List.range l.length).map Y := ⟨_, rfl⟩
      have hDl : D.length = l.length := by rw [hD]; simp
      have hDg : ∀ j (h : j < D.length), D[j] = Y j := fun j h => by simp [hD]
      have hcss : D.map encS = css := by
        apply List.ext_getElem (by rw [List.length_map, hDl, h1])
        intro j k1 k2
        rw [List.getElem_map, hDg]
        have := (hY j (by omega)).1
        rw [List.getElem?_eq_getElem k2] at this
        injection this with this
        exact this.symm
      have hls : D.map (·.2) = l := by
        apply List.ext_getElem (by rw [List.length_map, hDl])
        intro j k1 k2
        rw [List.getElem_map, hDg]
        have := (hY j (by omega)).2.1
        rw [List.getElem?_eq_getElem k2] at this
        injection this with this
        exact this.symm
      have hgood : ∀ x ∈ D, GoodS B g W x := by
        intro x hx
        obtain ⟨j, hj, rfl⟩ := List.getElem_of_mem hx
        rw [hDg]
        exact (hY j (by omega)).2.2
      have hfl := flatK_list D
      rw [hcss] at hfl
      have hfs : (flatK encS 2 D.toArray).size = l.length * 2 := by simp [hDl]
      have hH : HoldsK encS 2 W g 0 D.toArray := by
        intro j hj
        refine ⟨?_, by simp [World.frozen?, hb]⟩
        rw [Nat.zero_add, h3.cellAt j (by rw [hfs] at hj; exact hj), ← hfl, Array.getElem?_toList, getElem!_pos _ j hj, Array.getElem?_eq_getElem hj]
        rfl
      have hgl : g < W.heap.size := lt_of_heap hb
      have hcon := AnyQ.slices_SortFunc Try.sortComps 2 Try.isAgg59 Try.sizeOf59 encS (fun _ => rfl) (fun x v hv => by simp [encS] at hv; rcases hv with rfl | rfl <;> rfl) cfS swoS 56 #[] g 0 cap D.toArray W
        (enters_of Try.func56 (by kernel_rfl) rfl) (cmpLaysS g 0 _ W) hH hgl (by simp; omega)
      change Calls Try.prog 55 _ _ _ at hcon
      rw [show D.toArray.size = l.length by simp [hDl]] at hcon
      refine hcon.mono ?_
      rintro e w' ⟨he, d', m, os, hp, hs, hw⟩
      obtain ⟨hps, _, hpp⟩ := hp
      have hd's : d'.size = l.length := by rw [hps]; simp [hDl]
      have hperm : d'.toList.Perm D := by
        have e1 : d'.extract 0 l.length = d' := by rw [← hd's]; simp
        have e2 : D.toArray.extract 0 l.length = D.toArray := by rw [show l.length = D.toArray.size by simp [hDl]]; simp
        rw [e1, e2] at hpp
        simpa using hpp
      have hw2 : w' = grow (putRow id (Sort.ahead W m) g 0 (flatK encS 2 d')) os := hw
      have hfl2 := flatK_list d'.toList
      rw [show d'.toList.toArray = d' by simp] at hfl2
      have hfs2 : (flatK encS 2 d').size = l.length * 2 := by simp [hd's]
      have hgb : W.grownBy w' (some g) := by rw [hw2]; exact grownBy_sortedG _
      have hlen' : (d'.toList.map (·.2)).length = l.length := by simp [hd's]
      refine ⟨he, ⟨d'.toList.map (·.2), by rw [← hls]; exact hperm.map _, ?_, ?_⟩, (Below.refl B W).grown hgb hB (fun r hr => by injection hr with hr; rw [← hr]; exact hBg)⟩
      · rw [List.pairwise_iff_getElem]
        intro i j hi hj hij hlt
        rw [hlen'] at hi hj
        rw [List.getElem_map, List.getElem_map] at hlt
        have hx := hs i j (Nat.zero_le _) hij hj
        rw [getElem!_pos d' i (by omega), getElem!_pos d' j (by omega), ltS] at hx
        have g1 := (hgood _ (hperm.mem_iff.1 (List.getElem_mem (show i < d'.toList.length by simp; omega)))).1
        have g2 := (hgood _ (hperm.mem_iff.1 (List.getElem_mem (show j < d'.toList.length by simp; omega)))).1
        have hx' := of_decide_eq_false hx
        simp only [Array.getElem_toList] at hlt g1 g2
        omega
      · refine ⟨d'.toList.map encS, by simp, fun c hc => by obtain ⟨x, _, rfl⟩ := List.mem_map.1 hc; rfl, ?_, fun j hj hj2 => ?_⟩
        · rw [hlen']
          refine ⟨?_, Or.inr ⟨g, cap, _, rfl, hBg, by rw [hw2]; exact heap_sortedG _ hb, hnc, hcm, by simp [putCells, hcs], ?_⟩⟩
          · rw [← hfl2, Array.length_toList, hfs2]
          · rw [← hfl2, ← hfs2]
            exact take_putCellsG cur _ (by rw [hfs2, hcs]; exact Nat.mul_le_mul_right _ hnc)
        · have hjl : j < d'.toList.length := by simpa using hj
          obtain ⟨_, lo, hi, p0, p1, p2⟩ := hgood _ (hperm.mem_iff.1 (List.getElem_mem hjl))
          rw [List.getElem_map, List.getElem_map]
          refine ⟨lo, hi, p0, fun g2 hg2 => ?_, p2.to (Nat.le_trans p2.1 hgb.size) (fun q q1 q2 => hgb.block q (Nat.lt_of_lt_of_le q2 p2.1) (fun e => p1 (by injection e with e; rw [← e]; exact ⟨q1, q2⟩)))⟩
          injection hg2 with hg2
          have hg3 : g = g2 := hg2
          rw [← hg3]; exact p1
end Go.Proofs.Ytncnbfefciobcaa
end
