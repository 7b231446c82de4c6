/- tourlaw1.QueueSorts: the closure, and the law's walk. -/
import Derived.Test.YtlahmcbaiebapaaQSort
import Derived.Test.YtlahmcbaiebapaaStabS
import Derived.Test.YtlahmcbaiebapaaEqI
import Derived.BigQuiet
namespace Go.Proofs.Ytlahmcbaiebapaa
open Go.ChangeShapes Go.WideShapes Go.ChangeAt Go.RowKit Go.Mem Go.Sb Go.Qs
set_option linter.unusedVariables false

set_option maxHeartbeats 4000000 in
set_option maxRecDepth 100000 in
theorem cmp_sorts (a : Option Addr) (n c bx : Nat) (zs : List Int) (hl : zs.length = n) (hn : n ≤ 1048576) (x y : Int) (hx : 0 ≤ x ∧ x < n) (hy : 0 ≤ y ∧ y < n) (w : World) (hb : w.cell? ⟨bx, 0, none⟩ = some (.slice a n c)) (hz : IntsAt .i64 w a zs) :
    Calls Try.prog 54 #[.int .i64 x, .int .i64 y, .pointer (some ⟨bx, 0, none⟩)] w fun e w' => e = .returned (.int .i64 (cmN (kOf zs) x y)) ∧ Below w.heap.size w w' := by
  obtain ⟨i, rfl⟩ : ∃ i : Nat, x = (i : Int) := ⟨x.toNat, by omega⟩
  obtain ⟨j, rfl⟩ : ∃ j : Nat, y = (j : Int) := ⟨y.toNat, by omega⟩
  obtain ⟨x1, x2⟩ := hx
  obtain ⟨y1, y2⟩ := hy
  obtain ⟨ad, rfl, had, hc⟩ := hz (by omega)
  have ci := hc i (by omega)
  have cj := hc j (by omega)
  have ei : kOf zs (i : Int) = zs.getD i 0 := by unfold kOf; simp
  have ej : kOf zs (j : Int) = zs.getD j 0 := by unfold kOf; simp
  unfold cmN
  rw [ei, ej]
  obtain ⟨A, hA⟩ : ∃ A, A = zs.getD i 0 := ⟨_, rfl⟩
  obtain ⟨B, hB⟩ : ∃ B, B = zs.getD j 0 := ⟨_, rfl⟩
  rw [← hA] at ci ⊢
  rw [← hB] at cj ⊢
  obtain ⟨q, hq⟩ : ∃ q : Int, q = if A < B then -1 else if B < A then 1 else 0 := ⟨_, rfl⟩
  rw [← hq]
  have HQ := Lib.hid hq
  clear hq
  have i1 : i < n := by omega
  have j1 : j < n := by omega
  clear hA hB ei ej hc hl hz
  go_enter Try.func54, Try.ntmps54
  go_wp2_with fail
  go_quiet (fail)
  by_cases h1 : A < B
  · go_wp2_with fail
    go_ret
    exact ⟨by rw [HQ.out, if_pos h1]; rfl, below_drewN (Below.refl _ _) _⟩
  · have k0 : (w.drewN nq).cell? ⟨bx, 0, none⟩ = some (.slice (some ad) n c) := hb
    have k1 : (w.drewN nq).cell? (ad.add i) = some (.int .i64 A) := ci
    have k2 : (w.drewN nq).cell? (ad.add j) = some (.int .i64 B) := cj
    go_wp2_with fail
    go_quiet (fail)
    by_cases h2 : B < A
    · go_wp2_with fail
      go_ret
      exact ⟨by rw [HQ.out, if_neg (by omega), if_pos h2]; rfl, below_drewN (below_drewN (Below.refl _ _) _) _⟩
    · go_wp2_with fail
      go_ret
      exact ⟨by rw [HQ.out, if_neg (by omega), if_neg (by omega)]; rfl, below_drewN (Below.refl _ _) _⟩

theorem cmp_ok (a : Option Addr) (n c bx g : Nat) (zs : List Int) (hl : zs.length = n) (hn : n ≤ 1048576) (W0 : World) (hg : W0.heap.size = g) (hb : W0.heap[bx]? = some (.cells #[.slice a n c] 23 (0, 0))) (hz : IntsAt .i64 W0 a zs) :
    CmpOk 54 #[.pointer (some ⟨bx, 0, none⟩)] (kOf zs) n g W0 :=
  ⟨fun x y w1 hx hy hw => cmp_sorts a n c bx zs hl hn x y hx hy w1 (by
    have h1 : w1.heap[bx]? = some (.cells #[.slice a n c] 23 (0, 0)) := (hw.block bx (by rw [← hg]; exact Mem.lt_of_heap hb)).trans hb
    rw [cell_of_row w1 bx 0 _ _ _ h1]; rfl) (hz.below (by rw [hg]; exact hw))⟩
theorem ints_two (k : IntKind) (w : World) (x y : Int) (t : TypeId) : IntsAt k (w.alloc (.cells #[.int k x, .int k y] t)) (some ⟨w.heap.size, 0, none⟩) [x, y] :=
  RowB.ints (t := t) (zs := [x, y]) (heap_alloc_new w _)
theorem two_sorts {R : List Int} (h : Srt (kOf [2, 1]) R) (hp : R.Perm (iotaF 0 2)) : R = [1, 0] := by
  refine srt_uniq h ?_ (hp.trans (by decide))
  refine List.Pairwise.cons ?_ (List.pairwise_singleton _ _)
  intro y hy
  rw [List.mem_singleton.1 hy]
  exact .inl (by decide)
theorem iota_set (n i : Nat) (h : i < n) : (iotaF 0 i ++ List.replicate (n - i) 0).set i (i : Int) = iotaF 0 (i + 1) ++ List.replicate (n - (i + 1)) 0 := by
  rw [List.set_append_right _ _ (by rw [iota_len]; exact Nat.le_refl _), iota_len, Nat.sub_self, show n - i = (n - (i + 1)) + 1 by omega, List.replicate_succ, List.set_cons_zero, iota_app, List.append_assoc]
  congr 1
  simp [iotaF]

end Go.Proofs.Ytlahmcbaiebapaa
