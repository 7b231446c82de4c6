/- sum.Ints. -/
import Derived.Test.YtdhaaeaacbnghaaSum
import Derived.Deep.DeepMust
import Derived.OwnWalk
namespace Go.Proofs.Ytdhaaeaacbnghaa
open Go.ChangeShapes Go.WideShapes Go.ChangeAt Go.RowKit Go.Mem
set_option linter.unusedVariables false

theorem dig_of_u (l o : List Int) (hl : o.length = l.length) (h : ∀ j, j < l.length → o.getD j 0 = (W64.u (l.getD j 0) : Int)) : dig o = dig l ∧ U64s o := by
  have e : o = l.map fun z => (W64.u z : Int) := by
    apply getD_eq_of_ext (by simpa using hl)
    intro j hj
    rw [h j (by omega)]
    have : j < l.length := by omega
    simp [this]
  subst e
  refine ⟨dig_map l, fun z hz => ?_⟩
  obtain ⟨y, _, rfl⟩ := List.mem_map.1 hz
  have := W64.u_lt y
  omega

set_option maxHeartbeats 4000000 in
theorem sum_Ints (a : Option Addr) (cap : Nat) (l : List Int) (hl : l.length ≤ 17592186044416) (w : World) (hin : Mem.IntsAt .i64 w a l) :
    Calls Try.prog 24 #[.slice a l.length cap] w fun e w' => e = .returned (.int .u64 (dig l : Nat)) ∧ Below w.heap.size w w' := by
  obtain ⟨n, hn⟩ : ∃ n, n = l.length := ⟨_, rfl⟩
  rw [← hn]
  have HN := Lib.hid hn
  have HI := Lib.hid hin
  have h63 : n ≤ 17592186044416 := by omega
  clear hin hn hl
  obtain ⟨i0, hi, hz0, hz1, hz2⟩ := info_parts (show (Try.prog.info? 22).map (fun i => (i.zero, i.size, i.bytes)) = some (some (.int .u64 0), 1, 8) by kernel_rfl)
  go_enter Try.func24, Try.ntmps24
  go_wp2_with (at_make; go_must (refine wpList_make_full _ rfl _ _ 33 rfl w.heap.size 22 i0 (.int .u64 0) 1 Try.underlying33 hi hz0 hz1 _ _ _ _ n rfl rfl rfl rfl ?b1 ?b2 ?b3 ?_))
  case b1 => rw [hz2]; omega
  case b2 => unfold maxLen; omega
  case b3 => omega
  intro w1 hown hgr
  rw [toList_madeCells_one, vints_replicate] at hown
  have hb1 : Below w.heap.size w w1 := (Below.refl _ _).grown hgr (Nat.le_refl _) (fun k hk => by cases hk)
  clear hgr hi hz0 hz1 hz2
  go_wp2
  go_loopg [4, 5, 11] n (fun gk _ _ vi wr => ∃ (k : Nat) (out : List Int), k ≤ n ∧ gk = n - k ∧ vi = .int .i64 k ∧ out.length = n ∧ (∀ j, j < k → out.getD j 0 = (W64.u (l.getD j 0) : Int)) ∧
      wr.ownsRow w.heap.size 22 1 (.slice (some ⟨w.heap.size, 0, none⟩) n n) n (vints .u64 out) ∧ Below w.heap.size w wr)
  case atStart => exact ⟨0, List.replicate n 0, by omega, rfl, rfl, by simp, fun j h => by omega, hown, hb1⟩
  case round =>
    clear hown hb1
    obtain ⟨k, out, hk, h2, rfl, hlen, hout, hown, hb⟩ := hrel
    have H2 := Lib.hid h2
    have HLEN := Lib.hid hlen
    have HOUT := Lib.hid hout
    clear h2 hout
    by_cases hlt : k < n
    · obtain ⟨x, rfl, hx, hc⟩ := (HI.out.below hb) (by rw [← HN.out]; omega)
      have hcell := hc k (by rw [← HN.out]; omega)
      obtain ⟨z, hz⟩ : ∃ z, z = l.getD k 0 := ⟨_, rfl⟩
      rw [← hz] at hcell
      have HZ := Lib.hid hz
      have eu : IntKind.u64.wrap z = W64.u z := W64.u_eq z
      have e1 := (hown.cellAt k (by omega)).trans (vints_get .u64 out k (by omega))
      have e2 := hown.frozenAt k
      have hst := (hown.stored k (.int .u64 (W64.u z : Nat)))
      rw [vints_set] at hst
      have HST := Lib.hid hst
      clear hc hz hst hown hlen
      go_wp2
      go_roundg (n - (k + 1))
      case measure => rw [H2.out]; omega
      case rel =>
        refine ⟨k + 1, out.set k (W64.u z), by omega, rfl, by go_num, by rw [List.length_set]; exact HLEN.out, fun j hj => ?_, HST.out.1, hb.setCell (by simp) _⟩
        by_cases q : j = k
        · subst q
          have := HLEN.out
          have h3 : j < out.length := by omega
          rw [← HZ.out]; simp [h3]
        · rw [List.getD_eq_getElem?_getD, List.getElem?_set_ne (by omega), ← List.getD_eq_getElem?_getD]
          exact HOUT.out j (by omega)
    · obtain rfl : k = n := by omega
      obtain ⟨q1, q2⟩ := dig_of_u l out (by rw [HLEN.out, HN.out]) (fun j hj => HOUT.out j (by rw [HN.out]; exact hj))
      have cw := sum_Words (some ⟨w.heap.size, 0, none⟩) k out (by rw [HLEN.out]; omega) q2 wr (IntsAt.of_own hown HLEN.out.symm)
      rw [HLEN.out, q1] at cw
      have CW := Lib.hid cw
      clear cw q1 q2 hlen hown
      go_wp2_with (go_at_call 19; refine (CW.out).mono ?_; rintro e w2 ⟨rfl, rfl⟩)
      go_ret
      exact ⟨rfl, hb⟩
end Go.Proofs.Ytdhaaeaacbnghaa
