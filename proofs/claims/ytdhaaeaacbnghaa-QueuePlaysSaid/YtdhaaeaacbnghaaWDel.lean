/- slices.Delete of one item of the reference's list. -/
import Derived.Test.YtdhaaeaacbnghaaWaitM
import Derived.Test.YtdhaaeaacbnghaaRows
import Derived.Deep.RegionLaw
import Derived.Deep.LoopGhost
import Derived.Lib.Walk
namespace Go.Proofs.Ytdhaaeaacbnghaa.W
open Go.ChangeShapes Go.WideShapes Go.ChangeAt Go.RowKit Go.Mem Go.Qp
set_option linter.unusedVariables false
abbrev WT := Wt 116
def DelQ (w : World) (D : Nat) (v : Value) (M : List QItem) (k : Nat) (e : Ending) (w' : World) : Prop :=
  ∃ v', e = .returned v' ∧ WT w' D v' (M.take k ++ M.drop (k + 1)) ∧ w.grownBy w' v.ownBlock ∧ v'.ownBlock = v.ownBlock
set_option maxHeartbeats 4000000 in
set_option maxRecDepth 100000 in
theorem w_Delete (w : World) (D k : Nat) (v : Value) (M : List QItem) (hk : k < M.length) (hl : M.length ≤ 1000000) (hw : WT w D v M) :
    Calls Try.prog 86 #[v, .int .i64 k, .int .i64 ((k : Int) + 1)] w (DelQ w D v M k) := by
  obtain ⟨i0, hi0, hz0, hz1, hz2⟩ := info_parts (show (Try.prog.info? 116).map (fun i => (i.zero, i.size, i.bytes)) = some (some (.agg #[.int .i64 0, .int .i64 0]), 2, 16) by kernel_rfl)
  obtain ⟨gg, cap, rfl, hDg, ltg⟩ := hw.own.form (by omega)
  have ho := hw.own
  have hlc : M.length ≤ cap := by
    rcases ho.2 with ⟨h1, _⟩ | ⟨_, _, _, h1, _, _, h4, _⟩
    · cases h1
    · injection h1 with _ _ h6
      rw [h6]; exact h4
  have hcm : cap ≤ 9223372036854775807 := by
    rcases ho.2 with ⟨h1, _⟩ | ⟨_, _, _, h1, _, _, _, h5, _⟩
    · cases h1
    · injection h1 with _ _ h6
      rw [h6]; exact h5
  obtain ⟨news, hnews⟩ : ∃ news, news = cellsW (M.drop (k + 1)) := ⟨_, rfl⟩
  have hlen : news.length = (M.length - (k + 1)) * 2 := by rw [hnews, cellsW_length, List.length_drop]
  have hco : ∀ x ∈ M, x.v.oneCell' = true := fun x hx => by obtain ⟨z, hz⟩ := hw.vals x hx; rw [hz]; rfl
  obtain ⟨m, hm⟩ : ∃ m, m = M.length := ⟨_, rfl⟩
  rw [← hm] at hk hl ho hlc hlen
  have hget : ∀ t u, news[t]? = some u → (cellsW M)[(k + 1) * 2 + t]? = some u := by
    intro t u hu
    rw [hnews, ← cellsW_drop M (k + 1) (by omega), List.getElem?_drop] at hu
    exact hu
  obtain ⟨A, hA, hsrc⟩ : ∃ A : Addr, (if cap = k + 1 then some (⟨gg, 0, none⟩ : Addr) else some ⟨gg, (k + 1) * 2, none⟩) = some A ∧ Hid (∀ t u, news[t]? = some u → w.drew.cell? (A.add t) = some u) := by
    by_cases h : cap = k + 1
    · refine ⟨⟨gg, 0, none⟩, by simp [h], Lib.hid fun t u hu => ?_⟩
      have h0 : news.length = 0 := by rw [hlen]; omega
      rw [List.length_eq_zero_iff.1 h0] at hu
      simp at hu
    · refine ⟨⟨gg, (k + 1) * 2, none⟩, by simp [h], Lib.hid fun t u hu => ?_⟩
      have ht : t < news.length := (List.getElem?_eq_some_iff.1 hu).1
      rw [Addr.add_lit]
      show w.cell? _ = _
      rw [ho.cellAt _ (by rw [hlen] at ht; omega)]
      exact hget t u hu
  have s2 : Hid (∀ u ∈ news, u.oneCell' = true) := Lib.hid (by
    rw [hnews]
    exact cellsW_one _ fun x hx => hco x (List.mem_of_mem_drop hx))
  have s3 : Hid (∀ t, t < news.length → (w.drew.cell? ⟨gg, 0 + k * 2 + t, none⟩).isSome = true ∧ w.drew.frozen? ⟨gg, 0 + k * 2 + t, none⟩ = false) := Lib.hid (by
    intro t ht
    rw [hlen] at ht
    refine ⟨?_, ?_⟩
    · show (w.cell? _).isSome = true
      rw [ho.cellAt _ (by omega), List.getElem?_eq_getElem (by rw [cellsW_length, ← hm]; omega)]; rfl
    · exact ho.frozenAt _)
  obtain ⟨W1, hW1⟩ : ∃ W1, W1 = w.drew.setCells gg (0 + k * 2) news := ⟨_, rfl⟩
  have ho1 : W1.ownsRow D 116 2 (.slice (some ⟨gg, 0, none⟩) m cap) m (setL (cellsW M) (k * 2) news) := by
    rw [hW1, Nat.zero_add]
    exact own_setCells news _ _ _ ho.drew
  have hg1 : w.grownBy W1 (some gg) := by
    rw [hW1]
    exact gb_setCells news _ _ _ (show w.grownBy w.drew (some gg) from gb_drew (gb_refl w (some gg)))
  have hcl : ∀ ty, (Builtin.clear_ #[113] ty #[.slice (some ⟨gg, (k + (m - (k + 1))) * 2, none⟩) (m - (k + (m - (k + 1)))) (cap - (k + (m - (k + 1))))]).run Try.prog W1 = .ok (.tuple #[]) (W1.setCells gg ((k + (m - (k + 1))) * 2) [.int .i64 0, .int .i64 0]) := fun ty => by
    rw [show m - (k + (m - (k + 1))) = 1 by omega, show k + (m - (k + 1)) = m - 1 by omega]
    exact run_clear_one W1 _ _ ty (.agg #[.int .i64 0, .int .i64 0]) _ Try.underlying113 (fun w => by kernel_rfl) rfl (by simp [Value.oneCell']) gg _ _
      (fun j hj => by rw [ho1.cellAt _ (by simp at hj; omega), List.getElem?_eq_getElem (by simp at hj; rw [setL_length, cellsW_length, ← hm]; omega)]; rfl) (fun j _ => ho1.frozenAt _)
  have HW1 := Lib.hid hW1
  have HO1 := Lib.hid ho1
  have HG1 := Lib.hid hg1
  have HLEN : Hid (news.length = (m - (k + 1)) * 2) := hlen
  have HM := Lib.hid hm
  have HV := Lib.hid hw.vals
  have HN := Lib.hid hnews
  rw [← hm]
  have i1 : k ≤ cap := by omega
  have i2 : k + 1 ≤ cap := by omega
  have i3 : k + (m - (k + 1)) ≤ cap := by omega
  have i4 : k + (m - (k + 1)) ≤ m := by omega
  have i5 : (0 : Int) ≤ (k : Int) + 1 := by omega
  have i6 : (k : Int) + 1 ≤ (m : Int) := by omega
  clear hW1 ho1 hg1 hlen hm hw hnews hco ho hget
  go_enter Try.func86, Try.ntmps86
  go_wp2_with fail
  go_region_law (refine step_append_room rfl (.tmp 22) (.tmp 25) 113 rfl 116 i0 2 Try.underlying113 hi0 hz1 gg 0 k cap (by simp [Act.eval, Act.put]) A (m - (k + 1)) (cap - (k + 1)) news (by simp [Act.eval, Act.put]) HLEN.out hsrc.out s2.out (by omega) s3.out ?_; rw [← HW1.out])
  go_wp2
  go_ret
  have ho2 := own_setCells [.int .i64 0, .int .i64 0] _ ((m - 1) * 2) _ HO1.out
  have ho3 := own_take ho2 (Nat.sub_le m 1) (by omega)
  have hd := del_cells M k (by rw [← HM.out]; exact hk) [.int .i64 0, .int .i64 0] rfl
  rw [← HM.out, ← HN.out] at hd
  have hl2 : (M.take k ++ M.drop (k + 1)).length = m - 1 := by rw [List.length_append, List.length_take, List.length_drop, ← HM.out]; omega
  rw [show k + (m - (k + 1)) = m - 1 by omega]
  refine ⟨_, rfl, ⟨?_, fun x hx => HV.out x ?_⟩, gb_setCells _ _ _ _ HG1.out, rfl⟩
  · rw [hd] at ho3
    rw [hl2]; exact ho3
  · rcases List.mem_append.1 hx with hx | hx
    · exact List.mem_of_mem_take hx
    · exact List.mem_of_mem_drop hx
end Go.Proofs.Ytdhaaeaacbnghaa.W
