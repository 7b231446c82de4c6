/- Lemmas for the law TopSlotWorld: OpenS, WOpen, WFree, BinS, InsI. No conditions. -/
import Derived.Test.YtpilpkbblkhnaaaM21
import Derived.Test.YtpilpkbblkhnaaaM15
import Derived.Test.YtpilpkbblkhnaaaM18
import Derived.Test.YtpilpkbblkhnaaaM20
import Derived.Deep.DeepMust
import Derived.OwnWalk
import Derived.Test.YtpilpkbblkhnaaaM17
import Derived.Test.YtpilpkbblkhnaaaM06
import Derived.Test.YtpilpkbblkhnaaaM19
import Derived.Test.YtpilpkbblkhnaaaM11
import Derived.Deep.LoopGhost
import Derived.Test.YtpilpkbblkhnaaaM10
import Derived.Test.YtpilpkbblkhnaaaRows
import Derived.Test.YtpilpkbblkhnaaaM03
import Derived.Shelf.Spec.SlicesInsert
import Derived.Lib.AppendZerosOnto
import Derived.Laws.CopyRow
import Derived.Laws.NewBlocks
/- What is opened is small. -/
section
namespace Go.Proofs.Ytpilpkbblkhnaaa
open Go.ChangeShapes Go.WideShapes Go.ChangeAt Go.RowKit Go.Nm Go.Mem Go.Maps
set_option linter.unusedVariables false
end Go.Proofs.Ytpilpkbblkhnaaa
end
/- The reference's Open. -/
section
namespace Go.Proofs.Ytpilpkbblkhnaaa
open Go.ChangeShapes Go.WideShapes Go.ChangeAt Go.RowKit Go.Nm Go.Mem Go.Maps
set_option linter.unusedVariables false
theorem list5 {α : Type} {vs : List α} (h : vs.length = 5) : ∃ x0 x1 x2 x3 x4, vs = [x0, x1, x2, x3, x4] := by
  obtain ⟨x0, t0, rfl, h0⟩ := cons_of h
  obtain ⟨x1, t1, rfl, h1⟩ := cons_of h0
  obtain ⟨x2, t2, rfl, h2⟩ := cons_of h1
  obtain ⟨x3, t3, rfl, h3⟩ := cons_of h2
  obtain ⟨x4, t4, rfl, h4⟩ := cons_of h3
  exact ⟨x0, x1, x2, x3, x4, by rw [List.eq_nil_of_length_eq_zero h4]⟩
end Go.Proofs.Ytpilpkbblkhnaaa
end
/- world.Free. -/
section
namespace Go.Proofs.Ytpilpkbblkhnaaa
open Go.ChangeShapes Go.WideShapes Go.ChangeAt Go.RowKit Go.Nm Go.Mem
set_option linter.unusedVariables false
def usedI (l : List ItemV) (n : Nat) : Bool := l.any fun t => decide (t.n = (n : Int))
def freeP (y : WorldV) (i : Nat) : Bool := !usedI y.items i && decide (y.gens.getD i 0 < 1073741824)
def freeN (y : WorldV) : Nat := firstP (freeP y) y.gens.length
def freeOk (y : WorldV) : Bool := decide (freeN y < y.gens.length) || decide (y.gens.length < 256)
theorem usedI_snoc (l : List ItemV) (t : ItemV) (n : Nat) : usedI (l ++ [t]) n = (usedI l n || decide (t.n = (n : Int))) := by
  unfold usedI
  rw [List.any_append]
  simp
def F_free (WB ng cg : Nat) (ag : Option Addr) (BB : Bool) (jq : Nat) (v : Value) (w : World) : Prop :=
  match jq with
  | 0 => v = .pointer (some ⟨WB, 1, none⟩)
  | 1 => v = .slice ag ng cg
  | 2 => v = .int .i64 (ng : Int)
  | 3 => v = .pointer (some ⟨WB, 1, none⟩)
  | 4 => v = .slice ag ng cg
  | 5 => v = .int .i64 (ng : Int)
  | 6 => v = .bool BB
  | 7 => v = .int .i64 (ng : Int)
  | 8 => v = .bool BB
  | _ => True
theorem F_free_mono (WB ng cg : Nat) (ag : Option Addr) (BB : Bool) : Facts (F_free WB ng cg  ag  BB ) := ⟨by
  intro jq v w w' h hb
  unfold F_free at h ⊢
  split at h
  all_goals first
    | exact h
    | trivial⟩

set_option maxHeartbeats 4000000 in
set_option maxRecDepth 20000 in
theorem world_Free (y : WorldV) (v : Value) (W : World) (hv : WorldIn W v y) (hsm : SmallW y) :
    Calls Try.prog 30 #[v] W fun e w' => e = .returned (.tuple #[.int .i64 (freeN y), .bool (freeOk y)]) ∧ Below W.heap.size W w' := by
  obtain ⟨ak, ck, ag, cg, ai, ci, rfl, hzk, hzg, hzi, hk1, hk2⟩ := hv
  obtain ⟨s1, s2, s3, s4⟩ := hsm
  obtain ⟨nk, hnk⟩ : ∃ nk, nk = y.kinds.length := ⟨_, rfl⟩
  obtain ⟨ng, hng⟩ : ∃ ng, ng = y.gens.length := ⟨_, rfl⟩
  obtain ⟨ni, hni⟩ : ∃ ni, ni = y.items.length := ⟨_, rfl⟩
  rw [← hng] at s2
  rw [← hni] at s3
  rw [← hnk, ← hng, ← hni]
  obtain ⟨FN, hFN⟩ : ∃ FN, FN = freeN y := ⟨_, rfl⟩
  obtain ⟨FO, hFO⟩ : ∃ FO, FO = freeOk y := ⟨_, rfl⟩
  rw [← hFN, ← hFO]
  have ffo : FO = (decide (FN < ng) || decide (ng < 256)) := by rw [hFO, hFN, hng]; rfl
  have ffn : FN = firstP (freeP y) ng := by rw [hFN, hng]; rfl
  have HFO := Lib.hid ffo
  have HFN := Lib.hid ffn
  have hbA := (Below.refl W.heap.size W).alloc (Nat.le_refl _) (.cells #[.slice ak nk ck, .slice ag ng cg, .slice ai ni ci] 27 (0, 0))
  have hbx := heap_alloc_new W (.cells #[.slice ak nk ck, .slice ag ng cg, .slice ai ni ci] 27 (0, 0))
  have HBA := Lib.hid hbA
  have HBX := Lib.hid hbx
  have NG := Lib.hid hng
  have NI := Lib.hid hni
  have HZG := Lib.hid hzg
  have HZI := Lib.hid hzi
  clear hFN hFO ffo ffn hbA hbx hnk hng hni hzk hzg hzi hk1 hk2 s1 s4
  go_enter Try.func30, Try.ntmps30
  have e1 := cell_of_row _ _ 1 _ _ _ HBX.out
  have e2 := cell_of_row _ _ 2 _ _ _ HBX.out
  obtain ⟨w0, hw0⟩ : ∃ w0, w0 = W.alloc (.cells #[.slice ak nk ck, .slice ag ng cg, .slice ai ni ci] 27 (0, 0)) := ⟨_, rfl⟩
  go_wp2_with (at_make; refine wpList_make_bools rfl _ _ 112 rfl Try.underlying112 (by kernel_rfl) _ _ _ _ ng rfl rfl rfl rfl (by omega) (by unfold maxLen; omega) ?_; intro w1 hrow hb1 hsz1; have e2 : w1.cell? ⟨W.heap.size, 2, none⟩ = some (.slice ai ni ci) := (by rw [cell_of_row _ _ 2 _ _ _ (heap_below HBX.out hb1)]; rfl); have HROW := Lib.hid hrow; have HB1 := Lib.hid hb1; have HSZ := Lib.hid hsz1; clear hrow hb1 hsz1)
  obtain ⟨U, hU⟩ : ∃ U, U = (W.alloc (.cells #[.slice ak nk ck, .slice ag ng cg, .slice ai ni ci] 27 (0, 0))).heap.size := ⟨_, rfl⟩
  have hWU : W.heap.size < U := by rw [hU, World.size_alloc]; omega
  have HRW := HROW.out
  have HRB := Lib.hid (heap_below HBX.out HB1.out)
  have HBW := Lib.hid (bt HBA.out HB1.out)
  rw [World.size_alloc] at hU
  rw [World.size_alloc, ← hU] at HRW
  rw [← hU]
  have HROWU := Lib.hid HRW
  clear HRW HROW HB1 HSZ hU e1 e2 HBX HBA hw0 w0
  go_loopg [16, 6] ni (fun gk v16 _ wx => ∃ i : Nat, i ≤ ni ∧ gk = ni - i ∧ v16 = .int .i64 i ∧ BoolRow wx U ng (usedI (y.items.take i)) ∧ w1.grownBy wx (some U))
  case atStart => exact ⟨0, Nat.zero_le _, rfl, rfl, HROWU.out.congr (fun j _ => rfl), World.grownBy.refl _ _⟩
  case round =>
    obtain ⟨i, i1, i2, rfl, hrow, hg⟩ := hrel
    have I2 := Lib.hid i2
    have HROW := Lib.hid hrow
    have HG := Lib.hid hg
    have HBR := Lib.hid (HBW.out.grown hg HBW.out.size (fun r h => by injection h with h; omega))
    have HRBR := Lib.hid ((hg.block _ (lt_of_heap HRB.out) (fun e => by injection e with e; omega)).trans HRB.out)
    clear i2 hrow hg
    by_cases hi : i < ni
    · obtain ⟨x, rfl, _, _⟩ := HZI.out (by rw [← NI.out]; omega)
      obtain ⟨xb, xo, rfl, av, cv, hcl, _⟩ := item_cells (HZI.out.below ItemAt.abides HBR.out) i (by rw [← NI.out]; exact hi)
      obtain ⟨it, hitd⟩ : ∃ it, it = y.items[i]'(by rw [← NI.out]; exact hi) := ⟨_, rfl⟩
      have htk : y.items.take (i + 1) = y.items.take i ++ [it] := by rw [hitd, List.take_add_one, List.getElem?_eq_getElem (by rw [← NI.out]; exact hi)]; rfl
      rw [← hitd] at hcl
      obtain ⟨nv, hnv⟩ : ∃ nv, nv = it.comps.length := ⟨_, rfl⟩
      obtain ⟨kn, hkn⟩ : ∃ kn, kn = it.n := ⟨_, rfl⟩
      obtain ⟨kg, hkg⟩ : ∃ kg, kg = it.gen := ⟨_, rfl⟩
      rw [← hkn, ← hkg, ← hnv] at hcl
      have e0 := hcl.at 0 (by simp)
      have e1 := hcl.at 1 (by simp)
      have e2 := hcl.at 2 (by simp)
      simp only [List.getElem_cons_zero, List.getElem_cons_succ, Nat.add_zero] at e0 e1 e2
      have hro := new_row wr #[.int .i64 kn, .int .i64 kg, .slice av nv cv] 33
      have q0 := hro.at 0 (by simp)
      simp only [List.getElem_cons_zero, Nat.zero_add] at q0
      have hbA : Below wr.heap.size wr (wr.alloc (.cells #[.int .i64 kn, .int .i64 kg, .slice av nv cv] 33 (0, 0))) := (Below.refl _ _).alloc (Nat.le_refl _) _
      have HGA := Lib.hid ((HG.out).trans (below_gn hbA (some U)))
      have HRA := Lib.hid (HROW.out.below hbA)
      have HTK := Lib.hid htk
      have HKN := Lib.hid hkn
      clear hcl hro hbA hitd htk hkg hnv hkn
      by_cases hA : kn < 0
      · have HNX := Lib.hid (show ∀ j, j < ng → usedI (y.items.take (i + 1)) j = usedI (y.items.take i) j from fun j _ => by rw [HTK.out, usedI_snoc, ← HKN.out, decide_eq_false (by omega), Bool.or_false])
        go_wp2
        go_roundg (ni - (i + 1))
        case measure => rw [I2.out]; omega
        case rel => exact ⟨i + 1, hi, rfl, by go_num, HRA.out.congr HNX.out, HGA.out⟩
      · by_cases hB : kn < ng
        · obtain ⟨q, rfl⟩ : ∃ q : Nat, kn = (q : Int) := ⟨kn.toNat, by omega⟩
          have hq : q < ng := by omega
          have c0 := HRA.out.cell q hq
          have f0 := HRA.out.free q
          have HNX := Lib.hid (show ∀ j, j < ng → usedI (y.items.take (i + 1)) j = if j = q then true else usedI (y.items.take i) j from fun j _ => by
            rw [HTK.out, usedI_snoc, ← HKN.out]
            by_cases e : j = q
            · subst e; rw [if_pos rfl, decide_eq_true rfl, Bool.or_true]
            · rw [if_neg e, decide_eq_false (by omega), Bool.or_false])
          have HRN := Lib.hid (HRA.out.set q hq true HNX.out)
          have HGN := Lib.hid (HGA.out.trans (gb_set (World.grownBy.refl _ _) q (.bool true)))
          go_wp2
          go_roundg (ni - (i + 1))
          case measure => rw [I2.out]; omega
          case rel => exact ⟨i + 1, hi, rfl, by go_num, HRN.out, HGN.out⟩
        · have HNX := Lib.hid (show ∀ j, j < ng → usedI (y.items.take (i + 1)) j = usedI (y.items.take i) j from fun j hj => by rw [HTK.out, usedI_snoc, ← HKN.out, decide_eq_false (by omega), Bool.or_false])
          go_wp2
          go_roundg (ni - (i + 1))
          case measure => rw [I2.out]; omega
          case rel => exact ⟨i + 1, hi, rfl, by go_num, HRA.out.congr HNX.out, HGA.out⟩
    · obtain rfl : ni = i := by omega
      have HRF := Lib.hid (show BoolRow wr U ng (usedI y.items) by have h := HROW.out; rw [List.take_of_length_le (by rw [← NI.out]; exact Nat.le_refl _)] at h; exact h)
      have e1 := cell_of_row _ _ 1 _ _ _ HRBR.out
      obtain ⟨W2, hW2⟩ : ∃ W2, W2 = wr := ⟨_, rfl⟩
      subst hW2
      clear HROW I2
      go_wp2_with fail
      go_loopg [41, 7, 8] ng (fun gk v41 _ _ wx => ∃ i : Nat, i ≤ ng ∧ gk = ng - i ∧ v41 = .int .i64 i ∧ (∀ j, j < i → freeP y j = false) ∧ wx = W2)
      case atStart => exact ⟨0, Nat.zero_le _, rfl, rfl, fun j h => absurd h (by omega), rfl⟩
      case round =>
        obtain ⟨i, i1, i2, rfl, hat, rfl⟩ := hrel
        have I2 := Lib.hid i2
        have HAT := Lib.hid hat
        clear i2 hat
        by_cases hi : i < ng
        · obtain ⟨x, rfl, _, _⟩ := HZG.out (by rw [← NG.out]; omega)
          obtain ⟨xb, xo, rfl, hgc⟩ := ints_cell (HZG.out.below HBR.out) i (by rw [← NG.out]; exact hi)
          rw [Nat.mul_one] at hgc
          obtain ⟨g, hgv⟩ : ∃ g, g = y.gens.getD i 0 := ⟨_, rfl⟩
          rw [← hgv] at hgc
          have c0 := HRF.out.cell i hi
          obtain ⟨UB, hUB⟩ : ∃ b, b = usedI y.items i := ⟨_, rfl⟩
          rw [← hUB] at c0
          have HP := Lib.hid (show freeP y i = (!UB && decide (g < 1073741824)) by unfold freeP; rw [hUB, hgv])
          have HNX := Lib.hid (fun (h : freeP y i = false) => show ∀ j, j < i + 1 → freeP y j = false from fun j hj => by
            by_cases e : j < i
            · exact HAT.out j e
            · obtain rfl : j = i := by omega
              exact h)
          clear hgv hUB
          cases UB with
          | true =>
            have HN2 := Lib.hid (HNX.out (by rw [HP.out]; rfl))
            go_wp2
            go_roundg (ng - (i + 1))
            case measure => rw [I2.out]; omega
            case rel => exact ⟨i + 1, hi, rfl, by go_num, HN2.out, rfl⟩
          | false =>
            by_cases hlt : g < 1073741824
            · have HR1 := Lib.hid (show FN = i by rw [HFN.out]; exact firstP_at HAT.out (by rw [HP.out, decide_eq_true hlt]; rfl) hi)
              have HR2 := Lib.hid (show FO = true by rw [HFO.out, HR1.out, decide_eq_true hi, Bool.true_or])
              go_wp2
              go_ret2
              exact ⟨by rw [HR1.out, HR2.out]; rfl, HBR.out⟩
            · have HN2 := Lib.hid (HNX.out (by rw [HP.out, decide_eq_false hlt]; rfl))
              go_wp2
              go_roundg (ng - (i + 1))
              case measure => rw [I2.out]; omega
              case rel => exact ⟨i + 1, hi, rfl, by go_num, HN2.out, rfl⟩
        · obtain rfl : ng = i := by omega
          have HR1 := Lib.hid (show FN = ng by rw [HFN.out]; exact firstP_none HAT.out)
          obtain ⟨BB, hBB⟩ : ∃ b, b = decide ((ng : Int) < 256) := ⟨_, rfl⟩
          have HBB := Lib.hid hBB.symm
          have HR2 := Lib.hid (show FO = BB by
            rw [HFO.out, HR1.out, decide_eq_false (Nat.lt_irrefl _), Bool.false_or, hBB]
            by_cases h : ng < 256
            · rw [decide_eq_true h, decide_eq_true (by omega)]
            · rw [decide_eq_false h, decide_eq_false (by omega)])
          have E1 := Lib.hid e1
          clear hBB e1
          go_wp2_with fail
          refine wp_region_facts_t rfl 9 (by kernel_rfl) (F_free W.heap.size ng cg ag BB) (F_free_mono W.heap.size ng cg ag BB) ?_ ?_
          · refine ⟨?_, ?_, ?_, ?_, ?_, ?_, ?_, ?_, ?_, trivial⟩
            · intro vs w' F hb hd hF hl hT
              have e := (hF 1).trans (look_out _ 1 _ _ (by kernel_rfl))
              exact one_field _ _ _ rfl rfl _ _ e (1) (fun w => by kernel_rfl) ⟨_, rfl, Below.refl _ _, rfl⟩
            · intro vs w' F hb hd hF hl hT
              have e := ((hF 57).trans (look_at _ 57 0 _ _ (by kernel_rfl) (by kernel_rfl) hl)).trans (dep_of (Fact := F_free W.heap.size ng cg ag BB) hd 0 (by kernel_rfl))
              exact one_load _ _ rfl rfl _ _ e (cell_abides E1.out hb) (by kernel_rfl) ⟨_, rfl, Below.refl _ _, rfl⟩
            · intro vs w' F hb hd hF hl hT
              have e := ((hF 58).trans (look_at _ 58 1 _ _ (by kernel_rfl) (by kernel_rfl) hl)).trans (dep_of (Fact := F_free W.heap.size ng cg ag BB) hd 1 (by kernel_rfl))
              exact rg_len _ 22 3 rfl rfl Try.underlying22 ag (ng) (cg) e ⟨_, rfl, Below.refl _ _, rfl⟩
            · intro vs w' F hb hd hF hl hT
              have e := (hF 1).trans (look_out _ 1 _ _ (by kernel_rfl))
              exact one_field _ _ _ rfl rfl _ _ e (1) (fun w => by kernel_rfl) ⟨_, rfl, Below.refl _ _, rfl⟩
            · intro vs w' F hb hd hF hl hT
              have e := ((hF 60).trans (look_at _ 60 3 _ _ (by kernel_rfl) (by kernel_rfl) hl)).trans (dep_of (Fact := F_free W.heap.size ng cg ag BB) hd 3 (by kernel_rfl))
              exact one_load _ _ rfl rfl _ _ e (cell_abides E1.out hb) (by kernel_rfl) ⟨_, rfl, Below.refl _ _, rfl⟩
            · intro vs w' F hb hd hF hl hT
              have e := ((hF 61).trans (look_at _ 61 4 _ _ (by kernel_rfl) (by kernel_rfl) hl)).trans (dep_of (Fact := F_free W.heap.size ng cg ag BB) hd 4 (by kernel_rfl))
              exact rg_len _ 22 3 rfl rfl Try.underlying22 ag (ng) (cg) e ⟨_, rfl, Below.refl _ _, rfl⟩
            · intro vs w' F hb hd hF hl hT
              have e1 := ((hF 62).trans (look_at _ 62 5 _ _ (by kernel_rfl) (by kernel_rfl) hl)).trans (dep_of (Fact := F_free W.heap.size ng cg ag BB) hd 5 (by kernel_rfl))
              exact rg_lss _ _ _ _ rfl rfl .i64 ((ng : Int)) (256) BB e1 rfl (HBB.out) ⟨_, rfl, Below.refl _ _, rfl⟩
            · intro vs w' F hb hd hF hl hT
              have e := ((hF 59).trans (look_at _ 59 2 _ _ (by kernel_rfl) (by kernel_rfl) hl)).trans (dep_of (Fact := F_free W.heap.size ng cg ag BB) hd 2 (by kernel_rfl))
              exact one_move _ rfl (by first | exact Or.inl rfl | exact Or.inr rfl) ⟨_, rfl, Below.refl _ _, e⟩
            · intro vs w' F hb hd hF hl hT
              have e := ((hF 63).trans (look_at _ 63 6 _ _ (by kernel_rfl) (by kernel_rfl) hl)).trans (dep_of (Fact := F_free W.heap.size ng cg ag BB) hd 6 (by kernel_rfl))
              exact one_move _ rfl (by first | exact Or.inl rfl | exact Or.inr rfl) ⟨_, rfl, Below.refl _ _, e⟩
          · intro vs8 W8 hl hb hI
            have i7 : vs8.getD 7 undef = .int .i64 (ng : Int) := hI 7 (by omega)
            have i8 : vs8.getD 8 undef = .bool BB := hI 8 (by omega)
            obtain ⟨x0, x1, x2, x3, x4, x5, x6, x7, x8, hvs⟩ := list9 hl
            subst hvs
            replace i7 : x7 = .int .i64 (ng : Int) := i7
            replace i8 : x8 = .bool BB := i8
            subst i7 i8
            have HBE := Lib.hid (bt HBR.out hb)
            clear hI hl hb
            simp only [fillAll, Act.put, List.setIfInBounds_toArray, List.set_cons_succ, List.set_cons_zero]
            show wpList _ _ _ [] _ _
            go_wp2
            go_ret2
            exact ⟨by rw [HR1.out, HR2.out]; rfl, HBE.out⟩
end Go.Proofs.Ytpilpkbblkhnaaa
end
/- slices.BinarySearchFunc at items, by their slots. -/
section
namespace Go.Proofs.Ytpilpkbblkhnaaa
open Go.ChangeShapes Go.WideShapes Go.ChangeAt Go.RowKit Go.Nm Go.Mem
set_option linter.unusedVariables false
set_option maxHeartbeats 1000000 in
theorem clos_slot (k g t : Int) (a : Option Addr) (n c : Nat) (W : World) : Calls Try.prog 33 #[.agg #[.int .i64 k, .int .i64 g, .slice a n c], .int .i64 t] W fun e w' => e = .returned (.int .i64 (cmpI k t)) ∧ Below W.heap.size W w' := by
  have HC := Lib.hid (fun W' => cmp_ints k t W')
  have hb0 := (Below.refl W.heap.size W).alloc (Nat.le_refl _) (.cells #[.int .i64 k, .int .i64 g, .slice a n c] 33)
  have HB0 := Lib.hid hb0
  obtain ⟨R, hR⟩ : ∃ R, R = cmpI k t := ⟨_, rfl⟩
  rw [← hR] at HC ⊢
  clear hR hb0
  go_enter Try.func33, Try.ntmps33
  go_wp2_with fail
  refine (HC.out _).mono ?_
  rintro e w' ⟨rfl, rfl⟩
  go_wp2
  go_ret
  exact ⟨rfl, HB0.out⟩
theorem cmpI_lt (x y : Int) : decide (cmpI x y < 0) = decide (x < y) := by
  unfold cmpI
  by_cases h1 : x < y
  · simp [h1]
  · by_cases h2 : y < x <;> simp [h1, h2]
theorem cmpI_eq (x y : Int) : (cmpI x y == 0) = decide (x = y) := by
  unfold cmpI
  by_cases h1 : x < y
  · have : x ≠ y := by omega
    simp [h1, this]
  · by_cases h2 : y < x
    · have : x ≠ y := by omega
      simp [h1, h2, this]
    · have : x = y := by omega
      simp [this]
set_option maxHeartbeats 4000000 in
theorem bin_items (l : List ItemV) (a : Option Addr) (n cap : Nat) (t : Int) (hn : l.length = n) (h1 : n ≤ 1048576) (hs : l.Pairwise (fun x y => x.n < y.n)) (W : World) (hz : SlAt 3 ItemAt W a l) :
    Calls Try.prog 32 #[.slice a n cap, .int .i64 t, .func (.func 33) #[] #[]] W fun e w' => (∃ (i : Nat) (f : Bool), i ≤ n ∧ e = .returned (.tuple #[.int .i64 i, .bool f]) ∧ (∀ j (h : j < l.length), j < i → l[j].n < t) ∧ (∀ j (h : j < l.length), i ≤ j → t ≤ l[j].n) ∧ f = decide (∃ h : i < l.length, l[i].n = t)) ∧ Below W.heap.size W w' := by
  have HN := Lib.hid hn
  have HS := Lib.hid hs
  have HZ := Lib.hid hz
  clear hn hs hz
  go_enter Try.func32, Try.ntmps32
  go_wp2_with fail
  go_loopg [9, 10, 11] n (fun gk v9 v10 _ wx => ∃ lo hi : Nat, lo ≤ hi ∧ hi ≤ n ∧ gk = hi - lo ∧ v9 = .int .i64 lo ∧ v10 = .int .i64 hi ∧ (∀ j (h : j < l.length), j < lo → l[j].n < t) ∧ (∀ j (h : j < l.length), hi ≤ j → t ≤ l[j].n) ∧ Below W.heap.size W wx)
  case atStart => exact ⟨0, n, Nat.zero_le _, Nat.le_refl _, rfl, rfl, rfl, fun j h h2 => absurd h2 (by omega), fun j h h2 => absurd h2 (by rw [HN.out] at h; omega), Below.refl _ _⟩
  case round =>
    obtain ⟨lo, hi, h2, h3, g2, rfl, rfl, hlo, hhi, hb⟩ := hrel
    have G2 := Lib.hid g2
    have HLO := Lib.hid hlo
    have HHI := Lib.hid hhi
    have HB := Lib.hid hb
    clear g2 hlo hhi hb
    by_cases hlt : lo < hi
    · have hMl : lo ≤ (lo + hi) / 2 ∧ (lo + hi) / 2 < hi := by omega
      obtain ⟨x, rfl, _, _⟩ := HZ.out (by rw [HN.out]; omega)
      obtain ⟨xb, xo, rfl, av, cv, hcl, _⟩ := item_cells (HZ.out.below ItemAt.abides HB.out) ((lo + hi) / 2) (by rw [HN.out]; omega)
      obtain ⟨it, hit⟩ : ∃ it, it = l[(lo + hi) / 2]'(by rw [HN.out]; omega) := ⟨_, rfl⟩
      rw [← hit] at hcl
      obtain ⟨kn, hkn⟩ : ∃ k, k = it.n := ⟨_, rfl⟩
      obtain ⟨kg, hkg⟩ : ∃ k, k = it.gen := ⟨_, rfl⟩
      obtain ⟨nv, hnv⟩ : ∃ k, k = it.comps.length := ⟨_, rfl⟩
      rw [← hkn, ← hkg, ← hnv] at hcl
      have e0 := hcl.at 0 (by simp)
      have e1 := hcl.at 1 (by simp)
      have e2 := hcl.at 2 (by simp)
      simp only [List.getElem_cons_zero, List.getElem_cons_succ, Nat.add_zero] at e0 e1 e2
      have HIT := Lib.hid (show kn = (l[(lo + hi) / 2]'(by rw [HN.out]; omega)).n by rw [hkn, hit])
      have HCL := Lib.hid (clos_slot kn kg t av nv cv wr)
      have HMC := Lib.hid (show ((lo : Int) + hi) / 2 = (((lo + hi) / 2 : Nat) : Int) by omega)
      have hlt2 := cmpI_lt kn t
      obtain ⟨R, hR⟩ : ∃ R, R = cmpI kn t := ⟨_, rfl⟩
      rw [← hR] at HCL hlt2
      have HLT := Lib.hid hlt2
      clear hcl hit hkn hkg hnv hR hlt2
      go_wp2_with fail
      refine HCL.out.mono ?_
      rintro e w1 ⟨rfl, hb1⟩
      have HB1 := Lib.hid (bt HB.out hb1)
      clear hb1 HCL e0 e1 e2
      by_cases hR : R < 0
      · have hk : kn < t := of_decide_eq_true (by rw [← HLT.out]; exact decide_eq_true hR)
        have HN2 := Lib.hid (show ∀ j (h : j < l.length), j < (lo + hi) / 2 + 1 → l[j].n < t from fun j h hj => by
          by_cases e : j = (lo + hi) / 2
          · subst e; rw [← HIT.out]; exact hk
          · have := List.pairwise_iff_getElem.1 HS.out j ((lo + hi) / 2) h (by rw [HN.out]; omega) (by omega)
            rw [← HIT.out] at this
            omega)
        clear hk
        go_wp2
        go_roundg (hi - ((lo + hi) / 2 + 1))
        case measure => rw [G2.out]; omega
        case rel => exact ⟨(lo + hi) / 2 + 1, hi, by omega, h3, rfl, by rw [HMC.out]; go_num, rfl, HN2.out, HHI.out, HB1.out⟩
      · have hk : ¬ kn < t := of_decide_eq_false (by rw [← HLT.out]; exact decide_eq_false hR)
        have HN2 := Lib.hid (show ∀ j (h : j < l.length), (lo + hi) / 2 ≤ j → t ≤ l[j].n from fun j h hj => by
          by_cases e : j = (lo + hi) / 2
          · subst e; rw [← HIT.out]; omega
          · have := List.pairwise_iff_getElem.1 HS.out ((lo + hi) / 2) j (by rw [HN.out]; omega) h (by omega)
            rw [← HIT.out] at this
            omega)
        clear hk
        go_wp2
        go_roundg ((lo + hi) / 2 - lo)
        case measure => rw [G2.out]; omega
        case rel => exact ⟨lo, (lo + hi) / 2, by omega, by omega, rfl, rfl, by rw [HMC.out], HLO.out, HN2.out, HB1.out⟩
    · obtain rfl : hi = lo := by omega
      by_cases hin : hi < n
      · obtain ⟨x, rfl, _, _⟩ := HZ.out (by rw [HN.out]; omega)
        obtain ⟨xb, xo, rfl, av, cv, hcl, _⟩ := item_cells (HZ.out.below ItemAt.abides HB.out) hi (by rw [HN.out]; omega)
        obtain ⟨it, hit⟩ : ∃ it, it = l[hi]'(by rw [HN.out]; omega) := ⟨_, rfl⟩
        rw [← hit] at hcl
        obtain ⟨kn, hkn⟩ : ∃ k, k = it.n := ⟨_, rfl⟩
        obtain ⟨kg, hkg⟩ : ∃ k, k = it.gen := ⟨_, rfl⟩
        obtain ⟨nv, hnv⟩ : ∃ k, k = it.comps.length := ⟨_, rfl⟩
        rw [← hkn, ← hkg, ← hnv] at hcl
        have e0 := hcl.at 0 (by simp)
        have e1 := hcl.at 1 (by simp)
        have e2 := hcl.at 2 (by simp)
        simp only [List.getElem_cons_zero, List.getElem_cons_succ, Nat.add_zero] at e0 e1 e2
        have HIT := Lib.hid (show kn = (l[hi]'(by rw [HN.out]; omega)).n by rw [hkn, hit])
        have HCL := Lib.hid (clos_slot kn kg t av nv cv wr)
        have heq2 := cmpI_eq kn t
        obtain ⟨R, hR⟩ : ∃ R, R = cmpI kn t := ⟨_, rfl⟩
        rw [← hR] at HCL heq2
        have HEQ := Lib.hid heq2
        clear hcl hit hkn hkg hnv hR heq2
        go_wp2_with fail
        refine HCL.out.mono ?_
        rintro e w1 ⟨rfl, hb1⟩
        have HB1 := Lib.hid (bt HB.out hb1)
        clear hb1 HCL e0 e1 e2
        obtain ⟨F, hF⟩ : ∃ F, F = (R == 0) := ⟨_, rfl⟩
        have hF2 := hF.symm
        have HFE := Lib.hid (show F = decide (∃ h : hi < l.length, l[hi].n = t) by
          rw [hF, HEQ.out]
          by_cases e : kn = t
          · rw [decide_eq_true e, decide_eq_true ⟨by rw [HN.out]; exact hin, by rw [← HIT.out]; exact e⟩]
          · rw [decide_eq_false e, decide_eq_false (fun ⟨_, h⟩ => e (by rw [HIT.out]; exact h))])
        clear hF
        go_wp2
        go_ret2
        exact ⟨⟨hi, F, h3, by simp, HLO.out, HHI.out, HFE.out⟩, HB1.out⟩
      · have HFE := Lib.hid (show false = decide (∃ h : hi < l.length, l[hi].n = t) from (decide_eq_false (fun ⟨h, _⟩ => hin (by rw [HN.out] at h; exact h))).symm)
        go_wp2
        go_ret2
        exact ⟨⟨hi, false, h3, rfl, HLO.out, HHI.out, HFE.out⟩, HB.out⟩
end Go.Proofs.Ytpilpkbblkhnaaa
end
/- slices.Insert of one item into a full slice of items. -/
section
namespace Go.Proofs.Ytpilpkbblkhnaaa
open Go.ChangeShapes Go.WideShapes Go.ChangeAt Go.RowKit Go.Mem Go.Lib Go.Shelf
set_option linter.unusedVariables false
set_option linter.unusedSimpArgs false
theorem run_copy_rowK {P : Program} (w : World) (dT sT ty elem : TypeId) (k : Nat) (g o dLen dCap : Nat) (a : Addr) (sLen sCap m : Nat) (cur : Array Value) (t : TypeId) (cs : List Value)
    (hu : P.underlying dT = some (.slice elem)) (hs : (P.info? elem).map (·.size) = some k)
    (hg : w.heap[g]? = some (.cells cur t (0, 0))) (hm : m = Nat.min sLen dLen) (hn : cs.length = m * k)
    (hsrc : ∀ j v, cs[j]? = some v → w.cell? (a.add j) = some v) (hfit : o + cs.length ≤ cur.size) (h1 : ∀ v ∈ cs, v.oneCell' = true) :
    (Builtin.copy_ #[dT, sT] ty #[.slice (some ⟨g, o, none⟩) dLen dCap, .slice (some a) sLen sCap]).run P w =
      .ok (goInt m) (w.setRow g (cur.toList.take o ++ cs ++ cur.toList.drop (o + cs.length)).toArray) := by
  have hl := run_loadCells_list (P := P) w a cs hsrc
  have hst := run_storeCells_at P g o t cs 0 cur w hg (by simpa using hfit) h1
  cases hq : P.info? elem with
  | none => simp [hq] at hs
  | some i =>
    have hi : i.size = k := by simpa [hq] using hs
    rw [hn] at hl
    rw [Nat.add_zero] at hst
    simp [Builtin.copy_, run_underlying hu, Builtin.lenOf, Builtin.firstCells, sizeOf, typeInfo, hq, hi, ← hm, hl, hst]
theorem splice_take {α : Type} (cs vs zs : List α) (p q : Nat) (hp : p ≤ cs.length) (hv : vs.length = q) (hz : cs.length - p + q ≤ zs.length) :
    ((((cs.take p ++ zs).take p ++ vs ++ (cs.take p ++ zs).drop (p + q)).take (p + q) ++ cs.drop p ++ ((cs.take p ++ zs).take p ++ vs ++ (cs.take p ++ zs).drop (p + q)).drop (p + q + (cs.drop p).length)).take (cs.length + q)) = cs.take p ++ vs ++ cs.drop p := by
  have e1 : (cs.take p).length = p := by rw [List.length_take]; omega
  have e2 : (cs.take p ++ zs).take p = cs.take p := by
    rw [List.take_append_of_le_length (by omega), List.take_of_length_le (by omega)]
  rw [e2]
  have e3 : (cs.take p ++ vs ++ (cs.take p ++ zs).drop (p + q)).take (p + q) = cs.take p ++ vs := by
    rw [List.take_append_of_le_length (by rw [List.length_append]; omega), List.take_of_length_le (by rw [List.length_append]; omega)]
  rw [e3, List.take_append_of_le_length (by simp only [List.length_append, List.length_drop]; omega), List.take_of_length_le (by simp only [List.length_append, List.length_drop]; omega)]
set_option maxHeartbeats 8000000 in
set_option maxRecDepth 100000 in
theorem ins_items (cs vs : List Value) (b n i vb : Nat) (W : World) (hown : W.ownsRow b 33 3 (.slice (some ⟨b, 0, none⟩) n n) n cs) (hin : i ≤ n) (hn : n ≤ 1048576) (hvl : vs.length = 3) (hvs : ∀ j v, vs[j]? = some v → W.cell? ⟨vb, j, none⟩ = some v) (h1c : ∀ v ∈ cs, v.oneCell' = true) (h1v : ∀ v ∈ vs, v.oneCell' = true) :
    Calls Try.prog 35 #[.slice (some ⟨b, 0, none⟩) n n, .int .i64 i, .slice (some ⟨vb, 0, none⟩) 1 1] W fun e w' => ∃ v', e = .returned v' ∧ w'.ownsRow b 33 3 v' (n + 1) (cs.take (i * 3) ++ vs ++ cs.drop (i * 3)) ∧ W.grownBy w' (some b) := by
  have hcl : cs.length = n * 3 := hown.1
  have hcs : ∀ j v, cs[j]? = some v → W.cell? ⟨b, j, none⟩ = some v := fun j v hj => by
    have hj2 : j < n * 3 := by rw [← hcl]; exact (List.getElem?_eq_some_iff.1 hj).1
    rw [hown.cellAt j hj2]; exact hj
  have hbl : b < W.heap.size := by
    rcases hown.2 with ⟨h, _⟩ | ⟨g, cap, cur, h, _, hh, _⟩
    · cases h
    · injection h with h _ _
      injection h with h
      injection h with h
      rw [h]; exact lt_of_heap hh
  have hvw : vb < W.heap.size := block_lt_of_cell (hvs 0 _ (List.getElem?_eq_getElem (by omega)))
  obtain ⟨i0, hi0, hz0, hzs, hzb⟩ := info_parts (show (Try.prog.info? 33).map (fun i => (i.zero, i.size, i.bytes)) = some (some (.agg #[.int .i64 0, .int .i64 0, .slice none 0 0]), 3, 40) by kernel_rfl)
  have hsz : (Try.prog.info? 33).map (·.size) = some 3 := by rw [hi0]; simp [hzs]
  by_cases hie : i = n
  · subst hie
    have HE := Lib.hid (show cs.take (i * 3) ++ vs ++ cs.drop (i * 3) = cs ++ vs by rw [List.take_of_length_le (by omega), List.drop_of_length_le (by omega), List.append_nil])
    have hca : CellsAt W (some ⟨vb, 0, none⟩) vs := fun _ => ⟨_, rfl, hvw, fun j u hj => by rw [add_zero_block]; exact hvs j u hj⟩
    rw [HE.out]
    clear hcs hcl hi0 hz0 hzs hzb hsz hvs h1c
    go_enter Try.func35, Try.ntmps35
    go_wp2_with (at_builtin; go_must (refine wpList_append_cells rfl _ _ 25 rfl b 33 (.agg #[.int .i64 0, .int .i64 0, .slice none 0 0]) 3 40 Try.underlying25 (by kernel_rfl) rfl (by decide) _ i cs rfl hown (some ⟨vb, 0, none⟩) 1 1 vs rfl (by omega) hca h1v (by unfold maxLen; omega) (by omega) (by omega) ?_); intro v3 w3 hown3 hg3 hat3; have HO3 := Lib.hid hown3; have HG3 := Lib.hid hg3; clear hown3 hg3 hat3)
    go_ret
    exact ⟨_, rfl, HO3.out, HG3.out⟩
  · have hlt : i < n := by omega
    have hz1 : ¬ ((i : Int) = (n : Int)) := by omega
    have hz3 : (n : Int) < (n : Int) + 1 := by omega
    have hkk : (n : Int) + 1 - (i : Int) = ((n + 1 - i : Nat) : Int) := by omega
    have hik : i + (n + 1 - i) = n + 1 := by omega
    have hold : (Builtin.firstCells i0.size i (.slice (some ⟨b, 0, none⟩) i n)).run Try.prog W.drew = .ok (cs.take (i * 3)).toArray W.drew := by
      rw [hzs]
      exact run_firstCells_some W.drew 3 i ⟨b, 0, none⟩ i n (cs.take (i * 3)) (by rw [List.length_take]; omega) (fun j v hj => by
        rw [add_zero_block]
        rw [List.getElem?_take] at hj
        split at hj
        · exact hcs j v hj
        · cases hj)
    obtain ⟨G, hG⟩ : ∃ G, G = grownCap W (n + 1) n 33 := ⟨_, rfl⟩
    obtain ⟨Z, hZ⟩ : ∃ Z : List Value, Z = (Builtin.zeroCells (Value.agg #[.int .i64 0, .int .i64 0, .slice none 0 0]).cells (n + 1 - i)).toList ++ (Builtin.zeroCells (Value.agg #[.int .i64 0, .int .i64 0, .slice none 0 0]).cells (G - (n + 1))).toList := ⟨_, rfl⟩
    obtain ⟨ROW, hROW⟩ : ∃ ROW : Array Value, ROW = (cs.take (i * 3) ++ Z).toArray := ⟨_, rfl⟩
    have hrz : ∀ ty, (Builtin.append_ #[25, 3] ty #[.slice (some ⟨b, 0, none⟩) i n, .int .i64 ((n : Int) + 1 - (i : Int))]).run Try.prog W = .ok (.slice (some ⟨W.heap.size, 0, none⟩) (n + 1) G) (W.drew.alloc (.cells ROW 33)) := fun ty => by
      have h := Lib.run_append_grow_zeros W 25 3 ty 33 i0 _ .i64 .i64 Try.underlying25 Try.underlying3 hi0 hz0 (some ⟨b, 0, none⟩) i n (cs.take (i * 3)) hold (n + 1 - i) (by omega) (by omega) (by omega) (by omega) (by rw [hzb]; omega) (by rw [hzb, hik]; exact growslice_fits (by omega) (by omega))
      rw [hik, ← hG] at h
      rw [hkk, h, hROW, hZ]
      congr 3
      apply Array.toList_inj.1
      simp [List.append_assoc]
    have hGn : n + 1 ≤ G := by rw [hG]; exact grownCap_ge W _ _ _
    have hG63 : G ≤ 9223372036854775807 := by
      have := grownCap_le_maxLen W (n + 1) n 33 (by unfold maxLen; omega)
      rw [← hG] at this
      unfold maxLen at this
      omega
    have hZl : Z.length = (G - i) * 3 := by
      rw [hZ]
      simp [Builtin.zeroCells, Value.cells]
      omega
    have hRl : ROW.toList.length = G * 3 := by
      rw [hROW]
      simp [hZl]
      omega
    obtain ⟨cur1, hc1⟩ : ∃ c : Array Value, c = (ROW.toList.take (i * 3) ++ vs ++ ROW.toList.drop (i * 3 + vs.length)).toArray := ⟨_, rfl⟩
    obtain ⟨cur2, hc2⟩ : ∃ c : Array Value, c = (cur1.toList.take ((i + 1) * 3) ++ cs.drop (i * 3) ++ cur1.toList.drop ((i + 1) * 3 + (cs.drop (i * 3)).length)).toArray := ⟨_, rfl⟩
    have hc1l : cur1.size = G * 3 := by rw [hc1]; simp only [List.size_toArray, List.length_append, List.length_take, List.length_drop, hRl, hvl]; omega
    have hdl : (cs.drop (i * 3)).length = (n - i) * 3 := by rw [List.length_drop, hcl]; omega
    have hc2l : cur2.size = G * 3 := by rw [hc2]; simp only [List.size_toArray, List.length_append, List.length_take, List.length_drop, Array.length_toList, hc1l, hcl]; omega
    have hcpA : ∀ (w : World), w.heap[W.heap.size]? = some (.cells ROW 33 (0, 0)) → (∀ k, k < W.heap.size → w.heap[k]? = W.heap[k]?) → ∀ ty dc, (Builtin.copy_ #[25, 25] ty #[.slice (some ⟨W.heap.size, i * 3, none⟩) (n + 1 - i) dc, .slice (some ⟨vb, 0, none⟩) 1 1]).run Try.prog w = .ok (goInt 1) (w.setRow W.heap.size cur1) := fun w hw hold ty dc => by
      rw [hc1]
      exact run_copy_rowK w _ _ ty 33 3 W.heap.size (i * 3) (n + 1 - i) dc ⟨vb, 0, none⟩ 1 1 1 ROW 33 vs Try.underlying25 hsz hw (by simp only [Nat.min_def]; split <;> omega) (by omega)
        (fun j v hj => by rw [add_zero_block, World.cell?_of_block (hold vb hvw)]; exact hvs j v hj) (by rw [← Array.length_toList, hRl, hvl]; omega) h1v
    have hcpB : ∀ (w : World), w.heap[W.heap.size]? = some (.cells cur1 33 (0, 0)) → (∀ k, k < W.heap.size → w.heap[k]? = W.heap[k]?) → ∀ ty dc sc, (Builtin.copy_ #[25, 25] ty #[.slice (some ⟨W.heap.size, (i + 1) * 3, none⟩) (n + 1 - (i + 1)) dc, .slice (some ⟨b, i * 3, none⟩) (n - i) sc]).run Try.prog w = .ok (goInt ((n - i : Nat) : Int)) (w.setRow W.heap.size cur2) := fun w hw hold ty dc sc => by
      rw [hc2]
      exact run_copy_rowK w _ _ ty 33 3 W.heap.size ((i + 1) * 3) (n + 1 - (i + 1)) dc ⟨b, i * 3, none⟩ (n - i) sc (n - i) cur1 33 (cs.drop (i * 3)) Try.underlying25 hsz hw (by simp only [Nat.min_def]; split <;> omega) hdl
        (fun j v hj => by rw [Addr.add_lit, World.cell?_of_block (hold b hbl)]; rw [List.getElem?_drop] at hj; exact hcs _ v hj) (by rw [hc1l, hdl]; omega) (fun v hv => h1c v (List.mem_of_mem_drop hv))
    have HFIN := Lib.hid (show cur2.toList.take ((n + 1) * 3) = cs.take (i * 3) ++ vs ++ cs.drop (i * 3) by
      have h := splice_take cs vs Z (i * 3) 3 (by omega) hvl (by rw [hcl, hZl]; omega)
      rw [hcl, show n * 3 + 3 = (n + 1) * 3 by omega] at h
      rw [← h, hc2, hc1, hROW, hvl, show (i + 1) * 3 = i * 3 + 3 by omega])
    have hw0 : ((W.alloc (.cells ROW 33)).drew).heap[W.heap.size]? = some (.cells ROW 33 (0, 0)) := heap_alloc_new W _
    have hlw : ∀ k, k < W.heap.size → ((W.alloc (.cells ROW 33)).drew).heap[k]? = W.heap[k]? := fun k hk => Below.heap_alloc W _ k hk
    have hA := hcpA ((W.alloc (.cells ROW 33)).drew) hw0 hlw 3 (G - i)
    obtain ⟨W2, hW2⟩ : ∃ W2, W2 = ((W.alloc (.cells ROW 33)).drew).setRow W.heap.size cur1 := ⟨_, rfl⟩
    have hw2 : W2.heap[W.heap.size]? = some (.cells cur1 33 (0, 0)) := by rw [hW2]; exact setRow_heap _ _ _ _ _ _ hw0
    have hlw2 : ∀ k, k < W.heap.size → W2.heap[k]? = W.heap[k]? := fun k hk => by rw [hW2, setRow_other _ _ _ _ (by omega)]; exact hlw k hk
    have hsz2 : W2.heap.size = W.heap.size + 1 := by rw [hW2]; simp [World.setRow]
    have hos2 : W2.os = W.os ∧ W2.tape = W.tape ∧ W2.output = W.output := by rw [hW2]; exact ⟨rfl, rfl, rfl⟩
    rw [← hW2] at hA
    have HB := Lib.hid (hcpB W2.drew hw2 hlw2 3)
    have HW2 := Lib.hid hw2
    have HLW2 := Lib.hid hlw2
    have HSZ2 := Lib.hid hsz2
    have HOS2 := Lib.hid hos2
    have hwi : IntKind.i64.wrap ((i : Int) + 1) = (i : Int) + 1 := by rw [IntKind.wrap_i64]; omega
    have htn : ((i : Int) + 1).toNat = i + 1 := by omega
    have hb1 : (0 : Int) ≤ (i : Int) + 1 := by omega
    have hb3 : (i : Int) ≤ (n : Int) := by omega
    have hGi : ¬ (G = i) := by omega
    have hGim : ¬ (G = i + 1) := by omega
    have hni : ¬ (n = i) := by omega
    clear hcpA hcpB hw0 hlw hW2 hw2 hlw2 hsz2 hos2 hold hc1 hc2 hROW hZ hZl hRl hG hdl hkk hik hcs hvs hi0 hz0 hzs hzb hsz h1c h1v
    go_enter Try.func35, Try.ntmps35
    go_wp2_with (at_builtin; refine Lib.wpList_append_run _ rfl _ _ _ _ rfl _ _ rfl rfl _ _ (hrz _) ?_)
    clear hA hrz
    have mixed : Try.prog.follows Departure.mixedOrders = true := rfl
    go_region_law_o (refine step_copy_runI rfl _ _ 25 25 rfl (.slice (some ⟨W.heap.size, (i + 1) * 3, none⟩) (n + 1 - (i + 1)) (G - (i + 1))) (.slice (some ⟨b, i * 3, none⟩) (n - i) (n - i)) (by simp [Act.eval, Act.put]) (by simp [Act.eval, Act.put]) (HB.out (G - (i + 1)) (n - i)) ?_)
    go_wp2
    go_ret
    have hh := setRow_heap W2.drew W.heap.size cur1 cur2 _ _ HW2.out
    refine ⟨_, rfl, ⟨by simp only [List.length_append, List.length_take, List.length_drop]; omega, Or.inr ⟨W.heap.size, G, cur2, rfl, Nat.le_of_lt hbl, hh, hGn, by unfold maxLen; omega, hc2l, HFIN.out⟩⟩, ⟨HOS2.out.1, HOS2.out.2.1, HOS2.out.2.2, ?_, fun k hk hne => ?_⟩⟩
    · have h : (W2.drew.setRow W.heap.size cur2).heap.size = W2.heap.size := by simp [World.setRow]
      rw [h, HSZ2.out]; omega
    · rw [setRow_other _ _ _ _ (by omega)]
      exact HLW2.out k hk
end Go.Proofs.Ytpilpkbblkhnaaa
end
