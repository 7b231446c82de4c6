/- query.Count. -/
import Derived.Test.YtlahmcbaiebapaaQIt
namespace Go.Proofs.Ytlahmcbaiebapaa
open Go.ChangeShapes Go.WideShapes Go.ChangeAt Go.RowKit Go.Mem
set_option linter.unusedVariables false
attribute [local go_sem] Oper.semAt_some
theorem cell_put {W : World} {p : Addr} {v : Value} {l : Nat} {o : Obj} (o' : Obj) (h : W.cell? p = some v) (hl : W.heap[l]? = some o) (ho : o.isCells = false) : (W.putObj l o').cell? p = some v := by
  by_cases e : p.block = l
  · exfalso
    obtain ⟨b, q, s⟩ := p
    simp only at e
    subst e
    unfold World.cell? at h
    simp only [hl] at h
    cases o <;> simp_all [Obj.isCells]
  · rw [cell_same (w := W) (by exact World.putObj_heap_other e)]; exact h
theorem IntsAt.put {k : IntKind} {W : World} {a : Option Addr} {zs : List Int} {l : Nat} {o : Obj} (o' : Obj) (h : IntsAt k W a zs) (hl : W.heap[l]? = some o) (ho : o.isCells = false) : IntsAt k (W.putObj l o') a zs := fun h0 => by
  obtain ⟨x, e, h1, h2⟩ := h h0
  exact ⟨x, e, by simpa using h1, fun i hi => cell_put o' (h2 i hi) hl ho⟩
theorem CompAt.put {W : World} {p : Addr} {y : CompV} {l : Nat} {o : Obj} (o' : Obj) (h : CompAt W p y) (hl : W.heap[l]? = some o) (ho : o.isCells = false) : CompAt (W.putObj l o') p y := by
  obtain ⟨h1, a, c, h2, h3⟩ := h
  exact ⟨cell_put o' h1 hl ho, a, c, cell_put o' h2 hl ho, IntsAt.put o' h3 hl ho⟩
theorem comps_put {W : World} {a : Option Addr} {cs : List CompV} {l : Nat} {o : Obj} (o' : Obj) (h : SlAt 2 CompAt W a cs) (hl : W.heap[l]? = some o) (ho : o.isCells = false) : SlAt 2 CompAt (W.putObj l o') a cs := fun h0 => by
  obtain ⟨x, e, h1, h2⟩ := h h0
  exact ⟨x, e, by simpa using h1, fun i hi => (h2 i hi).put o' hl ho⟩
theorem CQ.put {rows : List RowQ} {x : HandQ} {W : World} {l : Nat} {o : Obj} (o' : Obj) (h : CQ rows x W) (hl : W.heap[l]? = some o) (ho : o.isCells = false) : CQ rows x (W.putObj l o') := ⟨h.1, comps_put o' h.2 hl ho⟩
theorem KeepB.set {lo hi : Nat} (w : World) {p : Addr} (hp : p.block < lo ∨ hi ≤ p.block) (v : Value) : KeepB lo hi w (w.setCell p v) := ⟨by simp, fun k k1 k2 => Below.heap_setCell w p v k (by omega)⟩
theorem rows_small {its : List ItemV} {wi wo : List Int} (h : SmallI its) (k : Nat) (hk : k ≤ its.length) : ∀ y ∈ rowsK its wi wo k, y.2.comps.length ≤ 1048576 ∧ ∀ c ∈ y.2.comps, c.vals.length ≤ 1048576 := by
  intro y hy
  unfold rowsK at hy
  obtain ⟨i, hi, rfl⟩ := List.mem_map.1 hy
  have hi2 := List.mem_range.1 (List.mem_filter.1 hi).1
  simp only
  rw [getD_item its i (by omega)]
  exact h.2 _ (List.getElem_mem _)
set_option maxRecDepth 100000 in
set_option maxHeartbeats 8000000 in
theorem q_Count (its : List ItemV) (v : Value) (ai ao : Option Addr) (ni ci no co : Nat) (wi wo : List Int) (hni : wi.length = ni) (hno : wo.length = no) (h2 : ni ≤ 17592186044000) (h3 : no ≤ 17592186044000) (hsm : SmallI its) (w : World) (hv : WorldI w v its) (hzi : IntsAt .i64 w ai wi) (hzo : IntsAt .i64 w ao wo) :
    Calls Try.prog 45 #[v, .slice ai ni ci, .slice ao no co] w fun e w' => e = .returned (.int .i64 ((rowsK its wi wo its.length).length : Nat)) ∧ Below w.heap.size w w' := by
  obtain ⟨ak, nk, ck, ag, ng, cg, a, c, rfl, hz⟩ := hv
  obtain ⟨m, hm⟩ : ∃ m, m = its.length := ⟨_, rfl⟩
  have hb0 := (Below.refl w.heap.size w).alloc (Nat.le_refl _) (.cells #[.slice ak nk ck, .slice ag ng cg, .slice a m c] 70)
  have hb1 := hb0.alloc (by simp) (.cells #[.int .i64 0] 3)
  have hy := row_second w (.cells #[.slice ak nk ck, .slice ag ng cg, .slice a m c] 70) (.cells #[.int .i64 0] 3)
  have hrs := rows_small (wi := wi) (wo := wo) hsm m (by omega)
  have hrl := rowsK_len its wi wo m
  have CA := q_All its (.agg #[.slice ak nk ck, .slice ag ng cg, .slice a m c]) ai ao ni ci no co wi wo hni hno h2 h3 hsm _ ⟨ak, nk, ck, ag, ng, cg, a, c, by rw [hm], hz.below ItemAt.abides hb1⟩ (hzi.below hb1) (hzo.below hb1)
  rw [← hm] at CA ⊢
  obtain ⟨rows, hrows⟩ : ∃ rows, rows = rowsK its wi wo m := ⟨_, rfl⟩
  rw [← hrows] at hrs hrl CA ⊢
  obtain ⟨nr, hnr⟩ : ∃ nr, nr = rows.length := ⟨_, rfl⟩
  have hr20 : nr ≤ 1048576 := by rw [hnr]; have := hsm.1; omega
  rw [← hnr]
  have HB1 := Lib.hid hb1
  have HY := Lib.hid hy
  have HRS := Lib.hid hrs
  have HNR := Lib.hid hnr
  have HCA := Lib.hid CA
  clear hb0 hb1 hy hrs hrl CA hrows hm hnr hz hni hno hzi hzo hsm
  refine (callsIn_wide (n := 3)).1 (callsIn_of_wp_marks Try.func45 rfl trivial ?_ rfl)
  refine wpIn_wide.2 ?_
  simp only [Try.ntmps45, List.size_toArray, List.length_cons, List.length_nil, Nat.reduceAdd, Nat.reduceSub, Array.replicate_succ, Array.replicate_zero, List.push_toArray, List.append_toArray, List.nil_append, List.cons_append]
  go_wp2_with fail
  refine HCA.out.mono ?_
  rintro e w1 ⟨bx, ra, rc, rfl, g1, g2, g3, g4⟩
  have HBW := Lib.hid (HB1.out.trans (g1.mono HB1.out.size))
  have HBN := Lib.hid (show Boxed w1 (w.heap.size + 1) 3 (.int .i64 0) from (g1.block _ (lt_of_heap HY.out)).trans HY.out)
  rw [← HNR.out] at g3
  have HG3 := Lib.hid g3
  have HG4 := Lib.hid g4
  have hlo := g2
  simp only [World.size_alloc] at hlo
  have hw1s := HBW.out.size
  clear g1 g2 g3 g4 HCA
  go_wp2_with fail
  refine (wpIn_wide (n := 3)).1 (wpIn_rangeFunc_ownC rfl (by omega) (gf := 87) (lb := #[.pointer (some ⟨bx, 0, none⟩)]) rfl trivial (enters_of Try.func87 (by kernel_rfl) rfl)
    (all_q (3 - 1) (by omega) bx (w.heap.size + 1 + 1) ra rc rows nr HNR.out.symm hr20 HRS.out w1 hlo HG3.out (by have h := HG4.out; simp only [World.size_alloc] at h; exact h)) KeepB.trans (KeepB.put (Nat.le_refl _)) (fun W l o o' x _ hl ho _ h => h.put o' hl ho) (Below.refl _ _) (fun _ => rfl)
    (fun pre W => (W.cell? ⟨w.heap.size + 1, 0, none⟩ = some (.int .i64 (pre.length : Nat)) ∧ W.frozen? ⟨w.heap.size + 1, 0, none⟩ = false) ∧ Below w.heap.size w W)
    (fun _ _ _ => False)
    (OwnFrom.and (Own.from (fun s A B row hs hg hr => ⟨cell_kept hs.1 hg hr, (frozen_kept hs.1 hg hr).trans hs.2⟩) _) (ownFrom_below (Nat.le_refl _) (by omega)))
    (fun _ _ _ _ _ hs _ _ => hs)
    ⟨⟨HBN.out.cell, HBN.out.frozen⟩, HBW.out⟩
    (fun x => { tmps := #[.agg #[.slice ak nk ck, .slice ag ng cg, .slice a m c], .slice ai ni ci, .slice ao no co, .pointer (some ⟨w.heap.size, 0, none⟩), undef, undef, .int .i64 0, .pointer (some ⟨w.heap.size + 1, 0, none⟩), .agg #[.slice ak nk ck, .slice ag ng cg, .slice a m c], .slice ai ni ci, .slice ao no co, .func (.func 87) #[] #[.pointer (some ⟨bx, 0, none⟩)], .int .i64 (x.1.1 : Int), .agg #[.int .i64 x.1.2.n, .int .i64 x.1.2.gen, .slice x.2 x.1.2.comps.length x.1.2.comps.length], undef, undef, undef], defers := [] }) ?assign ?body ?done ?stop)
  case assign =>
    intro l x W K hK
    gi_wp2
    simpa [encQ] using hK
  case body =>
    rintro l pre x W ⟨⟨hc, hf⟩, hB⟩ hcx hlt
    gi_wp2
    have e : (((pre ++ [x]).length : Nat) : Int) = (pre.length : Int) + 1 := by simp
    exact ⟨KeepsOthers.setCell _ _ _, KeepB.set _ (.inl (by simp)) _, ⟨by rw [e]; exact World.cell?_setCell_same' _ _ _ (by rw [hc]; rfl), by rw [World.frozen?_setCell]; exact hf⟩, hB.setCell (p := ⟨w.heap.size + 1, 0, none⟩) (by show w.heap.size ≤ w.heap.size + 1; omega) _⟩
  case done =>
    rintro D ys W hD hys ⟨⟨hc, _⟩, hB⟩ hK
    have hl : ys.length = nr := by rw [HNR.out, ← hys, List.length_map]
    rw [hl] at hc
    clear hl hys
    go_wp2_with fail
    refine ⟨by simp, .inl ⟨_, _, rfl, run_takeDeferred hK, ?_⟩⟩
    exact ⟨_, results_tmp rfl _ _ _, rfl, hB.trans (belowK_b (w := w) (Nat.le_refl _) W D _ _ (by omega) hK rfl rfl)⟩
  case stop =>
    rintro D c pre W _ _ h _
    exact h.elim
end Go.Proofs.Ytlahmcbaiebapaa
