/- slices.BinarySearchFunc at events. By program (gen_evd.py). -/
import Derived.Test.YtlahmcbaiebapaaEvC
import Derived.Test.YtlahmcbaiebapaaRegMore
namespace Go.Proofs.Ytlahmcbaiebapaa
open Go.ChangeShapes Go.WideShapes Go.ChangeAt Go.RowKit Go.Mem Go.Slt
set_option linter.unusedVariables false
theorem ev_cells {w : World} {x : Addr} {l : List EvV} (h : SlAt 4 EvAt w (some x) l) (i : Nat) (hi : i < l.length) : ∃ xb xo, x = ⟨xb, xo, none⟩ ∧ CellsK w xb (xo + i * 4) [.int .i64 l[i].s, .int .i64 l[i].n, .int .i64 l[i].g, .int .i64 l[i].v] := by
  obtain ⟨y, hy, hb, hc⟩ := h (by omega)
  injection hy with hy
  subst hy
  obtain ⟨xb, xo, sp⟩ := x
  have hsp : sp = none := by
    obtain ⟨f0, _⟩ := hc 0 (by omega)
    simpa [Addr.add] using World.cell?_spot f0
  obtain ⟨e0, e1, e2, e3⟩ := hc i hi
  subst hsp
  rw [Addr.add_lit] at e0 e1 e2 e3
  refine ⟨xb, xo, rfl, fun j v hv => ?_⟩
  match j with
  | 0 => cases hv; exact e0
  | 1 => cases hv; exact e1
  | 2 => cases hv; exact e2
  | 3 => cases hv; exact e3
  | j + 4 => simp at hv
theorem list16 {α : Type} {vs : List α} (h : vs.length = 16) : ∃ x0 x1 x2 x3 x4 x5 x6 x7 x8 x9 x10 x11 x12 x13 x14 x15, vs = [x0, x1, x2, x3, x4, x5, x6, x7, x8, x9, x10, x11, x12, x13, x14, x15] := by
  obtain ⟨x0, t0, rfl, h0⟩ := cons_of h
  obtain ⟨x1, t1, rfl, h1⟩ := cons_of h0
  obtain ⟨x2, t2, rfl, h2⟩ := cons_of h1
  obtain ⟨x3, t3, rfl, h3⟩ := cons_of h2
  obtain ⟨x4, t4, rfl, h4⟩ := cons_of h3
  obtain ⟨x5, t5, rfl, h5⟩ := cons_of h4
  obtain ⟨x6, t6, rfl, h6⟩ := cons_of h5
  obtain ⟨x7, t7, rfl, h7⟩ := cons_of h6
  obtain ⟨x8, t8, rfl, h8⟩ := cons_of h7
  obtain ⟨x9, t9, rfl, h9⟩ := cons_of h8
  obtain ⟨x10, t10, rfl, h10⟩ := cons_of h9
  obtain ⟨x11, t11, rfl, h11⟩ := cons_of h10
  obtain ⟨x12, t12, rfl, h12⟩ := cons_of h11
  obtain ⟨x13, t13, rfl, h13⟩ := cons_of h12
  obtain ⟨x14, t14, rfl, h14⟩ := cons_of h13
  obtain ⟨x15, t15, rfl, h15⟩ := cons_of h14
  exact ⟨x0, x1, x2, x3, x4, x5, x6, x7, x8, x9, x10, x11, x12, x13, x14, x15, by rw [List.eq_nil_of_length_eq_zero h15]⟩
theorem list8 {α : Type} {vs : List α} (h : vs.length = 8) : ∃ x0 x1 x2 x3 x4 x5 x6 x7, vs = [x0, x1, x2, x3, x4, x5, x6, x7] := by
  obtain ⟨x0, t0, rfl, h0⟩ := cons_of h
  obtain ⟨x1, t1, rfl, h1⟩ := cons_of h0
  obtain ⟨x2, t2, rfl, h2⟩ := cons_of h1
  obtain ⟨x3, t3, rfl, h3⟩ := cons_of h2
  obtain ⟨x4, t4, rfl, h4⟩ := cons_of h3
  obtain ⟨x5, t5, rfl, h5⟩ := cons_of h4
  obtain ⟨x6, t6, rfl, h6⟩ := cons_of h5
  obtain ⟨x7, t7, rfl, h7⟩ := cons_of h6
  exact ⟨x0, x1, x2, x3, x4, x5, x6, x7, by rw [List.eq_nil_of_length_eq_zero h7]⟩
def F_ed5 (xb xo n c b4 md : Nat) (zs zn zg zv ys yn yg yv k : Int) (r5 : Bool) (jq : Nat) (v : Value) (w : World) : Prop :=
  match jq with
  | 0 => v = .func (.func 106) #[] #[]
  | 1 => v = .slice (some ⟨xb, xo, none⟩) n c
  | 2 => v = .int .i64 (md : Int)
  | 3 => v = .pointer (some ⟨xb, xo + md * 4, none⟩)
  | 4 => v = .agg #[.int .i64 ys, .int .i64 yn, .int .i64 yg, .int .i64 yv]
  | 5 => v = .agg #[.int .i64 zs, .int .i64 zn, .int .i64 zg, .int .i64 zv]
  | 6 => v = .int .i64 k
  | 7 => v = .bool r5
  | _ => True
theorem F_ed5_mono (xb xo n c b4 md : Nat) (zs zn zg zv ys yn yg yv k : Int) (r5 : Bool) : Facts (F_ed5 xb xo n c b4 md  zs zn zg zv ys yn yg yv k  r5 ) := ⟨by
  intro jq v w w' h hb
  unfold F_ed5 at h ⊢
  split at h
  all_goals first
    | exact h
    | trivial⟩
def F_ed8a (xb xo n c b4 lo : Nat) (zs zn zg zv ys yn yg yv k : Int) (r8 : Bool) (jq : Nat) (v : Value) (w : World) : Prop :=
  match jq with
  | 0 => v = .int .i64 (lo : Int)
  | 1 => v = .int .i64 (lo : Int)
  | 2 => v = .int .i64 (n : Int)
  | 3 => v = .bool true
  | 4 => v = .bool true
  | 5 => v = .func (.func 106) #[] #[]
  | 6 => v = .slice (some ⟨xb, xo, none⟩) n c
  | 7 => v = .int .i64 (lo : Int)
  | 8 => v = .pointer (some ⟨xb, xo + lo * 4, none⟩)
  | 9 => v = .agg #[.int .i64 ys, .int .i64 yn, .int .i64 yg, .int .i64 yv]
  | 10 => v = .agg #[.int .i64 zs, .int .i64 zn, .int .i64 zg, .int .i64 zv]
  | 11 => v = .int .i64 k
  | 12 => v = .bool r8
  | 13 => v = .bool r8
  | 14 => v = .int .i64 (lo : Int)
  | 15 => v = .bool r8
  | _ => True
theorem F_ed8a_mono (xb xo n c b4 lo : Nat) (zs zn zg zv ys yn yg yv k : Int) (r8 : Bool) : Facts (F_ed8a xb xo n c b4 lo  zs zn zg zv ys yn yg yv k  r8 ) := ⟨by
  intro jq v w w' h hb
  unfold F_ed8a at h ⊢
  split at h
  all_goals first
    | exact h
    | trivial⟩
def F_ed8b (lo : Nat) (jq : Nat) (v : Value) (w : World) : Prop :=
  match jq with
  | 0 => v = .int .i64 (lo : Int)
  | 1 => v = .int .i64 (lo : Int)
  | 2 => v = .int .i64 (lo : Int)
  | 3 => v = .bool false
  | 4 => v = .bool false
  | 5 => v = undef
  | 6 => v = undef
  | 7 => v = undef
  | 8 => v = undef
  | 9 => v = undef
  | 10 => v = undef
  | 11 => v = undef
  | 12 => v = undef
  | 13 => v = .bool false
  | 14 => v = .int .i64 (lo : Int)
  | 15 => v = .bool false
  | _ => True
theorem F_ed8b_mono (lo : Nat) : Facts (F_ed8b lo ) := ⟨by
  intro jq v w w' h hb
  unfold F_ed8b at h ⊢
  split at h
  all_goals first
    | exact h
    | trivial⟩


set_option maxRecDepth 100000 in
set_option maxHeartbeats 8000000 in
theorem bs_evs (l : List EvV) (a : Option Addr) (n c : Nat) (z : EvV) (hn : l.length = n) (h1 : n ≤ 4398046511104) (hm : CfUp (fun y => ordE y z) l) (W : World) (hz : SlAt 4 EvAt W a l) :
    Calls Try.prog 105 #[.slice a n c, evA z, .func (.func 106) #[] #[]] W (BsPost (fun y : EvV => ordE y z) l W) := by
  obtain ⟨zs, zn, zg, zv⟩ := z
  unfold evA
  dsimp only
  have HN := Lib.hid hn
  have HZ := Lib.hid hz
  have HM := Lib.hid hm
  have hb0 := (Below.refl W.heap.size W).alloc (Nat.le_refl _) (.cells #[.int .i64 zs, .int .i64 zn, .int .i64 zg, .int .i64 zv] 99)
  have HB0 := Lib.hid hb0
  have HX := Lib.hid (heap_alloc_new W (.cells #[.int .i64 zs, .int .i64 zn, .int .i64 zg, .int .i64 zv] 99))
  clear hn hz hm hb0
  go_enter Try.func105, Try.ntmps105
  go_wp2_with fail
  obtain ⟨W2, hW2⟩ : ∃ q, q = W.alloc (.cells #[.int .i64 zs, .int .i64 zn, .int .i64 zg, .int .i64 zv] 99) := ⟨_, rfl⟩
  have hs2 : W.heap.size ≤ W2.heap.size := by rw [hW2, World.size_alloc]; omega
  rw [← hW2] at HB0 HX ⊢
  obtain ⟨b4, hb4⟩ : ∃ q, q = W.heap.size := ⟨_, rfl⟩
  rw [show (Value.pointer (some ⟨W.heap.size, 0, none⟩)) = .pointer (some ⟨b4, 0, none⟩) from by rw [hb4]]
  rw [← hb4] at HX
  clear hW2 hb4
  go_loopg [9, 10] n (fun gk s9 s10 wx => ∃ lo hi : Nat, s9 = .int .i64 lo ∧ s10 = .int .i64 hi ∧ lo ≤ hi ∧ hi ≤ n ∧ hi - lo ≤ gk ∧ Hid (Below W2.heap.size W2 wx) ∧ Hid ((∀ t (h : t < l.length), t < lo → ordE l[t] ⟨zs, zn, zg, zv⟩ < 0) ∧ (∀ t (h : t < l.length), hi ≤ t → 0 ≤ ordE l[t] ⟨zs, zn, zg, zv⟩)))
  case atStart => exact ⟨0, n, rfl, rfl, Nat.zero_le _, Nat.le_refl _, by omega, Lib.hid (Below.refl _ _), Lib.hid ⟨fun t h h2 => absurd h2 (by omega), fun t h h2 => by rw [HN.out] at h; omega⟩⟩
  case round =>
    obtain ⟨lo, hi, rfl, rfl, hlh, hin, hg, HB, HI⟩ := hrel
    have HBW := Lib.hid (HB0.out.trans (HB.out.mono hs2))
    have HXr := Lib.hid (heap_below HX.out HB.out)
    by_cases hlt : lo < hi
    · obtain ⟨x, rfl, -, -⟩ := HZ.out.below EvAt.abides HBW.out (by rw [HN.out]; omega)
      obtain ⟨xb, xo, rfl, hcl⟩ := ev_cells (HZ.out.below EvAt.abides HBW.out) ((lo + hi) / 2) (by rw [HN.out]; omega)
      obtain ⟨y, hy⟩ : ∃ y, y = l[(lo + hi) / 2]'(by rw [HN.out]; omega) := ⟨_, rfl⟩
      rw [← hy] at hcl
      have HC := Lib.hid (fun w => ev_order y ⟨zs, zn, zg, zv⟩ w)
      obtain ⟨k, hk⟩ : ∃ k, k = ordE y ⟨zs, zn, zg, zv⟩ := ⟨_, rfl⟩
      rw [← hk] at HC
      have HK := Lib.hid (show ordE (l[(lo + hi) / 2]'(by rw [HN.out]; omega)) ⟨zs, zn, zg, zv⟩ = k by rw [← hy]; exact hk.symm)
      obtain ⟨ys, yn, yg, yv⟩ := y
      unfold evA at HC
      dsimp only at HC hcl
      obtain ⟨md, hmd⟩ : ∃ q, q = (lo + hi) / 2 := ⟨_, rfl⟩
      have hmdi : ((lo : Int) + (hi : Int)) / 2 = (md : Int) := by rw [hmd]; omega
      rw [← hmd] at hcl
      have HMD := Lib.hid hmd
      have HMI := Lib.hid hmdi
      have hml : md < n := by rw [hmd]; omega
      have HCL := Lib.hid hcl
      obtain ⟨r5, hr5⟩ : ∃ r, r = decide (k < 0) := ⟨_, rfl⟩
      have HR5 := Lib.hid hr5.symm
      have j1 : (0 : Int) ≤ ((lo : Int) + (hi : Int)) / 2 := by omega
      clear hy hk hcl hmd hmdi hr5
      go_wp2_with fail
      rw [HMI.out]
      refine wp_region_facts_t rfl 8 (by kernel_rfl) (F_ed5 xb xo n c b4 md zs zn zg zv ys yn yg yv k r5) (F_ed5_mono xb xo n c b4 md zs zn zg zv ys yn yg yv k r5) ?_ ?_
      · refine ⟨?_, ?_, ?_, ?_, ?_, ?_, ?_, ?_, trivial⟩
        · intro vs w' F hb hd hF hl hT
          have e := (hF 2).trans (look_out _ 2 _ _ (by kernel_rfl))
          exact one_move _ rfl (by first | exact Or.inl rfl | exact Or.inr rfl) ⟨_, rfl, Below.refl _ _, e⟩
        · intro vs w' F hb hd hF hl hT
          have e := (hF 0).trans (look_out _ 0 _ _ (by kernel_rfl))
          exact one_move _ rfl (by first | exact Or.inl rfl | exact Or.inr rfl) ⟨_, rfl, Below.refl _ _, e⟩
        · intro vs w' F hb hd hF hl hT
          have e := (hF 11).trans (look_out _ 11 _ _ (by kernel_rfl))
          exact one_move _ rfl (by first | exact Or.inl rfl | exact Or.inr rfl) ⟨_, rfl, Below.refl _ _, e⟩
        · intro vs w' F hb hd hF hl hT
          have ex := ((hF 25).trans (look_at _ 25 1 _ _ (by kernel_rfl) (by kernel_rfl) hl)).trans (dep_of (Fact := F_ed5 xb xo n c b4 md zs zn zg zv ys yn yg yv k r5) hd 1 (by kernel_rfl))
          have ey := ((hF 26).trans (look_at _ 26 2 _ _ (by kernel_rfl) (by kernel_rfl) hl)).trans (dep_of (Fact := F_ed5 xb xo n c b4 md zs zn zg zv ys yn yg yv k r5) hd 2 (by kernel_rfl))
          exact one_index 93 _ _ rfl rfl (.slice (some ⟨xb, xo, none⟩) n c) (.int .i64 (md : Int)) (.pointer (some ⟨xb, xo + md * 4, none⟩)) ex ey (fun w => rg_idx Try.underlying93 (show (Try.prog.info? 99).map (·.size) = some 4 by kernel_rfl) (xb) (xo) (n) (c) (md) (by omega) w) ⟨_, rfl, Below.refl _ _, rfl⟩
        · intro vs w' F hb hd hF hl hT
          have e := ((hF 27).trans (look_at _ 27 3 _ _ (by kernel_rfl) (by kernel_rfl) hl)).trans (dep_of (Fact := F_ed5 xb xo n c b4 md zs zn zg zv ys yn yg yv k r5) hd 3 (by kernel_rfl))
          exact rg_load 99 _ rfl rfl (xb) (xo + md * 4) [.int .i64 ys, .int .i64 yn, .int .i64 yg, .int .i64 yv] e (HCL.out.below hb) _ Try.underlying99 rfl (by kernel_rfl) ⟨_, rfl, Below.refl _ _, rfl⟩
        · intro vs w' F hb hd hF hl hT
          have e := (hF 4).trans (look_out _ 4 _ _ (by kernel_rfl))
          exact rg_load 99 _ rfl rfl (b4) (0) [.int .i64 zs, .int .i64 zn, .int .i64 zg, .int .i64 zv] e ((CellsK.row HXr.out).below hb) _ Try.underlying99 rfl (by kernel_rfl) ⟨_, rfl, Below.refl _ _, rfl⟩
        · intro vs w' F hb hd hF hl hT
          have ef := (((hF 24).trans (look_at _ 24 0 _ _ (by kernel_rfl) (by kernel_rfl) hl)).trans (dep_of (Fact := F_ed5 xb xo n c b4 md zs zn zg zv ys yn yg yv k r5) hd 0 (by kernel_rfl)))
          have e1 := (((hF 28).trans (look_at _ 28 4 _ _ (by kernel_rfl) (by kernel_rfl) hl)).trans (dep_of (Fact := F_ed5 xb xo n c b4 md zs zn zg zv ys yn yg yv k r5) hd 4 (by kernel_rfl)))
          have e2 := (((hF 29).trans (look_at _ 29 5 _ _ (by kernel_rfl) (by kernel_rfl) hl)).trans (dep_of (Fact := F_ed5 xb xo n c b4 md zs zn zg zv ys yn yg yv k r5) hd 5 (by kernel_rfl)))
          refine one_callv _ _ _ rfl rfl ef (enters_of Try.func106 (by kernel_rfl) rfl) #[.agg #[.int .i64 ys, .int .i64 yn, .int .i64 yg, .int .i64 yv], .agg #[.int .i64 zs, .int .i64 zn, .int .i64 zg, .int .i64 zv]] (eval2 e1 e2) ?_
          refine (HC.out w').mono ?_
          rintro e2 w2 ⟨rfl, hb2⟩
          exact ⟨_, rfl, _, rfl, hb2, rfl⟩
        · intro vs w' F hb hd hF hl hT
          have e1 := ((hF 30).trans (look_at _ 30 6 _ _ (by kernel_rfl) (by kernel_rfl) hl)).trans (dep_of (Fact := F_ed5 xb xo n c b4 md zs zn zg zv ys yn yg yv k r5) hd 6 (by kernel_rfl))
          exact rg_lss _ _ _ _ rfl rfl .i64 (k) (0) r5 e1 rfl (HR5.out) ⟨_, rfl, Below.refl _ _, rfl⟩
      · intro vs8 W8 hl hb hI
        have hv7 : vs8.getD 7 undef = .bool r5 := hI 7 (by omega)
        obtain ⟨z0, z1, z2, z3, z4, z5, z6, z7, hvs⟩ := list8 hl
        subst hvs
        replace hv7 : z7 = .bool r5 := hv7
        subst hv7
        have HB5 := Lib.hid (HB.out.trans (hb.mono HB.out.size))
        clear hI hl hb HC HB HCL
        simp only [fillAll, Act.put, List.setIfInBounds_toArray, List.set_cons_succ, List.set_cons_zero, List.drop_succ_cons, List.drop_zero]
        show wpList _ _ _ [] _ _
        cases r5 with
        | true =>
          have HS := Lib.hid (of_decide_eq_true HR5.out)
          go_wp2_with fail
          go_roundg (hi - (md + 1))
          case measure => have := HMD.out; omega
          case rel => exact ⟨md + 1, hi, by go_num, rfl, by have := HMD.out; omega, hin, Nat.le_refl _, HB5, Lib.hid ⟨fun t h ht => HM.out t ((lo + hi) / 2) h (by rw [HN.out]; omega) (by have := HMD.out; omega) (by show ordE _ _ < 0; rw [HK.out]; exact HS.out), HI.out.2⟩⟩
        | false =>
          have HS := Lib.hid (of_decide_eq_false HR5.out)
          go_wp2_with fail
          go_roundg (md - lo)
          case measure => have := HMD.out; omega
          case rel => exact ⟨lo, md, rfl, rfl, by have := HMD.out; omega, by omega, Nat.le_refl _, HB5, Lib.hid ⟨HI.out.1, fun t h ht => by
            have h2 := HM.out ((lo + hi) / 2) t (by rw [HN.out]; omega) h (by have := HMD.out; omega)
            simp only [HK.out] at h2
            have h3 := HS.out
            omega⟩⟩
    · obtain rfl : lo = hi := by omega
      by_cases hln : lo < n
      · obtain ⟨x, rfl, -, -⟩ := HZ.out.below EvAt.abides HBW.out (by rw [HN.out]; omega)
        obtain ⟨xb, xo, rfl, hcl⟩ := ev_cells (HZ.out.below EvAt.abides HBW.out) lo (by rw [HN.out]; omega)
        obtain ⟨y, hy⟩ : ∃ y, y = l[lo]'(by rw [HN.out]; omega) := ⟨_, rfl⟩
        rw [← hy] at hcl
        have HC := Lib.hid (fun w => ev_order y ⟨zs, zn, zg, zv⟩ w)
        obtain ⟨k, hk⟩ : ∃ k, k = ordE y ⟨zs, zn, zg, zv⟩ := ⟨_, rfl⟩
        rw [← hk] at HC
        have HK := Lib.hid (show ordE (l[lo]'(by rw [HN.out]; omega)) ⟨zs, zn, zg, zv⟩ = k by rw [← hy]; exact hk.symm)
        obtain ⟨ys, yn, yg, yv⟩ := y
        unfold evA at HC
        dsimp only at HC hcl
        have HCL := Lib.hid hcl
        obtain ⟨r8, hr8⟩ : ∃ r, r = decide (k = 0) := ⟨_, rfl⟩
        have HR8 := Lib.hid hr8.symm
        clear hy hk hcl hr8
        go_wp2_with fail
        refine wp_region_facts_t rfl 16 (by kernel_rfl) (F_ed8a xb xo n c b4 lo zs zn zg zv ys yn yg yv k r8) (F_ed8a_mono xb xo n c b4 lo zs zn zg zv ys yn yg yv k r8) ?_ ?_
        · refine ⟨?_, ?_, ?_, ?_, ?_, ?_, ?_, ?_, ?_, ?_, ?_, ?_, ?_, ?_, ?_, ?_, trivial⟩
          · intro vs w' F hb hd hF hl hT
            have e := (hF 9).trans (look_out _ 9 _ _ (by kernel_rfl))
            exact one_move _ rfl (by first | exact Or.inl rfl | exact Or.inr rfl) ⟨_, rfl, Below.refl _ _, e⟩
          · intro vs w' F hb hd hF hl hT
            have e := (hF 9).trans (look_out _ 9 _ _ (by kernel_rfl))
            exact one_move _ rfl (by first | exact Or.inl rfl | exact Or.inr rfl) ⟨_, rfl, Below.refl _ _, e⟩
          · intro vs w' F hb hd hF hl hT
            have e := (hF 8).trans (look_out _ 8 _ _ (by kernel_rfl))
            exact one_move _ rfl (by first | exact Or.inl rfl | exact Or.inr rfl) ⟨_, rfl, Below.refl _ _, e⟩
          · intro vs w' F hb hd hF hl hT
            have e1 := ((hF 36).trans (look_at _ 36 1 _ _ (by kernel_rfl) (by kernel_rfl) hl)).trans (dep_of (Fact := F_ed8a xb xo n c b4 lo zs zn zg zv ys yn yg yv k r8) hd 1 (by kernel_rfl))
            have e2 := ((hF 37).trans (look_at _ 37 2 _ _ (by kernel_rfl) (by kernel_rfl) hl)).trans (dep_of (Fact := F_ed8a xb xo n c b4 lo zs zn zg zv ys yn yg yv k r8) hd 2 (by kernel_rfl))
            exact rg_lss _ _ _ _ rfl rfl .i64 ((lo : Int)) ((n : Int)) true e1 e2 (decide_eq_true (by omega)) ⟨_, rfl, Below.refl _ _, rfl⟩
          · intro vs w' F hb hd hF hl hT
            have e := ((hF 38).trans (look_at _ 38 3 _ _ (by kernel_rfl) (by kernel_rfl) hl)).trans (dep_of (Fact := F_ed8a xb xo n c b4 lo zs zn zg zv ys yn yg yv k r8) hd 3 (by kernel_rfl))
            exact one_move _ rfl (by first | exact Or.inl rfl | exact Or.inr rfl) ⟨_, rfl, Below.refl _ _, e⟩
          · intro vs w' F hb hd hF hl hT
            have eg := ((hF 39).trans (look_at _ 39 4 _ _ (by kernel_rfl) (by kernel_rfl) hl)).trans (dep_of (Fact := F_ed8a xb xo n c b4 lo zs zn zg zv ys yn yg yv k r8) hd 4 (by kernel_rfl))
            refine wpList_on rfl (t := 39) (by kernel_rfl) eg ?_
            have e := (hF 2).trans (look_out _ 2 _ _ (by kernel_rfl))
            exact one_move _ rfl (by first | exact Or.inl rfl | exact Or.inr rfl) ⟨_, rfl, Below.refl _ _, e⟩
          · intro vs w' F hb hd hF hl hT
            have eg := ((hF 39).trans (look_at _ 39 4 _ _ (by kernel_rfl) (by kernel_rfl) hl)).trans (dep_of (Fact := F_ed8a xb xo n c b4 lo zs zn zg zv ys yn yg yv k r8) hd 4 (by kernel_rfl))
            refine wpList_on rfl (t := 39) (by kernel_rfl) eg ?_
            have e := (hF 0).trans (look_out _ 0 _ _ (by kernel_rfl))
            exact one_move _ rfl (by first | exact Or.inl rfl | exact Or.inr rfl) ⟨_, rfl, Below.refl _ _, e⟩
          · intro vs w' F hb hd hF hl hT
            have eg := ((hF 39).trans (look_at _ 39 4 _ _ (by kernel_rfl) (by kernel_rfl) hl)).trans (dep_of (Fact := F_ed8a xb xo n c b4 lo zs zn zg zv ys yn yg yv k r8) hd 4 (by kernel_rfl))
            refine wpList_on rfl (t := 39) (by kernel_rfl) eg ?_
            have e := (hF 9).trans (look_out _ 9 _ _ (by kernel_rfl))
            exact one_move _ rfl (by first | exact Or.inl rfl | exact Or.inr rfl) ⟨_, rfl, Below.refl _ _, e⟩
          · intro vs w' F hb hd hF hl hT
            have eg := ((hF 39).trans (look_at _ 39 4 _ _ (by kernel_rfl) (by kernel_rfl) hl)).trans (dep_of (Fact := F_ed8a xb xo n c b4 lo zs zn zg zv ys yn yg yv k r8) hd 4 (by kernel_rfl))
            refine wpList_on rfl (t := 39) (by kernel_rfl) eg ?_
            have ex := ((hF 41).trans (look_at _ 41 6 _ _ (by kernel_rfl) (by kernel_rfl) hl)).trans (dep_of (Fact := F_ed8a xb xo n c b4 lo zs zn zg zv ys yn yg yv k r8) hd 6 (by kernel_rfl))
            have ey := ((hF 42).trans (look_at _ 42 7 _ _ (by kernel_rfl) (by kernel_rfl) hl)).trans (dep_of (Fact := F_ed8a xb xo n c b4 lo zs zn zg zv ys yn yg yv k r8) hd 7 (by kernel_rfl))
            exact one_index 93 _ _ rfl rfl (.slice (some ⟨xb, xo, none⟩) n c) (.int .i64 (lo : Int)) (.pointer (some ⟨xb, xo + lo * 4, none⟩)) ex ey (fun w => rg_idx Try.underlying93 (show (Try.prog.info? 99).map (·.size) = some 4 by kernel_rfl) (xb) (xo) (n) (c) (lo) (by omega) w) ⟨_, rfl, Below.refl _ _, rfl⟩
          · intro vs w' F hb hd hF hl hT
            have eg := ((hF 39).trans (look_at _ 39 4 _ _ (by kernel_rfl) (by kernel_rfl) hl)).trans (dep_of (Fact := F_ed8a xb xo n c b4 lo zs zn zg zv ys yn yg yv k r8) hd 4 (by kernel_rfl))
            refine wpList_on rfl (t := 39) (by kernel_rfl) eg ?_
            have e := ((hF 43).trans (look_at _ 43 8 _ _ (by kernel_rfl) (by kernel_rfl) hl)).trans (dep_of (Fact := F_ed8a xb xo n c b4 lo zs zn zg zv ys yn yg yv k r8) hd 8 (by kernel_rfl))
            exact rg_load 99 _ rfl rfl (xb) (xo + lo * 4) [.int .i64 ys, .int .i64 yn, .int .i64 yg, .int .i64 yv] e (HCL.out.below hb) _ Try.underlying99 rfl (by kernel_rfl) ⟨_, rfl, Below.refl _ _, rfl⟩
          · intro vs w' F hb hd hF hl hT
            have eg := ((hF 39).trans (look_at _ 39 4 _ _ (by kernel_rfl) (by kernel_rfl) hl)).trans (dep_of (Fact := F_ed8a xb xo n c b4 lo zs zn zg zv ys yn yg yv k r8) hd 4 (by kernel_rfl))
            refine wpList_on rfl (t := 39) (by kernel_rfl) eg ?_
            have e := (hF 4).trans (look_out _ 4 _ _ (by kernel_rfl))
            exact rg_load 99 _ rfl rfl (b4) (0) [.int .i64 zs, .int .i64 zn, .int .i64 zg, .int .i64 zv] e ((CellsK.row HXr.out).below hb) _ Try.underlying99 rfl (by kernel_rfl) ⟨_, rfl, Below.refl _ _, rfl⟩
          · intro vs w' F hb hd hF hl hT
            have eg := ((hF 39).trans (look_at _ 39 4 _ _ (by kernel_rfl) (by kernel_rfl) hl)).trans (dep_of (Fact := F_ed8a xb xo n c b4 lo zs zn zg zv ys yn yg yv k r8) hd 4 (by kernel_rfl))
            refine wpList_on rfl (t := 39) (by kernel_rfl) eg ?_
            have ef := (((hF 40).trans (look_at _ 40 5 _ _ (by kernel_rfl) (by kernel_rfl) hl)).trans (dep_of (Fact := F_ed8a xb xo n c b4 lo zs zn zg zv ys yn yg yv k r8) hd 5 (by kernel_rfl)))
            have e1 := (((hF 44).trans (look_at _ 44 9 _ _ (by kernel_rfl) (by kernel_rfl) hl)).trans (dep_of (Fact := F_ed8a xb xo n c b4 lo zs zn zg zv ys yn yg yv k r8) hd 9 (by kernel_rfl)))
            have e2 := (((hF 45).trans (look_at _ 45 10 _ _ (by kernel_rfl) (by kernel_rfl) hl)).trans (dep_of (Fact := F_ed8a xb xo n c b4 lo zs zn zg zv ys yn yg yv k r8) hd 10 (by kernel_rfl)))
            refine one_callv _ _ _ rfl rfl ef (enters_of Try.func106 (by kernel_rfl) rfl) #[.agg #[.int .i64 ys, .int .i64 yn, .int .i64 yg, .int .i64 yv], .agg #[.int .i64 zs, .int .i64 zn, .int .i64 zg, .int .i64 zv]] (eval2 e1 e2) ?_
            refine (HC.out w').mono ?_
            rintro e2 w2 ⟨rfl, hb2⟩
            exact ⟨_, rfl, _, rfl, hb2, rfl⟩
          · intro vs w' F hb hd hF hl hT
            have eg := ((hF 39).trans (look_at _ 39 4 _ _ (by kernel_rfl) (by kernel_rfl) hl)).trans (dep_of (Fact := F_ed8a xb xo n c b4 lo zs zn zg zv ys yn yg yv k r8) hd 4 (by kernel_rfl))
            refine wpList_on rfl (t := 39) (by kernel_rfl) eg ?_
            have e1 := ((hF 46).trans (look_at _ 46 11 _ _ (by kernel_rfl) (by kernel_rfl) hl)).trans (dep_of (Fact := F_ed8a xb xo n c b4 lo zs zn zg zv ys yn yg yv k r8) hd 11 (by kernel_rfl))
            exact rg_eql _ _ _ _ rfl rfl .i64 (k) (0) r8 e1 rfl (HR8.out) ⟨_, rfl, Below.refl _ _, rfl⟩
          · intro vs w' F hb hd hF hl hT
            have ec := ((hF 39).trans (look_at _ 39 4 _ _ (by kernel_rfl) (by kernel_rfl) hl)).trans (dep_of (Fact := F_ed8a xb xo n c b4 lo zs zn zg zv ys yn yg yv k r8) hd 4 (by kernel_rfl))
            have e := ((hF 47).trans (look_at _ 47 12 _ _ (by kernel_rfl) (by kernel_rfl) hl)).trans (dep_of (Fact := F_ed8a xb xo n c b4 lo zs zn zg zv ys yn yg yv k r8) hd 12 (by kernel_rfl))
            exact one_pick_t _ _ _ rfl rfl _ ec e ⟨_, rfl, Below.refl _ _, rfl⟩
          · intro vs w' F hb hd hF hl hT
            have e := ((hF 35).trans (look_at _ 35 0 _ _ (by kernel_rfl) (by kernel_rfl) hl)).trans (dep_of (Fact := F_ed8a xb xo n c b4 lo zs zn zg zv ys yn yg yv k r8) hd 0 (by kernel_rfl))
            exact one_move _ rfl (by first | exact Or.inl rfl | exact Or.inr rfl) ⟨_, rfl, Below.refl _ _, e⟩
          · intro vs w' F hb hd hF hl hT
            have e := ((hF 48).trans (look_at _ 48 13 _ _ (by kernel_rfl) (by kernel_rfl) hl)).trans (dep_of (Fact := F_ed8a xb xo n c b4 lo zs zn zg zv ys yn yg yv k r8) hd 13 (by kernel_rfl))
            exact one_move _ rfl (by first | exact Or.inl rfl | exact Or.inr rfl) ⟨_, rfl, Below.refl _ _, e⟩
        · intro vs8 W8 hl hb hI
          have hv14 : vs8.getD 14 undef = .int .i64 (lo : Int) := hI 14 (by omega)
          have hv15 : vs8.getD 15 undef = .bool r8 := hI 15 (by omega)
          obtain ⟨z0, z1, z2, z3, z4, z5, z6, z7, z8, z9, z10, z11, z12, z13, z14, z15, hvs⟩ := list16 hl
          subst hvs
          replace hv14 : z14 = .int .i64 (lo : Int) := hv14
          replace hv15 : z15 = .bool r8 := hv15
          subst hv14 hv15
          have HB5 := Lib.hid (HBW.out.trans (hb.mono HBW.out.size))
          clear hI hl hb HC HB HCL
          simp only [fillAll, Act.put, List.setIfInBounds_toArray, List.set_cons_succ, List.set_cons_zero, List.drop_succ_cons, List.drop_zero]
          show wpList _ _ _ [] _ _
          go_wp2_with fail
          go_ret2
          refine ⟨lo, r8, by rw [HN.out]; omega, HI.out.1, HI.out.2, ?_, rfl, HB5.out⟩
          constructor
          · intro h
            have h3 := HR8.out
            rw [h] at h3
            exact ⟨by rw [HN.out]; exact hln, by show ordE _ _ = 0; rw [HK.out]; exact of_decide_eq_true h3⟩
          · rintro ⟨h, h2⟩
            have h3 : ordE _ _ = 0 := h2
            rw [HK.out] at h3
            rw [← HR8.out]
            exact decide_eq_true h3
      · obtain rfl : lo = n := by omega
        go_wp2_with fail
        refine wp_region_facts_t rfl 16 (by kernel_rfl) (F_ed8b lo) (F_ed8b_mono lo) ?_ ?_
        · refine ⟨?_, ?_, ?_, ?_, ?_, ?_, ?_, ?_, ?_, ?_, ?_, ?_, ?_, ?_, ?_, ?_, trivial⟩
          · intro vs w' F hb hd hF hl hT
            have e := (hF 9).trans (look_out _ 9 _ _ (by kernel_rfl))
            exact one_move _ rfl (by first | exact Or.inl rfl | exact Or.inr rfl) ⟨_, rfl, Below.refl _ _, e⟩
          · intro vs w' F hb hd hF hl hT
            have e := (hF 9).trans (look_out _ 9 _ _ (by kernel_rfl))
            exact one_move _ rfl (by first | exact Or.inl rfl | exact Or.inr rfl) ⟨_, rfl, Below.refl _ _, e⟩
          · intro vs w' F hb hd hF hl hT
            have e := (hF 8).trans (look_out _ 8 _ _ (by kernel_rfl))
            exact one_move _ rfl (by first | exact Or.inl rfl | exact Or.inr rfl) ⟨_, rfl, Below.refl _ _, e⟩
          · intro vs w' F hb hd hF hl hT
            have e1 := ((hF 36).trans (look_at _ 36 1 _ _ (by kernel_rfl) (by kernel_rfl) hl)).trans (dep_of (Fact := F_ed8b lo) hd 1 (by kernel_rfl))
            have e2 := ((hF 37).trans (look_at _ 37 2 _ _ (by kernel_rfl) (by kernel_rfl) hl)).trans (dep_of (Fact := F_ed8b lo) hd 2 (by kernel_rfl))
            exact rg_lss _ _ _ _ rfl rfl .i64 ((lo : Int)) ((lo : Int)) false e1 e2 (decide_eq_false (by omega)) ⟨_, rfl, Below.refl _ _, rfl⟩
          · intro vs w' F hb hd hF hl hT
            have e := ((hF 38).trans (look_at _ 38 3 _ _ (by kernel_rfl) (by kernel_rfl) hl)).trans (dep_of (Fact := F_ed8b lo) hd 3 (by kernel_rfl))
            exact one_move _ rfl (by first | exact Or.inl rfl | exact Or.inr rfl) ⟨_, rfl, Below.refl _ _, e⟩
          · intro vs w' F hb hd hF hl hT
            have eg := ((hF 39).trans (look_at _ 39 4 _ _ (by kernel_rfl) (by kernel_rfl) hl)).trans (dep_of (Fact := F_ed8b lo) hd 4 (by kernel_rfl))
            exact wpList_off rfl (t := 39) (d := false) (by kernel_rfl) eg (by decide) ⟨_, rfl, Below.refl _ _, rfl⟩
          · intro vs w' F hb hd hF hl hT
            have eg := ((hF 39).trans (look_at _ 39 4 _ _ (by kernel_rfl) (by kernel_rfl) hl)).trans (dep_of (Fact := F_ed8b lo) hd 4 (by kernel_rfl))
            exact wpList_off rfl (t := 39) (d := false) (by kernel_rfl) eg (by decide) ⟨_, rfl, Below.refl _ _, rfl⟩
          · intro vs w' F hb hd hF hl hT
            have eg := ((hF 39).trans (look_at _ 39 4 _ _ (by kernel_rfl) (by kernel_rfl) hl)).trans (dep_of (Fact := F_ed8b lo) hd 4 (by kernel_rfl))
            exact wpList_off rfl (t := 39) (d := false) (by kernel_rfl) eg (by decide) ⟨_, rfl, Below.refl _ _, rfl⟩
          · intro vs w' F hb hd hF hl hT
            have eg := ((hF 39).trans (look_at _ 39 4 _ _ (by kernel_rfl) (by kernel_rfl) hl)).trans (dep_of (Fact := F_ed8b lo) hd 4 (by kernel_rfl))
            exact wpList_off rfl (t := 39) (d := false) (by kernel_rfl) eg (by decide) ⟨_, rfl, Below.refl _ _, rfl⟩
          · intro vs w' F hb hd hF hl hT
            have eg := ((hF 39).trans (look_at _ 39 4 _ _ (by kernel_rfl) (by kernel_rfl) hl)).trans (dep_of (Fact := F_ed8b lo) hd 4 (by kernel_rfl))
            exact wpList_off rfl (t := 39) (d := false) (by kernel_rfl) eg (by decide) ⟨_, rfl, Below.refl _ _, rfl⟩
          · intro vs w' F hb hd hF hl hT
            have eg := ((hF 39).trans (look_at _ 39 4 _ _ (by kernel_rfl) (by kernel_rfl) hl)).trans (dep_of (Fact := F_ed8b lo) hd 4 (by kernel_rfl))
            exact wpList_off rfl (t := 39) (d := false) (by kernel_rfl) eg (by decide) ⟨_, rfl, Below.refl _ _, rfl⟩
          · intro vs w' F hb hd hF hl hT
            have eg := ((hF 39).trans (look_at _ 39 4 _ _ (by kernel_rfl) (by kernel_rfl) hl)).trans (dep_of (Fact := F_ed8b lo) hd 4 (by kernel_rfl))
            exact wpList_off rfl (t := 39) (d := false) (by kernel_rfl) eg (by decide) ⟨_, rfl, Below.refl _ _, rfl⟩
          · intro vs w' F hb hd hF hl hT
            have eg := ((hF 39).trans (look_at _ 39 4 _ _ (by kernel_rfl) (by kernel_rfl) hl)).trans (dep_of (Fact := F_ed8b lo) hd 4 (by kernel_rfl))
            exact wpList_off rfl (t := 39) (d := false) (by kernel_rfl) eg (by decide) ⟨_, rfl, Below.refl _ _, rfl⟩
          · intro vs w' F hb hd hF hl hT
            have ec := ((hF 39).trans (look_at _ 39 4 _ _ (by kernel_rfl) (by kernel_rfl) hl)).trans (dep_of (Fact := F_ed8b lo) hd 4 (by kernel_rfl))
            exact one_pick_f _ _ _ rfl rfl _ ec rfl ⟨_, rfl, Below.refl _ _, rfl⟩
          · intro vs w' F hb hd hF hl hT
            have e := ((hF 35).trans (look_at _ 35 0 _ _ (by kernel_rfl) (by kernel_rfl) hl)).trans (dep_of (Fact := F_ed8b lo) hd 0 (by kernel_rfl))
            exact one_move _ rfl (by first | exact Or.inl rfl | exact Or.inr rfl) ⟨_, rfl, Below.refl _ _, e⟩
          · intro vs w' F hb hd hF hl hT
            have e := ((hF 48).trans (look_at _ 48 13 _ _ (by kernel_rfl) (by kernel_rfl) hl)).trans (dep_of (Fact := F_ed8b lo) hd 13 (by kernel_rfl))
            exact one_move _ rfl (by first | exact Or.inl rfl | exact Or.inr rfl) ⟨_, rfl, Below.refl _ _, e⟩
        · intro vs8 W8 hl hb hI
          have hv14 : vs8.getD 14 undef = .int .i64 (lo : Int) := hI 14 (by omega)
          have hv15 : vs8.getD 15 undef = .bool false := hI 15 (by omega)
          obtain ⟨z0, z1, z2, z3, z4, z5, z6, z7, z8, z9, z10, z11, z12, z13, z14, z15, hvs⟩ := list16 hl
          subst hvs
          replace hv14 : z14 = .int .i64 (lo : Int) := hv14
          replace hv15 : z15 = .bool false := hv15
          subst hv14 hv15
          have HB5 := Lib.hid (HBW.out.trans (hb.mono HBW.out.size))
          clear hI hl hb HB
          simp only [fillAll, Act.put, List.setIfInBounds_toArray, List.set_cons_succ, List.set_cons_zero, List.drop_succ_cons, List.drop_zero]
          show wpList _ _ _ [] _ _
          go_wp2_with fail
          go_ret2
          exact ⟨lo, false, by rw [HN.out]; exact Nat.le_refl _, HI.out.1, HI.out.2, ⟨(fun h => by cases h), (fun ⟨h, _⟩ => by rw [HN.out] at h; omega)⟩, rfl, HB5.out⟩
end Go.Proofs.Ytlahmcbaiebapaa
