/- merkle.levels. -/
import Derived.Test.YtdhaaeaacbnghaaVerify
import Derived.Test.YtdhaaeaacbnghaaMerkleP3
import Derived.Test.YtdhaaeaacbnghaaOwn
import Derived.Deep.DeepMust
namespace Go.Proofs.Ytdhaaeaacbnghaa
open Go.ChangeShapes Go.WideShapes Go.ChangeAt Go.RowKit Go.Mem Go.Mk
set_option linter.unusedVariables false

/-- The levels of a tree, in memory. -/
def LevAt (w : World) (v : Value) (ls : List (List Int)) : Prop :=
  ∃ g cap, v = .slice (some ⟨g, 0, none⟩) ls.length cap ∧ ls.length ≤ cap ∧ g < w.heap.size ∧
    ∀ j, j < ls.length → ∃ a c, w.cell? ⟨g, j, none⟩ = some (.slice a (ls.getD j []).length c) ∧ (ls.getD j []).length ≤ c ∧ IntsAt .u64 w a (ls.getD j [])
theorem LevAt.below {w w2 : World} {v : Value} {ls : List (List Int)} (h : LevAt w v ls) (hb : Below w.heap.size w w2) : LevAt w2 v ls := by
  obtain ⟨g, cap, h1, h2, h3, h4⟩ := h
  refine ⟨g, cap, h1, h2, Nat.lt_of_lt_of_le h3 hb.size, fun j hj => ?_⟩
  obtain ⟨a, c, k1, k2, k4⟩ := h4 j hj
  exact ⟨a, c, (hb.cell h3).trans k1, k2, k4.below hb⟩
/-- The rows that the call has made so far. -/
def RowsOwn (w : World) (D : Nat) (vs : List Value) (rows : List (List Int)) : Prop :=
  vs.length = rows.length ∧ ∀ j, j < rows.length → w.ownsRow D 22 1 (vs.getD j undef) (rows.getD j []).length (vints .u64 (rows.getD j []))
theorem RowsOwn.keep {w w2 : World} {D : Nat} {vs : List Value} {rows : List (List Int)} (h : RowsOwn w D vs rows) (hk : ∀ base n v xs, w.ownsRow base 22 1 v n xs → w2.ownsRow base 22 1 v n xs) : RowsOwn w2 D vs rows :=
  ⟨h.1, fun j hj => hk _ _ _ _ (h.2 j hj)⟩
theorem RowsOwn.snoc {w : World} {D : Nat} {vs : List Value} {rows : List (List Int)} {v : Value} {r : List Int} {n : Nat} (h : RowsOwn w D vs rows) (hn : n = r.length) (hv : w.ownsRow D 22 1 v n (vints .u64 r)) : RowsOwn w D (vs ++ [v]) (rows ++ [r]) := by
  subst hn
  refine ⟨by simp [h.1], fun j hj => ?_⟩
  by_cases q : j < rows.length
  · have e1 : (vs ++ [v]).getD j undef = vs.getD j undef := by
      rw [List.getD_eq_getElem?_getD, List.getElem?_append_left (by rw [h.1]; exact q), ← List.getD_eq_getElem?_getD]
    have e2 : (rows ++ [r]).getD j [] = rows.getD j [] := by
      rw [List.getD_eq_getElem?_getD, List.getElem?_append_left q, ← List.getD_eq_getElem?_getD]
    rw [e1, e2]; exact h.2 j q
  · have ej : j = rows.length := by simp at hj; omega
    subst ej
    have e1 : (vs ++ [v]).getD rows.length undef = v := by rw [← h.1]; simp
    have e2 : (rows ++ [r]).getD rows.length [] = r := by simp
    rw [e1, e2]; exact hv
theorem pair_u64 : ∀ l : List Int, U64s l → U64s (pair tieI l)
  | [], h => h
  | [a], h => by
    have : pair tieI [a] = [a] := by simp [pair]
    rw [this]; exact h
  | a :: b :: r, h => by
    have ih := pair_u64 r (fun z hz => h z (List.mem_cons_of_mem _ (List.mem_cons_of_mem _ hz)))
    intro z hz
    have hz' : z = tieI a b ∨ z ∈ pair tieI r := by simpa [pair] using hz
    rcases hz' with rfl | hz'
    · exact tieI_in a b
    · exact ih z hz'
theorem lev_of_rows {w : World} {D : Nat} {vs : List Value} {rows : List (List Int)} {v : Value} (h : RowsOwn w D vs rows) (hv : w.ownsRow D 33 1 v rows.length vs) (h1 : 1 ≤ rows.length) : LevAt w v rows := by
  obtain ⟨g, cap, rfl, _, hlt⟩ := hv.form (by omega)
  obtain ⟨cap', hc, hcc⟩ : ∃ cap', Value.slice (some ⟨g, 0, none⟩) rows.length cap = .slice (some ⟨g, 0, none⟩) rows.length cap' ∧ rows.length ≤ cap' := by
    rcases hv.2 with ⟨h2, _⟩ | ⟨g', cap', cur, h2, _, _, h3, _⟩
    · cases h2
    · injection h2 with e1 e2 e3
      exact ⟨cap', by rw [e3], h3⟩
  refine ⟨g, cap', hc, hcc, hlt, fun j hj => ?_⟩
  have hcell := hv.cellAt j (by omega)
  have hj' : j < vs.length := by rw [h.1]; exact hj
  have hg : vs[j]? = some (vs.getD j undef) := by simp [hj']
  rw [hg] at hcell
  obtain ⟨a, c, e1, e2, e3⟩ : ∃ a c, vs.getD j undef = .slice a (rows.getD j []).length c ∧ (rows.getD j []).length ≤ c ∧ IntsAt .u64 w a (rows.getD j []) := by
    have ho := h.2 j hj
    rcases ho.2 with ⟨k1, k2⟩ | ⟨g2, c2, cur2, k1, k2, k3, k4, k5⟩
    · rw [k1, k2]; exact ⟨none, 0, rfl, Nat.le_refl _, fun hh => by omega⟩
    · rw [k1] at ho ⊢
      exact ⟨_, c2, rfl, k4, IntsAt.of_own ho rfl⟩
  exact ⟨a, c, by rw [hcell, e1], e2, e3⟩

theorem len_own {w : World} {base e n : Nat} {k : IntKind} {v : Value} {zs : List Int} (h : w.ownsRow base e 1 v n (vints k zs)) : zs.length = n := by
  have := h.1; rw [vints_length] at this; omega

/-- What levels gives. -/
def LevPost (ls : List (List Int)) (w : World) (e : Ending) (w' : World) : Prop := ∃ v, e = .returned v ∧ LevAt w' v ls ∧ Below w.heap.size w w'

set_option maxHeartbeats 8000000 in
set_option maxRecDepth 100000 in
theorem merkle_levels (l : List Int) (a : Option Addr) (n cap : Nat) (hn : l.length = n) (h1 : 1 ≤ n) (h2 : n ≤ 8192) (hu : U64s l) (w : World) (hin : IntsAt .u64 w a l) :
    Calls Try.prog 94 #[.slice a n cap] w (LevPost (levs tieI l) w) := by
  have HU := Lib.hid hu
  have HN := Lib.hid hn
  have hnil : w.ownsRow w.heap.size 22 1 (.slice none 0 0) 0 (vints .u64 []) := ⟨rfl, .inl ⟨rfl, rfl⟩⟩
  have HNIL := Lib.hid hnil
  have HIN := Lib.hid hin
  clear hu hn hnil hin
  go_enter Try.func94, Try.ntmps94
  go_wp2_with (at_builtin; go_must (refine wpList_append_ints rfl _ _ 33 rfl w.heap.size 22 .u64 8 Try.underlying33 (by kernel_rfl) (.slice none 0 0) 0 [] rfl HNIL.out a n cap l rfl HN.out HIN.out (by unfold maxLen; omega) (by omega) (Nat.le_refl _) ?_))
  intro v0 w1 hown hgr hat
  have hb1 : Below w.heap.size w w1 := (Below.refl _ _).grown hgr (Nat.le_refl _) (fun k hk => by cases hk)
  obtain ⟨g0, c0, rfl, hg0, lg0⟩ := hown.form (by omega)
  have HO := Lib.hid hown
  clear hgr hat hown
  have hlit := World.ownsRow_lit (e := 33) (size := 1) (base := w.heap.size) w1 #[Value.slice (some ⟨g0, 0, none⟩) n c0] 1 hb1.size (by unfold maxLen; omega) rfl
  have c00 : (w1.alloc (.cells #[Value.slice (some ⟨g0, 0, none⟩) n c0] 33)).cell? ⟨w1.heap.size, 0, none⟩ = some (.slice (some ⟨g0, 0, none⟩) n c0) := by rw [World.cell?_alloc_at] <;> rfl
  have HLIT := Lib.hid hlit
  have hbw := hb1.alloc hb1.size (.cells #[Value.slice (some ⟨g0, 0, none⟩) n c0] 33)
  have HO1 := Lib.hid (own_below HO.out ((Below.refl w1.heap.size w1).alloc (Nat.le_refl _) (.cells #[Value.slice (some ⟨g0, 0, none⟩) n c0] 33)))
  have hX := hb1.size
  clear hlit HO hb1
  go_wp2
  generalize w1.alloc (.cells #[Value.slice (some ⟨g0, 0, none⟩) n c0] 33) = W1 at *
  generalize w1.heap.size = X1 at *
  go_loopg [3, 4, 5, 6] n (fun gk vout vl _ _ wx => ∃ (pre : List (List Int)) (cur : List Int) (vs : List Value) (m gc cc go_ co : Nat),
      gk = m ∧ m = cur.length ∧ 1 ≤ m ∧ pre.length + m ≤ n + 1 ∧ vl = .slice (some ⟨gc, 0, none⟩) m cc ∧ vout = .slice (some ⟨go_, 0, none⟩) (pre.length + 1) co ∧
      wx.ownsRow w.heap.size 33 1 (.slice (some ⟨go_, 0, none⟩) (pre.length + 1) co) (pre.length + 1) (vs ++ [.slice (some ⟨gc, 0, none⟩) m cc]) ∧ RowsOwn wx w.heap.size vs pre ∧
      wx.ownsRow w.heap.size 22 1 (.slice (some ⟨gc, 0, none⟩) m cc) m (vints .u64 cur) ∧ pre ++ levs tieI cur = levs tieI l ∧ U64s cur ∧ Below w.heap.size w wx)
  case atStart => exact ⟨[], l, [], n, g0, c0, X1, 1, rfl, HN.out.symm, h1, by simp, rfl, rfl, HLIT.out, ⟨rfl, fun j hj => by simp at hj⟩, HO1.out, rfl, HU.out, hbw⟩
  case round =>
    clear HLIT HO1 HU hbw c00 hX HNIL
    obtain ⟨pre, cur, vs, m, gc, cc, go_, co, hg, hm, m1, hpm, rfl, rfl, hout, hrows, hcur, hlev, huc, hbw⟩ := hrel
    have HG := Lib.hid hg
    have HM := Lib.hid hm
    have HOUT := Lib.hid hout
    have HROWS := Lib.hid hrows
    have HCUR := Lib.hid hcur
    have HLEV := Lib.hid hlev
    have HUC := Lib.hid huc
    obtain ⟨pl, hpl⟩ : ∃ pl, pl = pre.length := ⟨_, rfl⟩
    rw [← hpl] at hpm ⊢
    have HPL := Lib.hid hpl
    clear hg hm hout hrows hcur hlev huc hpl
    by_cases q : 1 < m
    · obtain ⟨P, hP⟩ : ∃ P, P = pair tieI cur := ⟨_, rfl⟩
      obtain ⟨m2, hm2⟩ : ∃ m2, m2 = (m + 1) / 2 := ⟨_, rfl⟩
      have hPl : P.length = m2 := by rw [hP, pair_length, ← HM.out, hm2]
      have hPu : U64s P := by rw [hP]; exact pair_u64 cur HUC.out
      have hPg : ∀ t, 2 * t < m → P.getD t 0 = if 2 * t + 1 < m then tieI (cur.getD (2 * t) 0) (cur.getD (2 * t + 1) 0) else cur.getD (2 * t) 0 := fun t ht => by
        rw [hP, HM.out]; exact pair_getD tieI t cur (by rw [← HM.out]; exact ht)
      have hPlev : levs tieI cur = cur :: levs tieI P := by rw [hP]; exact levs_long tieI cur (by rw [← HM.out]; omega)
      have HPL2 := Lib.hid hPl
      have HPU := Lib.hid hPu
      have HPG := Lib.hid hPg
      have HPLEV := Lib.hid hPlev
      have HM2 := Lib.hid hm2
      have bm : m2 < m ∧ 1 ≤ m2 ∧ m ≤ 2 * m2 ∧ 2 * m2 ≤ m + 1 := by omega
      obtain ⟨bm1, bm2, bm3, bm4⟩ := bm
      have hq1 : decide (1 < (m : Int)) = true := by simp; omega
      clear hP hm2 hPl hPu hPg hPlev
      go_wp2_with fail
      obtain ⟨wo, hwo⟩ : ∃ wo : World, wo = wr := ⟨_, rfl⟩
      subst hwo
      have hlitn : wo.ownsRow wo.heap.size 22 1 (.slice none 0 0) 0 (vints .u64 []) := ⟨rfl, .inl ⟨rfl, rfl⟩⟩
      go_loopg [5, 6] m2 (fun gi vn vi wx => ∃ t : Nat, t ≤ m2 ∧ gi = m2 - t ∧ vi = .int .i64 (2 * t : Nat) ∧ wx.ownsRow wo.heap.size 22 1 vn t (vints .u64 (P.take t)) ∧ Below wo.heap.size wo wx)
      case atStart => exact ⟨0, by omega, rfl, rfl, hlitn, Below.refl _ _⟩
      case round =>
        clear hlitn
        obtain ⟨t, t1, t2, rfl, hnx, hbx⟩ := hrel
        have T2 := Lib.hid t2
        have HNX := Lib.hid hnx
        clear t2 hnx
        obtain ⟨i, hi⟩ : ∃ i, i = 2 * t := ⟨_, rfl⟩
        rw [← hi]
        have HI := Lib.hid hi
        by_cases q2 : t < m2
        · have q3 : i < m := by omega
          have hcu := own_below HCUR.out hbx
          have e1 := (hcu.cellAt i (by omega)).trans (vints_get .u64 cur i (by rw [← HM.out]; exact q3))
          obtain ⟨x, hx, lx⟩ := (HUC.out.getD_in i).nat
          rw [hx] at e1
          have hpg := HPG.out t (by omega)
          rw [← hi] at hpg
          have htk : P.take (t + 1) = P.take t ++ [P.getD t 0] := take_snoc' P t 0 (by rw [HPL2.out]; exact q2)
          have i1 : (0 : Int) ≤ (i : Int) := by omega
          have i2 : (i : Int) < (m : Int) := by omega
          by_cases q4 : i + 1 < m
          · have e2 := (hcu.cellAt (i + 1) (by omega)).trans (vints_get .u64 cur (i + 1) (by rw [← HM.out]; exact q4))
            obtain ⟨y, hy, ly⟩ := (HUC.out.getD_in (i + 1)).nat
            rw [hy] at e2
            rw [if_pos q4, hx, hy, tieI_nat x y lx ly] at hpg
            have cj := sum_Join x y lx ly
            have lz := tie_lt x y
            obtain ⟨z, hz⟩ : ∃ z, z = tie x y := ⟨_, rfl⟩
            rw [← hz] at cj lz hpg
            rw [hpg] at htk
            have HTK := Lib.hid htk
            have CJ := Lib.hid cj
            have i3 : (i : Int) + 1 < (m : Int) := by omega
            clear hcu hpg htk cj hz hx hy hi
            go_wp2_with fail
            obtain ⟨i0, hi0, hz0, hz1, hz2⟩ := info_parts (show (Try.prog.info? 22).map (fun i => (i.zero, i.size, i.bytes)) = some (some (.int .u64 0), 1, 8) by kernel_rfl)
            have hxx := hbx.size
            have lgc := World.block_lt_of_cell? _ _ e1
            have lgo : ∀ g, u5.ownBlock = some g → gc ≠ g := fun g hg => by
              have h1 := (own_lt HNX.out g hg).1
              have h2 := (own_lt HCUR.out gc rfl).2
              omega
            have LGO := Lib.hid lgo
            clear lgo
            have j1 : IntKind.i64.wrap ((i : Int) + 1) = (i : Int) + 1 := by rw [IntKind.wrap_i64]; omega
            have j2 : (0 : Int) ≤ (i : Int) + 1 := by omega
            have j3 : ((i : Int) + 1).toNat = i + 1 := by omega
            go_region_held3 (fun w' => w'.cell? ⟨gc, i, none⟩ = some (.int .u64 x) ∧ w'.cell? ⟨gc, i + 1, none⟩ = some (.int .u64 y))
              (first
                | exact ⟨e1, e2⟩
                | go_keep
                | (go_split_ands
                   refine ⟨?_, ?_⟩
                   · (rw [hgrow.cell_far _ (by simp; omega) (fun h => LGO.out _ h.symm rfl)]; assumption)
                   · (rw [hgrow.cell_far _ (by simp; omega) (fun h => LGO.out _ h.symm rfl)]; assumption)))
              (first
                | (go_at_call 21; refine (CJ.out _).mono ?_; rintro e w8 ⟨rfl, rfl⟩)
                | (refine step_append_lies _ (by rfl) _ _ _ (by rfl) wo.heap.size 22 i0 _ 1 8 Try.underlying33 hi0 hz0 hz1 hz2 rfl (by omega) u5 t (vints .u64 (P.take t)) (by rfl) ((HNX.out.alloc _).drew) ⟨wr.heap.size, 0, none⟩ 1 1 [.int .u64 z] (by rfl) (by rfl) (World.news_of_block (cs := #[.int .u64 z]) (t := 22) (fr := (0, 0)) (heap_alloc_new wr _)) (by simp [Value.oneCell']) (by omega) (by unfold maxLen; omega) (by omega) (by simp; omega) (wr.heap.size + 1) (by simp) ?_; intro gg cap w1 hown1 hgrow hat hlt))
            have hbn : Below wo.heap.size wo w1 := ((hbx.alloc hbx.size _).drew).grown hgrow (by simp; omega) (fun j hj => (own_lt HNX.out j hj).1)
            have hst : vints .u64 (P.take (t + 1)) = vints .u64 (P.take t) ++ [Value.int .u64 z] := by rw [HTK.out]; simp [vints]
            rw [← hst] at hown1
            have HO1 := Lib.hid hown1
            clear hown1 hst hgrow hat hbx
            go_wp2
            go_roundg (m2 - (t + 1))
            case measure => rw [T2.out]; omega
            case rel => exact ⟨t + 1, by omega, rfl, by rw [show ((2 * (t + 1) : Nat) : Int) = (i : Int) + 2 by have := HI.out; omega], HO1.out, hbn⟩
          · rw [if_neg q4, hx] at hpg
            rw [hpg] at htk
            have HTK := Lib.hid htk
            have i3 : (m : Int) ≤ (i : Int) + 1 := by omega
            clear hcu hpg htk hx hi
            go_wp2_with (at_builtin; go_must (refine wpList_append_new rfl _ _ 33 rfl wo.heap.size 22 (.int .u64 0) 1 8 Try.underlying33 (by kernel_rfl) rfl (by decide) _ _ _ rfl HNX.out _ _ rfl rfl rfl (by omega) (by decide) hbx.size ?_))
            intro g' cap' w' hown' hg hor hlt'
            have hbn : Below wo.heap.size wo w' := hbx.grown hg hbx.size (fun j hj => (own_lt HNX.out j hj).1)
            have hst : vints .u64 (P.take (t + 1)) = vints .u64 (P.take t) ++ [Value.int .u64 x] := by rw [HTK.out]; simp [vints]
            rw [← hst] at hown'
            have HO1 := Lib.hid hown'
            clear hown' hst hg hor hbx
            go_wp2
            go_roundg (m2 - (t + 1))
            case measure => rw [T2.out]; omega
            case rel => exact ⟨t + 1, by omega, rfl, by rw [show ((2 * (t + 1) : Nat) : Int) = (i : Int) + 2 by have := HI.out; omega], HO1.out, hbn⟩
        · obtain rfl : t = m2 := by omega
          have ep : P.take t = P := List.take_of_length_le (by rw [HPL2.out]; omega)
          have hnx := HNX.out
          rw [ep] at hnx
          obtain ⟨gn, cn, rfl, hgn, lgn⟩ := hnx.form (by omega)
          have HNX2 := Lib.hid hnx
          have q3 : ¬ i < m := by omega
          have hq3 : decide (i < m) = false := by simp; omega
          have q4 : (m : Int) ≤ (i : Int) := by omega
          have HOUT2 := Lib.hid (own_below HOUT.out hbx)
          have HROWS2 := Lib.hid (HROWS.out.keep fun _ _ _ _ h => own_below h hbx)
          have HCUR2 := Lib.hid (own_below HCUR.out hbx)
          have hbw2 := hbw.trans (hbx.mono hbw.size)
          have hD : w.heap.size ≤ wo.heap.size := hbw.size
          clear hnx ep HNX HOUT HROWS HCUR hi hbx
          obtain ⟨i0, hi0, hz0, hz1, hz2⟩ := info_parts (show (Try.prog.info? 33).map (fun i => (i.zero, i.size, i.bytes)) = some (some (.slice none 0 0), 1, 24) by kernel_rfl)
          have hplm : pl + t + 1 ≤ 8193 := by omega
          go_wp2_with (at_builtin; go_must (refine wpList_append_lies _ rfl _ _ 128 rfl w.heap.size 33 i0 (.slice none 0 0) 1 24 Try.underlying128 hi0 hz0 hz1 hz2 rfl (by omega) (.slice (some ⟨go_, 0, none⟩) (pl + 1) co) (pl + 1) (vs ++ [.slice (some ⟨gc, 0, none⟩) m cc]) rfl (by rw [HPL.out]; exact HOUT2.out.alloc _) ⟨wr.heap.size, 0, none⟩ 1 1 [.slice (some ⟨gn, 0, none⟩) t cn] rfl rfl (World.news_of_block (cs := #[.slice (some ⟨gn, 0, none⟩) t cn]) (t := 33) (fr := (0, 0)) (heap_alloc_new wr _)) (by simp [Value.oneCell']) (by omega) (by unfold maxLen; omega) (by omega) (by simp; omega) (wr.heap.size + 1) (by simp) ?_))
          intro gg cap2 w3 hown3 hgrow hat hlt
          have hal := (Below.refl wr.heap.size wr).alloc (Nat.le_refl _) (.cells #[Value.slice (some ⟨gn, 0, none⟩) t cn] 33)
          have hou := own_below HOUT2.out hal
          have hne : ∀ base n v xs, (wr.alloc (.cells #[Value.slice (some ⟨gn, 0, none⟩) t cn] 33)).ownsRow base 22 1 v n xs → w3.ownsRow base 22 1 v n xs := fun base n v xs h =>
            own_grown h hgrow (fun g hg => own_other h hou (by decide) g hg)
          have hbw3 : Below w.heap.size w w3 := (hbw2.alloc hbw2.size _).grown hgrow (by have := hbw2.size; simp; omega) (fun j hj => (own_lt hou j hj).1)
          have HC3 := Lib.hid (hne _ _ _ _ (own_below HCUR2.out hal))
          have HR3 := Lib.hid ((HROWS2.out.keep fun _ _ _ _ h => own_below h hal).keep hne)
          have HN3 := Lib.hid (own_base (base2 := w.heap.size) (hne _ _ _ _ (own_below HNX2.out hal)) (fun g hg => by
            have := (own_lt (hne _ _ _ _ (own_below HNX2.out hal)) g hg).1
            omega))
          have HO3 := Lib.hid hown3
          clear hown3 hgrow hat hou hne hal hi0 hz0 hz1 hz2
          go_wp2
          go_roundg t
          case measure => rw [HG.out]; exact bm1
          case rel =>
            refine ⟨pre ++ [cur], P, vs ++ [.slice (some ⟨gc, 0, none⟩) m cc], t, gn, cn, gg, cap2, rfl, HPL2.out.symm, bm2, ?_, rfl, ?_, ?_, ?_, HN3.out, ?_, HPU.out, hbw3⟩
            · rw [List.length_append, List.length_singleton, ← HPL.out]; omega
            · rw [List.length_append, List.length_singleton, ← HPL.out]
            · rw [List.length_append, List.length_singleton, ← HPL.out, List.append_assoc]; exact HO3.out
            · exact HR3.out.snoc HM.out HC3.out
            · rw [← HLEV.out, HPLEV.out]; simp
    · have e1 : levs tieI cur = [cur] := levs_short tieI cur (by rw [← HM.out]; omega)
      have hl : levs tieI l = pre ++ [cur] := by rw [← HLEV.out, e1]
      have hlen : (pre ++ [cur]).length = pl + 1 := by rw [List.length_append, List.length_singleton, ← HPL.out]
      have hrows := HROWS.out.snoc HM.out HCUR.out
      have hout := HOUT.out
      rw [← HPL.out, ← hlen] at hout
      have hfin := lev_of_rows hrows hout (by rw [hlen]; omega)
      rw [hlen, ← hl] at hfin
      have HFIN := Lib.hid hfin
      clear e1 hl hlen hrows hout hfin
      go_wp2
      go_ret
      exact ⟨_, rfl, HFIN.out, hbw⟩
end Go.Proofs.Ytdhaaeaacbnghaa
