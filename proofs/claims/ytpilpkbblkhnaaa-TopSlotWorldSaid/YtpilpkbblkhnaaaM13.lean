/- Lemmas for the law TopSlotWorld: TmComps, TmWorld. No conditions. -/
import Derived.Test.YtpilpkbblkhnaaaM12
import Derived.Test.YtpilpkbblkhnaaaM05
import Derived.Deep.LoopGhost
import Derived.Deep.DeepMust
import Derived.Deep.DeepCutAuto
import Derived.RegionTactic
import Derived.OwnWalk
/- tourmake.comps: by program (gen_tmcomps.py). -/
section
namespace Go.Proofs.Ytpilpkbblkhnaaa
open Go.ChangeShapes Go.WideShapes Go.ChangeAt Go.RowKit Go.Nm Go.Mem
set_option linter.unusedVariables false
def ValOk (f : FieldV) (v : Int) : Prop := f.low ≤ v ∧ v < f.low + ((2 ^ f.bits.toNat : Nat) : Int)
def ValsOk (fs : List FieldV) (vs : List Int) : Prop := vs.length ≤ fs.length ∧ ∀ j (h : j < vs.length) (h2 : j < fs.length), ValOk fs[j] vs[j]
def CompOk (ks : List KindV) (c : CompV) : Prop := 0 ≤ c.kind ∧ c.kind < ks.length ∧ c.vals.length = (ks.getD c.kind.toNat default).fields.length ∧ ValsOk (ks.getD c.kind.toNat default).fields c.vals
def CsOk (ks : List KindV) (i : Nat) (cs : List CompV) : Prop := cs.length ≤ i ∧ cs.Pairwise (fun x y => x.kind < y.kind) ∧ ∀ c ∈ cs, c.kind < (i : Int) ∧ CompOk ks c
theorem ValsOk.snoc {fs : List FieldV} {vs : List Int} {v : Int} (h : ValsOk fs vs) (hl : vs.length < fs.length) (hv : ValOk fs[vs.length] v) : ValsOk fs (vs ++ [v]) := by
  refine ⟨by rw [List.length_append, List.length_singleton]; omega, fun j hj h2 => ?_⟩
  by_cases hjl : j < vs.length
  · rw [List.getElem_append_left hjl]; exact h.2 j hjl h2
  · have e : j = vs.length := by rw [List.length_append, List.length_singleton] at hj; omega
    subst e
    rw [List.getElem_append_right (Nat.le_refl _)]
    simpa using hv
theorem CsOk.mono {ks : List KindV} {i : Nat} {cs : List CompV} (h : CsOk ks i cs) : CsOk ks (i + 1) cs := ⟨Nat.le_succ_of_le h.1, h.2.1, fun c hc => ⟨by have := (h.2.2 c hc).1; omega, (h.2.2 c hc).2⟩⟩
theorem CsOk.snoc {ks : List KindV} {i : Nat} {cs : List CompV} {c : CompV} (h : CsOk ks i cs) (hk : c.kind = (i : Int)) (hc : CompOk ks c) : CsOk ks (i + 1) (cs ++ [c]) := by
  refine ⟨by rw [List.length_append, List.length_singleton]; have := h.1; omega, ?_, fun x hx => ?_⟩
  · rw [List.pairwise_append]
    refine ⟨h.2.1, List.pairwise_singleton _ _, fun x hx y hy => ?_⟩
    rw [List.mem_singleton.1 hy, hk]
    exact (h.2.2 x hx).1
  · rcases List.mem_append.1 hx with hx | hx
    · exact ⟨by have := (h.2.2 x hx).1; omega, (h.2.2 x hx).2⟩
    · rw [List.mem_singleton.1 hx]
      exact ⟨by rw [hk]; omega, hc⟩
/-- the components so far, and the stream -/
def CSt (W : World) (g : Nat) (ks : List KindV) (i : Nat) (w : World) (V : Value) : Prop := ∃ cs : List CompV, GrowL EComp W.heap.size 60 2 w V cs ∧ CsOk ks i cs ∧ Strm w g ∧ W.grownBy w (some g)
/-- the numbers of the component in its box b -/
def VSt (W : World) (g b j : Nat) (kd : Int) (fs : List FieldV) (w : World) : Prop := ∃ (V : Value) (vs : List Int), w.heap[b]? = some (.cells #[.int .i64 kd, V] 60 (0, 0)) ∧ w.ownsRow (b + 1) 3 1 V j (vints .i64 vs) ∧ vs.length = j ∧ ValsOk fs vs ∧ Strm w g ∧ W.grownBy w (some g)
def TmCompsP (g : Nat) (ks : List KindV) (W : World) (e : Ending) (w' : World) : Prop := ∃ (cs : List CompV) (a : Option Addr) (c : Nat), e = .returned (.slice a cs.length c) ∧ cs.length ≤ c ∧ c ≤ 9223372036854775807 ∧ CsOk ks ks.length cs ∧ Up W.heap.size (fun w => SlAt 2 CompAt w a cs) w' ∧ (∀ x, a = some x → W.heap.size ≤ x.block) ∧ Strm w' g ∧ W.grownBy w' (some g)
theorem vints_snoc (vs : List Int) (x : Int) : vints .i64 (vs ++ [x]) = vints .i64 vs ++ [.int .i64 x] := by unfold vints; rw [List.map_append]; rfl
theorem inv_step {p q g b j : Nat} {T : TypeId} {V : Value} {xs : List Value} (hg : g < b) {i : Nat} {a c : World} (hi : i ≠ q) (h : R2 p q g V.ownBlock i a c) (ho : Strm a g ∧ a.ownsRow b T 1 V j xs) : Strm c g ∧ c.ownsRow b T 1 V j xs := by
  by_cases hp : i = p
  · obtain ⟨h1, h2⟩ := h.2.1 hp
    exact ⟨h2, own_grown ho.2 h1 (fun q hq e => by have := (own_lt ho.2 q hq).1; injection e with e; omega)⟩
  · have hb := h.1 hp hi
    exact ⟨ho.1.below hb, own_below ho.2 hb⟩
theorem fld_range {j : Nat} {f : FieldV} (h : FldOk j f) : ∃ n : Nat, f.bits = (n : Int) ∧ 1 ≤ n ∧ n ≤ 32 ∧ -2147483648 ≤ f.low ∧ f.low ≤ 9 := ⟨f.bits.toNat, by rcases h.2 with h | h <;> omega, by rcases h.2 with h | h <;> omega, by rcases h.2 with h | h <;> omega, by rcases h.2 with h | h <;> omega, by rcases h.2 with h | h <;> omega⟩
theorem list14 {α : Type} {vs : List α} (h : vs.length = 14) : ∃ x0 x1 x2 x3 x4 x5 x6 x7 x8 x9 x10 x11 x12 x13, vs = [x0, x1, x2, x3, x4, x5, x6, x7, x8, x9, x10, x11, x12, x13] := by
  obtain ⟨x0, t0, rfl, h0⟩ := cons_of h
  obtain ⟨x1, t1, rfl, h1⟩ := cons_of h0
  obtain ⟨x2, t2, rfl, h2⟩ := cons_of h1
  obtain ⟨x3, t3, rfl, h3⟩ := cons_of h2
  obtain ⟨x4, t4, rfl, h4⟩ := cons_of h3
  obtain ⟨x5, t5, rfl, h5⟩ := cons_of h4
  obtain ⟨x6, t6, rfl, h6⟩ := cons_of h5
  obtain ⟨x7, t7, rfl, h7⟩ := cons_of h6
  obtain ⟨x8, t8, rfl, h8⟩ := cons_of h7
  obtain ⟨x9, t9, rfl, h9⟩ := cons_of h8
  obtain ⟨x10, t10, rfl, h10⟩ := cons_of h9
  obtain ⟨x11, t11, rfl, h11⟩ := cons_of h10
  obtain ⟨x12, t12, rfl, h12⟩ := cons_of h11
  obtain ⟨x13, t13, rfl, h13⟩ := cons_of h12
  exact ⟨x0, x1, x2, x3, x4, x5, x6, x7, x8, x9, x10, x11, x12, x13, by rw [List.eq_nil_of_length_eq_zero h13]⟩
def F_tmc (g b8 bX nb j BA : Nat) (lo : Int) (V8 : Value) (zs : List Int) (jq : Nat) (v : Value) (w : World) : Prop :=
  match jq with
  | 0 => v = .pointer (some ⟨b8, 1, none⟩)
  | 1 => v = V8
  | 2 => v = .pointer (some ⟨bX, 2, none⟩)
  | 3 => v = .int .i64 lo
  | 4 => v = .pointer (some ⟨g, 0, none⟩)
  | 5 => v = .pointer (some ⟨bX, 1, none⟩)
  | 6 => v = .int .i64 (nb : Int)
  | 7 => v = .int .i64 ((2 ^ nb : Nat) : Int)
  | 8 => ∃ r : Nat, v = .int .i64 (r : Int) ∧ r < 2 ^ nb
  | 9 => ∃ x : Int, v = .int .i64 x ∧ lo ≤ x ∧ x < lo + ((2 ^ nb : Nat) : Int)
  | 10 => ∃ (q : Nat) (x : Int), v = .slice (some ⟨q, 0, none⟩) 1 1 ∧ CellsAt w (some ⟨q, 0, none⟩) [.int .i64 x] ∧ BA ≤ q ∧ lo ≤ x ∧ x < lo + ((2 ^ nb : Nat) : Int)
  | 11 => ∃ x : Int, w.ownsRow (b8 + 1) 3 1 v (j + 1) (vints .i64 zs ++ [.int .i64 x]) ∧ lo ≤ x ∧ x < lo + ((2 ^ nb : Nat) : Int) ∧ Strm w g
  | 12 => v = .pointer (some ⟨b8, 1, none⟩)
  | _ => True
theorem F_tmc_mono (g b8 bX nb j BA : Nat) (lo : Int) (V8 : Value) (zs : List Int) (hgB : g < b8 + 1) (hbA : b8 < BA) (hV : ∀ q, V8.ownBlock = some q → b8 + 1 ≤ q ∧ q < BA) : FactsR (R2 8 11 g V8.ownBlock) (F_tmc g b8 bX nb j BA lo V8 zs) := ⟨by
  intro i jq v w w' hij h hb
  unfold F_tmc at h ⊢
  split at h
  all_goals first
    | exact h
    | (obtain ⟨q, x, e, h1, h2, h3⟩ := h
       exact ⟨q, x, e, fun h0 => by
         obtain ⟨y, ey, hy, hc⟩ := h1 h0
         injection ey with ey
         subst ey
         refine ⟨_, rfl, Nat.lt_of_lt_of_le hy hb.g2.size, fun k u hu => ?_⟩
         have := hc k u hu
         rw [World.cell?_of_block (w := w) (by rw [block_of_add]; exact hb.g2.block q hy (some_ne (by omega)) (fun e => by have := (hV q e.symm).2; omega))]
         exact this, h2, h3⟩)
    | (obtain ⟨x, h1, h2, h3, h4⟩ := h
       by_cases hi8 : i = 8
       · obtain ⟨k1, k2⟩ := hb.2.1 hi8
         exact ⟨x, own_grown h1 k1 (fun q hq e => by have := (own_lt h1 q hq).1; injection e with e; omega), h2, h3, k2⟩
       · have hbb := hb.1 hi8 hij
         exact ⟨x, own_below h1 hbb, h2, h3, h4.below hbb⟩)
    | trivial⟩
set_option maxHeartbeats 8000000 in
set_option maxRecDepth 100000 in
theorem tm_comps (g B : Nat) (ks : List KindV) (ka : Option Addr) (n kc : Nat) (hn : ks.length = n) (hko : KsOk ks) (W : World) (hz : KRd B W ka ks) (hgB : g < B) (hs : Strm W g) : Calls Try.prog 23 #[.slice ka n kc, .pointer (some ⟨g, 0, none⟩)] W (TmCompsP g ks W) := by
  have HS := Lib.hid hs
  have HG := Lib.hid hs.lt
  have HZ := Lib.hid hz
  have HGB := Lib.hid hgB
  have HN := Lib.hid hn
  have HKO := Lib.hid hko
  have hn4 : n ≤ 4 := by have := hko.1; omega
  have HN4 := Lib.hid hn4
  have CN := Lib.hid (fun n h1 h2 w hs => tm_Next g n h1 h2 w hs)
  have HK0 := Lib.hid (show CSt W g ks 0 W (.slice none 0 0) from ⟨[], GrowL.nil _ _ _ _ _, ⟨Nat.le_refl _, List.Pairwise.nil, fun c h => absurd h (by simp)⟩, hs, World.grownBy.refl _ _⟩)
  clear hs hz hgB hn hko hn4
  go_enter Try.func23, Try.ntmps23
  go_wp2_with fail
  go_loopg [5, 6, 7, 8, 10, 13] n (fun gk v5 _ _ _ _ vi wx => ∃ (i : Nat) (V : Value), V = v5 ∧ i ≤ n ∧ gk = n - i ∧ vi = .int .i64 i ∧ Hid (CSt W g ks i wx V))
  case atStart => exact ⟨0, _, rfl, Nat.zero_le _, rfl, rfl, HK0⟩
  case round =>
    clear HK0
    obtain ⟨i, V, hV, hi, g2, rfl, HK⟩ := hrel
    subst hV
    have GM2 := Lib.hid g2
    clear g2
    by_cases hlt : i < n
    · have hik : i < ks.length := by rw [HN.out]; exact hlt
      have hgw0 : W.grownBy wr (some g) := by obtain ⟨_, _, _, _, h⟩ := HK.out; exact h
      have hst0 : Strm wr g := by obtain ⟨_, _, _, h, _⟩ := HK.out; exact h
      obtain ⟨kb, ko, fa, fc, rfl, hck, hfl, hfm, hfu⟩ := (HZ.out.same (sameUp_gb hgw0 HGB.out)).kind i hik
      obtain ⟨K, hK⟩ : ∃ K, K = ks[i] := ⟨_, rfl⟩
      rw [← hK] at hck hfl hfu
      have hkok : KndOk i K := by rw [hK]; exact HKO.out.2 i hik
      have hgetD : ks.getD i default = K := by rw [hK, List.getD_eq_getElem?_getD, List.getElem?_eq_getElem hik]; rfl
      obtain ⟨nm, hnm⟩ : ∃ x, x = K.name := ⟨_, rfl⟩
      obtain ⟨fs, hfs⟩ : ∃ x, x = K.fields := ⟨_, rfl⟩
      obtain ⟨m, hm⟩ : ∃ m, m = fs.length := ⟨_, rfl⟩
      rw [← hnm, ← hfs, ← hm] at hck
      rw [← hfs] at hfl hfu
      have hm3 : m ≤ 3 := by rw [hm, hfs]; exact hkok.2.1
      have q0 := hck 0 _ rfl
      have q1 := hck 1 _ rfl
      rw [Nat.add_zero] at q0
      have hbx := (Below.refl wr.heap.size wr).alloc (Nat.le_refl _) (.cells #[.string nm, .slice fa m fc] 58)
      have hx7 := heap_alloc_new wr (.cells #[.string nm, .slice fa m fc] 58)
      obtain ⟨w5, hw5⟩ : ∃ w, w = wr.alloc (.cells #[.string nm, .slice fa m fc] 58) := ⟨_, rfl⟩
      rw [← hw5] at hbx hx7
      have HW5 := Lib.hid hw5
      have HX7 := Lib.hid hx7
      have HS5 := Lib.hid (hst0.below hbx)
      have HG5 := Lib.hid (show wr.grownBy w5 (some g) from ⟨hbx.os, hbx.tape, hbx.output, hbx.size, fun k hk _ => hbx.block k hk⟩)
      have HFU := Lib.hid hfu
      have HFS := Lib.hid (show FldsOk fs by rw [hfs]; exact hkok.2)
      have HGD := Lib.hid (show (ks.getD i default).fields = fs by rw [hgetD, hfs])
      have HM3 := Lib.hid (And.intro hm hm3)
      have HGR := Lib.hid (show g < wr.heap.size from hst0.lt)
      have HWB := Lib.hid (show W.heap.size ≤ wr.heap.size from hgw0.size)
      have wi : IntKind.i64.wrap ((i : Int) + 1) = ((i + 1 : Nat) : Int) := by have := HN4.out; rw [IntKind.wrap_i64]; omega
      have HLT := Lib.hid hlt
      obtain ⟨wo, hwo⟩ : ∃ wo, wo = wr := ⟨_, rfl⟩
      subst hwo
      have tI : decide (i < n) = true := by simp; exact hlt
      clear hik hgw0 hst0 hck hfl hfm hfu hK hkok hgetD hnm hfs hm hm3 hbx hx7 hw5
      go_wp2_with fail
      rw [← HW5.out]
      refine (CN.out 3 (by decide) (by decide) w5 HS5.out).mono ?_
      rintro e w6 ⟨⟨r, rfl, hr⟩, hs6, hg6, -⟩
      have HG6 := Lib.hid (HG5.out.trans hg6)
      have HS6 := Lib.hid hs6
      have hx7 := heap_gb HX7.out hg6 (some_ne (by have := HGR.out; omega))
      have HX6 := Lib.hid hx7
      clear hs6 hg6 hx7 HX7 HS5 HG5 HW5 q0 q1
      by_cases hr2 : r = 2
      · subst hr2
        obtain ⟨cs, hgr, hcs, hst0, hgw0⟩ := HK.out
        have HK2 := Lib.hid (show CSt W g ks (i + 1) w6 V from ⟨cs, hgr.frame HG6.out.size (fun q h1 h2 => HG6.out.block q h2 (some_ne (by have := HG.out; omega))), hcs.mono, HS6.out, hgw0.trans HG6.out⟩)
        clear hgr hcs hst0 hgw0
        go_wp2_with fail
        go_roundg (n - (i + 1))
        case measure => rw [GM2.out]; have := HLT.out; omega
        case rel => have := HLT.out; exact ⟨i + 1, _, rfl, by omega, rfl, (by first | rfl | go_num | simp), HK2⟩
      · have t2 : ((r : Int) == 2) = false := by simp; omega
        have hb8 := heap_alloc_new w6 (.cells #[.int .i64 (i : Int), .slice none 0 0] 60)
        have hbc := (Below.refl w6.heap.size w6).alloc (Nat.le_refl _) (.cells #[.int .i64 (i : Int), .slice none 0 0] 60)
        have x1 := cell_of_row _ _ 1 _ _ _ (heap_below HX6.out hbc)
        obtain ⟨w7, hw7⟩ : ∃ w, w = w6.alloc (.cells #[.int .i64 (i : Int), .slice none 0 0] 60) := ⟨_, rfl⟩
        rw [← hw7] at hb8 hbc x1
        obtain ⟨b8, hb8e⟩ : ∃ b, b = w6.heap.size := ⟨_, rfl⟩
        rw [← hb8e] at hb8
        have HB8 := Lib.hid (show wo.heap.size ≤ b8 by rw [hb8e]; exact HG6.out.size)
        have HV0 := Lib.hid (show VSt wo g b8 0 (i : Int) fs w7 from ⟨.slice none 0 0, [], hb8, World.ownsRow_nil _ _ _ _, rfl, ⟨Nat.zero_le _, fun j h => absurd h (by simp)⟩, HS6.out.below hbc, gb_new HG6.out (row2 := some w7.heap.size) ⟨hbc.os, hbc.tape, hbc.output, hbc.size, fun q hq _ => hbc.block q hq⟩ (fun r hr => by injection hr with hr; rw [← hr]; exact Nat.le_trans HG6.out.size hbc.size)⟩)
        have HW7 := Lib.hid (And.intro hw7 hb8e)
        clear hb8 hbc hw7 hb8e hr hr2 HX6 HS6 HG6
        go_wp2_with (rw [← HW7.out.1, ← HW7.out.2])
        clear x1 HW7 t2
        go_loopg [10, 26] m (fun gk2 _ vj wy => ∃ j : Nat, j ≤ m ∧ gk2 = m - j ∧ vj = .int .i64 j ∧ Hid (VSt wo g b8 j (i : Int) fs wy))
        case atStart => exact ⟨0, Nat.zero_le _, rfl, rfl, HV0⟩
        case round =>
          clear HV0
          obtain ⟨j, hj, g3, rfl, HF⟩ := hrel
          have G3 := Lib.hid g3
          clear g3
          by_cases hjt : j < m
          · obtain ⟨V8, zs, hbox, hown, hvl, hvo, hst, hgw⟩ := HF.out
            have hjf : j < fs.length := by rw [← HM3.out.1]; exact hjt
            have hfu : SlAt 3 FieldAt wr fa fs := (HFU.out.same (sameUp_gb hgw HGB.out)).now
            obtain ⟨x, rfl, _, _⟩ := hfu (by omega)
            obtain ⟨fb, fo, rfl, hcf⟩ := fld_cells hfu j hjf
            obtain ⟨f, hf⟩ : ∃ f, f = fs[j] := ⟨_, rfl⟩
            rw [← hf] at hcf
            obtain ⟨nb, hnb, hnb1, hnb2, hlo1, hlo2⟩ := fld_range (show FldOk j f by rw [hf]; exact HFS.out.2 j hjf)
            obtain ⟨fn, hfn⟩ : ∃ x, x = f.name := ⟨_, rfl⟩
            obtain ⟨lo, hlo⟩ : ∃ x, x = f.low := ⟨_, rfl⟩
            rw [← hfn, hnb, ← hlo] at hcf
            rw [← hlo] at hlo1 hlo2
            have f0 := hcf 0 _ rfl
            have f1 := hcf 1 _ rfl
            have f2 := hcf 2 _ rfl
            rw [Nat.add_zero] at f0
            have hba := (Below.refl wr.heap.size wr).alloc (Nat.le_refl _) (.cells #[.string fn, .int .i64 (nb : Int), .int .i64 lo] 55)
            have h10 := heap_alloc_new wr (.cells #[.string fn, .int .i64 (nb : Int), .int .i64 lo] 55)
            obtain ⟨wA, hwA⟩ : ∃ w, w = wr.alloc (.cells #[.string fn, .int .i64 (nb : Int), .int .i64 lo] 55) := ⟨_, rfl⟩
            rw [← hwA] at hba h10
            obtain ⟨bX, hbX⟩ : ∃ b, b = wr.heap.size := ⟨_, rfl⟩
            rw [← hbX] at h10
            have HWA := Lib.hid (And.intro hwA hbX)
            have H10 := Lib.hid h10
            have HBX := Lib.hid (heap_below hbox hba)
            have HOW := Lib.hid (own_below hown hba)
            have HST := Lib.hid (hst.below hba)
            have HGW := Lib.hid (show wo.grownBy wA (some g) from gb_new hgw (row2 := some wA.heap.size) ⟨hba.os, hba.tape, hba.output, hba.size, fun q hq _ => hba.block q hq⟩ (fun r hr => by injection hr with hr; rw [← hr]; exact Nat.le_trans hgw.size hba.size))
            have HVS := Lib.hid (And.intro hvl hvo)
            have HVB := Lib.hid (show ∀ q, V8.ownBlock = some q → b8 + 1 ≤ q ∧ q < bX by rw [hbX]; exact own_lt hown)
            have HBB := Lib.hid (show b8 < bX ∧ bX < wA.heap.size from ⟨by rw [hbX]; exact lt_of_heap hbox, lt_of_heap h10⟩)
            have HNB := Lib.hid (And.intro hnb1 (And.intro hnb2 (And.intro hlo1 hlo2)))
            have HFJ := Lib.hid (show ∀ v : Int, lo ≤ v → v < lo + ((2 ^ nb : Nat) : Int) → ∀ h : j < fs.length, ValOk fs[j] v from fun v h1 h2 h => by
              rw [← hf]; unfold ValOk; rw [← hlo, hnb, Int.toNat_natCast]; exact ⟨h1, h2⟩)
            have HLJ := Lib.hid (And.intro hjt hjf)
            have HGBo := Lib.hid (show g < b8 + 1 by have := HGR.out; have := HB8.out; omega)
            have wj : IntKind.i64.wrap ((j : Int) + 1) = ((j + 1 : Nat) : Int) := by have := HM3.out.2; rw [IntKind.wrap_i64]; omega
            have tJ : decide (j < m) = true := by simp; exact hjt
            clear hbox hown hvl hvo hst hgw hjf hfu hcf hf hnb hnb1 hnb2 hlo1 hlo2 hfn hlo hba h10 hwA hbX HF
            go_upto_region 10 with fail
            rw [← HWA.out.1, ← HWA.out.2]
            clear f0 f1 f2
            refine wp_region_facts_r rfl 13 (by kernel_rfl) (fun a b => G2 (some g) V8.ownBlock a b ∧ (Strm a g → Strm b g)) ⟨G2.drew _ _ _, fun h => h.below ((Below.refl _ _).drew)⟩ (fun _ _ _ h h2 => ⟨h.1.trans h2.1, fun k => h2.2 (h.2 k)⟩) (R2 8 11 g V8.ownBlock) (fun i a b h => ⟨h.g2, h.strm HGBo.out (fun r hr => (HVB.out r hr).1)⟩) (F_tmc g b8 bX nb j wA.heap.size lo V8 zs) (F_tmc_mono g b8 bX nb j wA.heap.size lo V8 zs HGBo.out (Nat.lt_trans HBB.out.1 HBB.out.2) (fun q hq => ⟨(HVB.out q hq).1, Nat.lt_trans (HVB.out q hq).2 HBB.out.2⟩)) 11 (fun w => Strm w g ∧ w.ownsRow (b8 + 1) 3 1 V8 j (vints .i64 zs)) ⟨HST.out.below ((Below.refl _ _).drew), own_below HOW.out ((Below.refl _ _).drew)⟩ (fun i a b hi h ho => inv_step HGBo.out hi h ho) ?_ ?_
            · refine ⟨?_, ?_, ?_, ?_, ?_, ?_, ?_, ?_, ?_, ?_, ?_, ?_, ?_, trivial⟩
              · intro vs w' F hb hd hF hl hT hq
                have e := (hF 8).trans (look_out _ 8 _ _ (by kernel_rfl))
                exact one_field _ _ _ rfl rfl _ _ e (1) (fun w => by kernel_rfl) ⟨_, rfl, (R2.same _ (by decide)), rfl⟩
              · intro vs w' F hb hd hF hl hT hq
                have e := ((hF 30).trans (look_at _ 30 0 _ _ (by kernel_rfl) (by kernel_rfl) hl)).trans (dep_of (Fact := F_tmc g b8 bX nb j wA.heap.size lo V8 zs) hd 0 (by kernel_rfl))
                exact one_load _ _ rfl rfl _ _ e (cell_of_row _ _ 1 _ _ _ (hb.1.row HBX.out (some_ne (show b8 ≠ g by have := HGBo.out; have := HGR.out; have := HB8.out; omega)) (fun e => by have := (HVB.out b8 e.symm).1; omega))) (by kernel_rfl) ⟨_, rfl, (R2.same _ (by decide)), rfl⟩
              · intro vs w' F hb hd hF hl hT hq
                have e := (hF 10).trans (look_out _ 10 _ _ (by kernel_rfl))
                exact one_field _ _ _ rfl rfl _ _ e (2) (fun w => by kernel_rfl) ⟨_, rfl, (R2.same _ (by decide)), rfl⟩
              · intro vs w' F hb hd hF hl hT hq
                have e := ((hF 32).trans (look_at _ 32 2 _ _ (by kernel_rfl) (by kernel_rfl) hl)).trans (dep_of (Fact := F_tmc g b8 bX nb j wA.heap.size lo V8 zs) hd 2 (by kernel_rfl))
                exact one_load _ _ rfl rfl _ _ e (cell_of_row _ _ 2 _ _ _ (hb.1.row H10.out (some_ne (show bX ≠ g by have := HBB.out; have := HGR.out; have := HB8.out; omega)) (fun e => by have := (HVB.out bX e.symm).2; omega))) (by kernel_rfl) ⟨_, rfl, (R2.same _ (by decide)), rfl⟩
              · intro vs w' F hb hd hF hl hT hq
                have e := (hF 1).trans (look_out _ 1 _ _ (by kernel_rfl))
                exact one_move _ rfl (by first | exact Or.inl rfl | exact Or.inr rfl) ⟨_, rfl, (R2.same _ (by decide)), e⟩
              · intro vs w' F hb hd hF hl hT hq
                have e := (hF 10).trans (look_out _ 10 _ _ (by kernel_rfl))
                exact one_field _ _ _ rfl rfl _ _ e (1) (fun w => by kernel_rfl) ⟨_, rfl, (R2.same _ (by decide)), rfl⟩
              · intro vs w' F hb hd hF hl hT hq
                have e := ((hF 35).trans (look_at _ 35 5 _ _ (by kernel_rfl) (by kernel_rfl) hl)).trans (dep_of (Fact := F_tmc g b8 bX nb j wA.heap.size lo V8 zs) hd 5 (by kernel_rfl))
                exact one_load _ _ rfl rfl _ _ e (cell_of_row _ _ 1 _ _ _ (hb.1.row H10.out (some_ne (show bX ≠ g by have := HBB.out; have := HGR.out; have := HB8.out; omega)) (fun e => by have := (HVB.out bX e.symm).2; omega))) (by kernel_rfl) ⟨_, rfl, (R2.same _ (by decide)), rfl⟩
              · intro vs w' F hb hd hF hl hT hq
                have e2 := (((hF 36).trans (look_at _ 36 6 _ _ (by kernel_rfl) (by kernel_rfl) hl)).trans (dep_of (Fact := F_tmc g b8 bX nb j wA.heap.size lo V8 zs) hd 6 (by kernel_rfl)))
                exact rg_shl1 _ _ _ _ rfl rfl nb HNB.out.2.1 rfl e2 ⟨_, rfl, (R2.same _ (by decide)), rfl⟩
              · intro vs w' F hb hd hF hl hT hq
                have e1 := (((hF 34).trans (look_at _ 34 4 _ _ (by kernel_rfl) (by kernel_rfl) hl)).trans (dep_of (Fact := F_tmc g b8 bX nb j wA.heap.size lo V8 zs) hd 4 (by kernel_rfl)))
                have e2 := (((hF 37).trans (look_at _ 37 7 _ _ (by kernel_rfl) (by kernel_rfl) hl)).trans (dep_of (Fact := F_tmc g b8 bX nb j wA.heap.size lo V8 zs) hd 7 (by kernel_rfl)))
                have hst := hb.2 HST.out
                refine one_call _ _ rfl rfl (enters_of Try.func22 (by kernel_rfl) rfl) #[.pointer (some ⟨g, 0, none⟩), .int .i64 ((2 ^ nb : Nat) : Int)] (eval2 e1 e2) ?_
                refine (CN.out ((2 ^ nb : Nat) : Int) (by have := Nat.one_le_two_pow (n := nb); omega) (by have := Nat.pow_le_pow_right (show 1 ≤ 2 by decide) HNB.out.2.1; omega) w' hst).mono ?_
                rintro e2 w2 ⟨⟨r, rfl, hr⟩, hs2, hg2, -⟩
                exact ⟨_, rfl, _, rfl, ⟨fun h => absurd rfl h, fun _ => ⟨hg2, hs2⟩, fun h => absurd h (by decide)⟩, r, rfl, by omega⟩
              · intro vs w' F hb hd hF hl hT hq
                obtain ⟨r, hv2, hr⟩ := (dep_of (Fact := F_tmc g b8 bX nb j wA.heap.size lo V8 zs) hd 8 (by kernel_rfl))
                have e1 := (((hF 33).trans (look_at _ 33 3 _ _ (by kernel_rfl) (by kernel_rfl) hl)).trans (dep_of (Fact := F_tmc g b8 bX nb j wA.heap.size lo V8 zs) hd 3 (by kernel_rfl)))
                have e2 := ((hF 38).trans (look_at _ 38 8 _ _ (by kernel_rfl) (by kernel_rfl) hl)).trans hv2
                exact rg_add _ _ _ _ rfl rfl lo (r : Int) (lo + (r : Int)) e1 e2 (by have := HNB.out; have := Nat.pow_le_pow_right (show 1 ≤ 2 by decide) HNB.out.2.1; rw [IntKind.wrap_i64]; omega) ⟨_, rfl, (R2.same _ (by decide)), _, rfl, by omega, by omega⟩
              · intro vs w' F hb hd hF hl hT hq
                obtain ⟨x, hv2, h1, h2⟩ := (dep_of (Fact := F_tmc g b8 bX nb j wA.heap.size lo V8 zs) hd 9 (by kernel_rfl))
                have ex := ((hF 39).trans (look_at _ 39 9 _ _ (by kernel_rfl) (by kernel_rfl) hl)).trans hv2
                exact rg_slice1 22 3 _ rfl rfl x ex Try.underlying22 (by kernel_rfl) ⟨_, rfl, R2.below (by decide) (by decide) ((Below.refl _ _).alloc (Nat.le_refl _) _), _, x, rfl, new_cellsT _ #[.int .i64 x] 3, hb.1.size, h1, h2⟩
              · intro vs w' F hb hd hF hl hT hq
                obtain ⟨q, x, hv2, hcl, hq2, h1, h2⟩ := (dep_of (Fact := F_tmc g b8 bX nb j wA.heap.size lo V8 zs) hd 10 (by kernel_rfl))
                have g0 := (((hF 31).trans (look_at _ 31 1 _ _ (by kernel_rfl) (by kernel_rfl) hl)).trans (dep_of (Fact := F_tmc g b8 bX nb j wA.heap.size lo V8 zs) hd 1 (by kernel_rfl)))
                have g4 := ((hF 40).trans (look_at _ 40 10 _ _ (by kernel_rfl) (by kernel_rfl) hl)).trans hv2
                have hiv := hq rfl
                refine wpList_append_cells rfl _ _ 22 rfl (b8 + 1) 3 (.int .i64 0) 1 8 Try.underlying22 (by kernel_rfl) rfl (by decide) V8 j (vints .i64 zs) g0 hiv.2 (some ⟨q, 0, none⟩) 1 1 [.int .i64 x] g4 rfl hcl (by simp [Value.oneCell']) (by have := HLJ.out.1; have := HM3.out.2; unfold maxLen; omega) (by have := HLJ.out.1; have := HM3.out.2; omega) (Nat.le_trans (Nat.le_trans HBB.out.1 (Nat.le_of_lt HBB.out.2)) hb.1.size) ?_
                intro v2 w2 hown2 hg2 hor2
                exact ⟨_, rfl, ⟨fun _ h => absurd rfl h, fun h => absurd h (by decide), fun _ => hg2⟩, x, hown2, h1, h2, hiv.1.gb hg2 HGBo.out (fun r hr => (HVB.out r hr).1)⟩
              · intro vs w' F hb hd hF hl hT hq
                have e := (hF 8).trans (look_out _ 8 _ _ (by kernel_rfl))
                exact one_field _ _ _ rfl rfl _ _ e (1) (fun w => by kernel_rfl) ⟨_, rfl, (R2.same _ (by decide)), rfl⟩
            · intro vs8 W8 hl hb hI
              have i11 := hI 11 (by omega)
              have i12 : vs8.getD 12 undef = .pointer (some ⟨b8, 1, none⟩) := hI 12 (by omega)
              obtain ⟨x, hown2, hx1, hx2, hst2⟩ := i11
              obtain ⟨x0, x1, x2, x3, x4, x5, x6, x7, x8, x9, x10, x11, x12, x13, hvs⟩ := list14 hl
              subst hvs
              replace i12 : x12 = .pointer (some ⟨b8, 1, none⟩) := i12
              replace hown2 : W8.ownsRow (b8 + 1) 3 1 x11 (j + 1) (vints .i64 zs ++ [.int .i64 x]) := hown2
              subst i12
              obtain ⟨q', cap', hv', _, _⟩ := hown2.form (by omega)
              subst hv'
              have hrow8 := hb.1.row HBX.out (some_ne (show b8 ≠ g by have := HGBo.out; have := HGR.out; have := HB8.out; omega)) (fun e => by have := (HVB.out b8 e.symm).1; omega)
              have hq' : b8 + 1 ≤ q' := (own_lt hown2 q' rfl).1
              have hgb8 : wo.grownBy W8 (some g) := ⟨hb.1.os.trans HGW.out.os, hb.1.tape.trans HGW.out.tape, hb.1.output.trans HGW.out.output, Nat.le_trans HGW.out.size hb.1.size, fun k hk hne => (hb.1.block k (Nat.lt_of_lt_of_le hk HGW.out.size) hne (fun e => by have := (HVB.out k e.symm).1; have := HB8.out; omega)).trans (HGW.out.block k hk hne)⟩
              have z1 := cell_of_row _ _ 1 _ _ _ hrow8
              have k1 := Mem.frozen_of_row hrow8 1
              have HF2 := Lib.hid (show VSt wo g b8 (j + 1) (i : Int) fs (W8.setCell ⟨b8, 1, none⟩ (.slice (some ⟨q', 0, none⟩) (j + 1) cap')) from
                ⟨.slice (some ⟨q', 0, none⟩) (j + 1) cap', zs ++ [x], heap_set hrow8 1 _, by
                  rw [vints_snoc]
                  exact own_grown hown2 (gb_set1 W8 b8 1 _) (fun q hq e => by
                    have h1 : q' = q := by simpa [Value.ownBlock] using hq
                    injection e with e; omega), by rw [List.length_append, HVS.out.1]; rfl,
                  HVS.out.2.snoc (by rw [HVS.out.1]; exact HLJ.out.2) (by simp only [HVS.out.1]; exact HFJ.out x hx1 hx2 HLJ.out.2),
                  hst2.gb (gb_set1 W8 b8 1 _) HGR.out (fun r hr => by injection hr with hr; rw [← hr]; exact HB8.out),
                  gb_new hgb8 (gb_set1 W8 b8 1 _) (fun r hr => by injection hr with hr; rw [← hr]; exact HB8.out)⟩)
              clear hI hl hb hown2 hx1 hx2 hst2 hrow8 hq' hgb8
              simp only [fillAll, Act.put, List.setIfInBounds_toArray, List.set_cons_succ, List.set_cons_zero, List.drop_succ_cons, List.drop_zero]
              go_wp2_with fail
              go_roundg (m - (j + 1))
              case measure => rw [G3.out]; have := HLJ.out; omega
              case rel => have := HLJ.out; exact ⟨j + 1, by omega, rfl, (by first | rfl | go_num | simp), HF2⟩
          · obtain rfl : j = m := by omega
            obtain ⟨V8, zs, hbox, hown, hvl, hvo, hst, hgw⟩ := HF.out
            obtain ⟨a5, c5, hv5⟩ := own_slice hown
            subst hv5
            have hin := IntsAt.of_own hown hvl.symm
            have hinU : Up (b8 + 1) (fun w => IntsAt .i64 w a5 zs) wr := fun w2 hs => IntsAt.of_own (own_same hown hs) hvl.symm
            have r0 := cell_of_row _ _ 0 _ _ _ hbox
            have r1 := cell_of_row _ _ 1 _ _ _ hbox
            obtain ⟨cs, hgr, hcs, hst0, hgw0⟩ := HK.out
            obtain ⟨css, hcss⟩ := hgr
            have hgW : g < W.heap.size := HG.out
            have hba := (Below.refl wr.heap.size wr).alloc (Nat.le_refl _) (.cells #[.int .i64 (i : Int), .slice a5 j c5] 60 (0, 0))
            obtain ⟨w14, hw14⟩ : ∃ w, w = wr.alloc (.cells #[.int .i64 (i : Int), .slice a5 j c5] 60 (0, 0)) := ⟨_, rfl⟩
            have hcl := new_cellsT wr #[.int .i64 (i : Int), .slice a5 j c5] 60
            rw [← hw14] at hba hcl
            have hsame : SameUp W.heap.size wo w14 := ⟨Nat.le_trans hgw.size hba.size, fun q h1 h2 => (hba.block q (Nat.lt_of_lt_of_le h2 hgw.size)).trans (hgw.block q h2 (fun e => by injection e with e; omega))⟩
            have hownV := own_same hcss.2.2.1 hsame
            have hcl4 : cs.length ≤ i := hcs.1
            have HCS := Lib.hid hcss
            have HSM := Lib.hid hsame
            have HW14 := Lib.hid hw14
            have HBA := Lib.hid hba
            have HUP := Lib.hid hinU
            have HKC := Lib.hid hcs
            have HVL := Lib.hid (And.intro hvl hvo)
            have HST := Lib.hid (hst.below hba)
            have HG14 := Lib.hid (show W.grownBy w14 (some g) from gb_new (hgw0.trans hgw) (row2 := some w14.heap.size) ⟨hba.os, hba.tape, hba.output, hba.size, fun q hq _ => hba.block q hq⟩ (fun r hr => by injection hr with hr; rw [← hr]; exact Nat.le_trans (Nat.le_trans hgw0.size hgw.size) hba.size))
            have hbs : W.heap.size ≤ w14.heap.size := HG14.out.size
            have hn4 := HN4.out
            obtain ⟨cl, hcle⟩ : ∃ cl, cl = cs.length := ⟨_, rfl⟩
            rw [← hcle] at hownV hcl4
            have HCLE := Lib.hid hcle
            clear hbox hown hvl hvo hst hgw hin hinU hcs hst0 hgw0 hcss hba hw14 hsame HF hcle
            go_wp2_with (rw [← HW14.out]; at_builtin; (refine wpList_append_cells rfl _ _ 31 rfl W.heap.size 60 (.agg #[.int .i64 0, .slice none 0 0]) 2 32 Try.underlying31 (by kernel_rfl) rfl (by decide) V cl css.flatten rfl hownV (some ⟨wr.heap.size, 0, none⟩) 1 1 [.int .i64 (i : Int), .slice a5 j c5] rfl rfl hcl (by simp [Value.oneCell']) (by unfold maxLen; omega) (by omega) hbs ?_))
            intro v' w15 hown' hg hor
            have hlo : ∀ r, V.ownBlock = some r → W.heap.size ≤ r := fun r hr => (own_lt hownV r hr).1
            have hgr2 : GrowL EComp W.heap.size 60 2 w15 v' (cs ++ [⟨(i : Int), zs⟩]) :=
              GrowL.pushS HWB.out (w := wo) (w2 := w14) HSM.out.1 HSM.out.2 [.int .i64 (i : Int), .slice a5 j c5] ⟨(i : Int), zs⟩ rfl
                ⟨Nat.le_refl _, fun w2 h1 h2 => ⟨a5, c5, by rw [← HVL.out.1], (HUP.out.below HBA.out) w2 ⟨h1, fun q q1 q2 => h2 q (by have := HB8.out; omega) q2⟩⟩⟩
                HCS.out (by rw [← HCLE.out]; exact hown') hg hor
            have HK2 := Lib.hid (show CSt W g ks (i + 1) w15 v' from ⟨cs ++ [⟨(i : Int), zs⟩], hgr2, HKC.out.snoc rfl ⟨by simp only; omega, by simp only; rw [HN.out]; have := HLT.out; omega, by simp only [Int.toNat_natCast]; rw [HGD.out, HVL.out.1]; exact HM3.out.1, by simp only [Int.toNat_natCast]; rw [HGD.out]; exact HVL.out.2⟩, HST.out.gb hg hgW hlo, gb_new HG14.out hg hlo⟩)
            clear hlo hgr2 hown' hg hor hownV hcl hbs r0 r1
            go_wp2_with fail
            go_roundg (n - (i + 1))
            case measure => rw [GM2.out]; have := HLT.out; omega
            case rel => have := HLT.out; exact ⟨i + 1, _, rfl, by omega, rfl, (by first | rfl | go_num | simp), HK2⟩
    · obtain rfl : i = n := by omega
      obtain ⟨cs, hgr, hcs, hst, hgw⟩ := HK.out
      obtain ⟨a, c, hv, hc, hm⟩ := hgr.slice
      have hup := hgr.up EComp.at a c hv
      have hge := hgr.ge a _ c hv
      subst hv
      have HP := Lib.hid (show TmCompsP g ks W (.returned (.slice a cs.length c)) wr from ⟨cs, a, c, rfl, hc, hm, by rw [HN.out]; exact hcs, hup, hge, hst, hgw⟩)
      clear hgr hcs hst hgw hc hm hup hge HK
      go_wp2_with fail
      go_ret
      exact HP.out
end Go.Proofs.Ytpilpkbblkhnaaa
end
/- tourmake.World: by program (gen_tmworld.py). -/
section
namespace Go.Proofs.Ytpilpkbblkhnaaa
open Go.ChangeShapes Go.WideShapes Go.ChangeAt Go.RowKit Go.Nm Go.Mem
set_option linter.unusedVariables false
def ItsOk (ks : List KindV) (gens : List Int) (items : List ItemV) : Prop := items.length ≤ gens.length ∧ items.length ≤ 8 ∧ items.Pairwise (fun x y => x.n < y.n) ∧ ∀ it ∈ items, 0 ≤ it.n ∧ it.n < (gens.length : Int) ∧ it.gen = gens.getD it.n.toNat 0 ∧ CsOk ks ks.length it.comps
def GensOk (gens : List Int) : Prop := ∀ z ∈ gens, 0 ≤ z ∧ z < 3
/-- a world that tourmake makes -/
def WOk (y : WorldV) : Prop := KsOk y.kinds ∧ 1 ≤ y.kinds.length ∧ y.gens.length ≤ 11 ∧ GensOk y.gens ∧ ItsOk y.kinds y.gens y.items
def TmWorldP (W : World) (e : Ending) (w' : World) : Prop := ∃ (y : WorldV) (v : Value), e = .returned v ∧ WorldIn w' v y ∧ WOk y ∧ Below W.heap.size W w'
theorem GensOk.snoc {gens : List Int} {r : Nat} (h : GensOk gens) (hr : r < 3) : GensOk (gens ++ [(r : Int)]) := fun z hz => by
  rcases List.mem_append.1 hz with hz | hz
  · exact h z hz
  · rw [List.mem_singleton.1 hz]; omega
theorem ItsOk.gen {ks : List KindV} {gens : List Int} {items : List ItemV} (h : ItsOk ks gens items) (z : Int) : ItsOk ks (gens ++ [z]) items := by
  refine ⟨by rw [List.length_append]; have := h.1; omega, h.2.1, h.2.2.1, fun it hi => ?_⟩
  obtain ⟨h1, h2, h3, h4⟩ := h.2.2.2 it hi
  refine ⟨h1, by rw [List.length_append]; simp; omega, ?_, h4⟩
  rw [h3, List.getD_eq_getElem?_getD, List.getD_eq_getElem?_getD, List.getElem?_append_left (by omega)]
theorem ItsOk.snoc {ks : List KindV} {gens : List Int} {items : List ItemV} {i : Nat} {z : Int} {cs : List CompV} (h : ItsOk ks gens items) (hl : gens.length = i) (h8 : items.length < 8) (hc : CsOk ks ks.length cs) : ItsOk ks (gens ++ [z]) (items ++ [⟨(i : Int), z, cs⟩]) := by
  have hg := h.gen z
  refine ⟨by rw [List.length_append, List.length_append, List.length_singleton, List.length_singleton]; have := h.1; omega, by rw [List.length_append, List.length_singleton]; omega, ?_, fun it hi => ?_⟩
  · rw [List.pairwise_append]
    refine ⟨h.2.2.1, List.pairwise_singleton _ _, fun x hx y hy => ?_⟩
    rw [List.mem_singleton.1 hy]
    have := (h.2.2.2 x hx).2.1
    rw [hl] at this
    exact this
  · rcases List.mem_append.1 hi with hi | hi
    · exact hg.2.2.2 it hi
    · rw [List.mem_singleton.1 hi]
      refine ⟨by simp only; omega, by simp only; rw [List.length_append, List.length_singleton]; omega, ?_, hc⟩
      simp only [Int.toNat_natCast]
      rw [List.getD_eq_getElem?_getD, List.getElem?_append_right (by omega), hl, Nat.sub_self]; rfl
theorem Win.krd {B b4 : Nat} {w w' : World} {a : Option Addr} {ks : List KindV} (h : Win B b4 (fun w => SlAt 2 KindAt w a ks) w) (hge : ∀ x, a = some x → B ≤ x.block) (hs : w.heap.size ≤ w'.heap.size) (hb : ∀ q, B ≤ q → q < b4 → w'.heap[q]? = w.heap[q]?) : KRd B w' a ks := by
  have h' := h.to (w' := w') (Nat.le_trans h.1 hs) hb
  exact ⟨fun w2 h2 => h'.2 w2 (Nat.le_trans h'.1 h2.1) (fun q q1 q2 => h2.2 q q1 (Nat.lt_of_lt_of_le q2 h'.1)), hge⟩
/-- a round of the world -/
structure WSt (W : World) (B b2 g b4 : Nat) (ka : Option Addr) (nk kc : Nat) (ks : List KindV) (i : Nat) (w : World) (VG VI : Value) (gens : List Int) (items : List ItemV) : Prop where
  box : w.heap[b4]? = some (.cells #[.slice ka nk kc, VG, VI] 27 (0, 0))
  res : w.heap[b2]? = some (.cells #[.slice none 0 0, .slice none 0 0, .slice none 0 0] 27 (0, 0))
  gown : w.ownsRow (b4 + 1) 3 1 VG i (vints .i64 gens)
  glen : gens.length = i
  gok : GensOk gens
  its : GrowA EItem (b4 + 1) 33 3 w VI VG.ownBlock items
  iok : ItsOk ks gens items
  kin : Win B b4 (fun w => SlAt 2 KindAt w ka ks) w
  str : Strm w g
  bel : Below W.heap.size W w
theorem own_g2 {r1 r2 : Option Nat} {w w' : World} {B e size n : Nat} {v : Value} {xs : List Value} (h : w.ownsRow B e size v n xs) (hg : G2 r1 r2 w w') (h1 : ∀ q, v.ownBlock = some q → some q ≠ r1) (h2 : ∀ q, v.ownBlock = some q → some q ≠ r2) : w'.ownsRow B e size v n xs := by
  refine ⟨h.1, ?_⟩
  rcases h.2 with h | ⟨g, cap, cur, k1, k2, k3, k4⟩
  · exact Or.inl h
  · exact Or.inr ⟨g, cap, cur, k1, k2, hg.row k3 (h1 g (by rw [k1]; rfl)) (h2 g (by rw [k1]; rfl)), k4⟩
theorem GrowA.lt {α : Type} {E : World → List Value → α → Prop} {base : Nat} {T : TypeId} {sz : Nat} {w : World} {v : Value} {u : Option Nat} {l : List α} (h : GrowA E base T sz w v u l) : ∀ q, v.ownBlock = some q → base ≤ q ∧ q < w.heap.size := by
  obtain ⟨css, _, _, h3, _⟩ := h
  exact own_lt h3
theorem GrowA.diff {α : Type} {E : World → List Value → α → Prop} {base : Nat} {T : TypeId} {sz : Nat} {w : World} {v : Value} {u : Option Nat} {l : List α} (h : GrowA E base T sz w v u l) {B' e' sz' n' : Nat} {v' : Value} {xs' : List Value} (h' : w.ownsRow B' e' sz' v' n' xs') (hne : T ≠ e') : ∀ q, v.ownBlock = some q → some q ≠ v'.ownBlock := by
  obtain ⟨css, _, _, h3, _⟩ := h
  exact own_diff h3 h' hne
section
variable {W : World} {B b2 g b4 nk kc i : Nat} {ka : Option Addr} {ks : List KindV} {w w' : World} {VG VI : Value} {gens : List Int} {items : List ItemV}
theorem WSt.next (h : WSt W B b2 g b4 ka nk kc ks i w VG VI gens items) (hB : g < B ∧ B ≤ b4 ∧ b2 < g ∧ W.heap.size ≤ b2) (hg : w.grownBy w' (some g)) (hs : Strm w' g) : WSt W B b2 g b4 ka nk kc ks i w' VG VI gens items where
  box := heap_gb h.box hg (some_ne (by omega))
  res := heap_gb h.res hg (some_ne (by omega))
  gown := own_grown h.gown hg (fun q hq e => by have := (own_lt h.gown q hq).1; injection e with e; omega)
  glen := h.glen
  gok := h.gok
  its := h.its.move hg.size (fun q q1 q2 _ => hg.block q q2 (some_ne (by omega))) (h.its.diff h.gown (by decide)) (fun q hq => Or.inl hq)
  iok := h.iok
  kin := h.kin.to (Nat.le_trans h.kin.1 hg.size) (fun q q1 q2 => hg.block q (Nat.lt_of_lt_of_le q2 h.kin.1) (some_ne (by omega)))
  str := hs
  bel := h.bel.grown hg h.bel.size (fun r hr => by injection hr with hr; omega)
end
theorem inv_step2 {p q g b sz : Nat} {T : TypeId} {V : Value} {u : Option Nat} {items : List ItemV} (hg : g < b) (hd : ∀ k, V.ownBlock = some k → some k ≠ u) {i : Nat} {a c : World} (hi : i ≠ q) (h : R2 p q g V.ownBlock i a c) (ho : Strm a g ∧ GrowA EItem b T sz a V u items) : Strm c g ∧ GrowA EItem b T sz c V u items := by
  by_cases hp : i = p
  · obtain ⟨h1, h2⟩ := h.2.1 hp
    exact ⟨h2, ho.2.move h1.size (fun q q1 q2 _ => h1.block q q2 (some_ne (by omega))) hd (fun q hq => Or.inl hq)⟩
  · have hb := h.1 hp hi
    exact ⟨ho.1.below hb, ho.2.move hb.size (fun q q1 q2 _ => hb.block q q2) hd (fun q hq => Or.inl hq)⟩
theorem Win.g2 {lo hi BA g : Nat} {row : Option Nat} {Q : World → Prop} {w w' : World} (h : Win lo hi Q w) (hlo : BA ≤ lo) (hg : g < BA) (hr : ∀ q, row = some q → q < BA) (hh : G2 (some g) row w w') : Win lo hi Q w' :=
  h.to (Nat.le_trans h.1 hh.size) (fun q q1 q2 => hh.block q (Nat.lt_of_lt_of_le q2 h.1) (some_ne (by omega)) (fun e => by have := hr q e.symm; omega))
theorem cells_g2 {BA g q : Nat} {row : Option Nat} {zs : List Value} {w w' : World} (h1 : CellsAt w (some ⟨q, 0, none⟩) zs) (hq : BA ≤ q) (hg : g < BA) (hr : ∀ k, row = some k → k < BA) (hh : G2 (some g) row w w') : CellsAt w' (some ⟨q, 0, none⟩) zs := fun h0 => by
  obtain ⟨y, ey, hy, hc⟩ := h1 h0
  injection ey with ey
  subst ey
  refine ⟨_, rfl, Nat.lt_of_lt_of_le hy hh.size, fun k u hu => ?_⟩
  have := hc k u hu
  rw [World.cell?_of_block (w := w) (by rw [block_of_add]; exact hh.block q hy (some_ne (by omega)) (fun e => by have := hr q e.symm; omega))]
  exact this
theorem list8 {α : Type} {vs : List α} (h : vs.length = 8) : ∃ x0 x1 x2 x3 x4 x5 x6 x7, vs = [x0, x1, x2, x3, x4, x5, x6, x7] := by
  obtain ⟨x0, t0, rfl, h0⟩ := cons_of h
  obtain ⟨x1, t1, rfl, h1⟩ := cons_of h0
  obtain ⟨x2, t2, rfl, h2⟩ := cons_of h1
  obtain ⟨x3, t3, rfl, h3⟩ := cons_of h2
  obtain ⟨x4, t4, rfl, h4⟩ := cons_of h3
  obtain ⟨x5, t5, rfl, h5⟩ := cons_of h4
  obtain ⟨x6, t6, rfl, h6⟩ := cons_of h5
  obtain ⟨x7, t7, rfl, h7⟩ := cons_of h6
  exact ⟨x0, x1, x2, x3, x4, x5, x6, x7, by rw [List.eq_nil_of_length_eq_zero h7]⟩
theorem list18 {α : Type} {vs : List α} (h : vs.length = 18) : ∃ x0 x1 x2 x3 x4 x5 x6 x7 x8 x9 x10 x11 x12 x13 x14 x15 x16 x17, vs = [x0, x1, x2, x3, x4, x5, x6, x7, x8, x9, x10, x11, x12, x13, x14, x15, x16, x17] := by
  obtain ⟨x0, t0, rfl, h0⟩ := cons_of h
  obtain ⟨x1, t1, rfl, h1⟩ := cons_of h0
  obtain ⟨x2, t2, rfl, h2⟩ := cons_of h1
  obtain ⟨x3, t3, rfl, h3⟩ := cons_of h2
  obtain ⟨x4, t4, rfl, h4⟩ := cons_of h3
  obtain ⟨x5, t5, rfl, h5⟩ := cons_of h4
  obtain ⟨x6, t6, rfl, h6⟩ := cons_of h5
  obtain ⟨x7, t7, rfl, h7⟩ := cons_of h6
  obtain ⟨x8, t8, rfl, h8⟩ := cons_of h7
  obtain ⟨x9, t9, rfl, h9⟩ := cons_of h8
  obtain ⟨x10, t10, rfl, h10⟩ := cons_of h9
  obtain ⟨x11, t11, rfl, h11⟩ := cons_of h10
  obtain ⟨x12, t12, rfl, h12⟩ := cons_of h11
  obtain ⟨x13, t13, rfl, h13⟩ := cons_of h12
  obtain ⟨x14, t14, rfl, h14⟩ := cons_of h13
  obtain ⟨x15, t15, rfl, h15⟩ := cons_of h14
  obtain ⟨x16, t16, rfl, h16⟩ := cons_of h15
  obtain ⟨x17, t17, rfl, h17⟩ := cons_of h16
  exact ⟨x0, x1, x2, x3, x4, x5, x6, x7, x8, x9, x10, x11, x12, x13, x14, x15, x16, x17, by rw [List.eq_nil_of_length_eq_zero h17]⟩
def F_twi (g b4 i r nk ni BA q' cap' kc ci : Nat) (ka ai : Option Addr) (UG : Option Nat) (ks : List KindV) (items : List ItemV) (jq : Nat) (v : Value) (w : World) : Prop :=
  match jq with
  | 0 => v = .pointer (some ⟨b4, 2, none⟩)
  | 1 => v = .slice ai ni ci
  | 2 => v = .int .i64 (i : Int)
  | 3 => v = .pointer (some ⟨b4, 1, none⟩)
  | 4 => v = .slice (some ⟨q', 0, none⟩) (i + 1) cap'
  | 5 => v = .int .i64 (i : Int)
  | 6 => v = .pointer (some ⟨q', i * 1, none⟩)
  | 7 => v = .int .i64 (r : Int)
  | 8 => v = .agg #[.int .i64 (i : Int), .int .i64 (r : Int)]
  | 9 => v = .pointer (some ⟨b4, 0, none⟩)
  | 10 => v = .slice ka nk kc
  | 11 => v = .pointer (some ⟨g, 0, none⟩)
  | 12 => ∃ (cs : List CompV) (a : Option Addr) (c : Nat), v = .slice a cs.length c ∧ CsOk ks nk cs ∧ ∃ lo hi, BA ≤ lo ∧ Win lo hi (fun w => SlAt 2 CompAt w a cs) w
  | 13 => ∃ (cs : List CompV) (a : Option Addr) (c : Nat), v = .agg #[.int .i64 (i : Int), .int .i64 (r : Int), .slice a cs.length c] ∧ CsOk ks nk cs ∧ ∃ lo hi, BA ≤ lo ∧ Win lo hi (fun w => SlAt 2 CompAt w a cs) w
  | 14 => ∃ (q : Nat) (cs : List CompV) (a : Option Addr) (c : Nat), v = .slice (some ⟨q, 0, none⟩) 1 1 ∧ CellsAt w (some ⟨q, 0, none⟩) [.int .i64 (i : Int), .int .i64 (r : Int), .slice a cs.length c] ∧ BA ≤ q ∧ CsOk ks nk cs ∧ ∃ lo hi, BA ≤ lo ∧ Win lo hi (fun w => SlAt 2 CompAt w a cs) w
  | 15 => ∃ cs : List CompV, CsOk ks nk cs ∧ GrowA EItem (b4 + 1) 33 3 w v UG (items ++ [⟨(i : Int), (r : Int), cs⟩]) ∧ Strm w g ∧ ∀ q, v.ownBlock = some q → some q ≠ UG
  | 16 => v = .pointer (some ⟨b4, 2, none⟩)
  | _ => True
theorem F_twi_mono (g b4 i r nk ni BA q' cap' kc ci : Nat) (ka ai : Option Addr) (UG : Option Nat) (ks : List KindV) (items : List ItemV) (hgB : g < b4 + 1) (hbA : b4 < BA) (hV : ∀ q, (Value.slice ai ni ci).ownBlock = some q → b4 + 1 ≤ q ∧ q < BA) : FactsR (R2 12 15 g (Value.slice ai ni ci).ownBlock) (F_twi g b4 i r nk ni BA q' cap' kc ci ka ai UG ks items) := ⟨by
  intro ix jq v w w' hij h hb
  unfold F_twi at h ⊢
  split at h
  all_goals first
    | exact h
    | (obtain ⟨q, cs, a, c, e, h1, h2, h3, lo, hi, h4, h5⟩ := h
       exact ⟨q, cs, a, c, e, cells_g2 h1 h2 (by omega) (fun k hk => (hV k hk).2) hb.g2, h2, h3, lo, hi, h4, h5.g2 h4 (by omega) (fun k hk => (hV k hk).2) hb.g2⟩)
    | (obtain ⟨cs, a, c, e, h3, lo, hi, h4, h5⟩ := h
       exact ⟨cs, a, c, e, h3, lo, hi, h4, h5.g2 h4 (by omega) (fun k hk => (hV k hk).2) hb.g2⟩)
    | (obtain ⟨cs, h1, h2, h3, h4⟩ := h
       by_cases hi8 : ix = 12
       · obtain ⟨k1, k2⟩ := hb.2.1 hi8
         exact ⟨cs, h1, h2.move k1.size (fun q q1 q2 _ => k1.block q q2 (some_ne (by omega))) h4 (fun _ h => Or.inl h), k2, h4⟩
       · have hbb := hb.1 hi8 hij
         exact ⟨cs, h1, h2.move hbb.size (fun q q1 q2 _ => hbb.block q q2) h4 (fun _ h => Or.inl h), h3.below hbb, h4⟩)
    | trivial⟩
def F_twg (g b4 i BA : Nat) (VG : Value) (gens : List Int) (jq : Nat) (v : Value) (w : World) : Prop :=
  match jq with
  | 0 => v = .pointer (some ⟨b4, 1, none⟩)
  | 1 => v = VG
  | 2 => v = .pointer (some ⟨g, 0, none⟩)
  | 3 => ∃ r : Nat, v = .int .i64 (r : Int) ∧ r < 3
  | 4 => ∃ (q r : Nat), v = .slice (some ⟨q, 0, none⟩) 1 1 ∧ CellsAt w (some ⟨q, 0, none⟩) [.int .i64 (r : Int)] ∧ BA ≤ q ∧ r < 3
  | 5 => ∃ r : Nat, w.ownsRow (b4 + 1) 3 1 v (i + 1) (vints .i64 gens ++ [.int .i64 (r : Int)]) ∧ r < 3 ∧ Strm w g ∧ (v.ownBlock = VG.ownBlock ∨ ∃ q, v.ownBlock = some q ∧ BA ≤ q)
  | 6 => v = .pointer (some ⟨b4, 1, none⟩)
  | _ => True
theorem F_twg_mono (g b4 i BA : Nat) (VG : Value) (gens : List Int) (hgB : g < b4 + 1) (hbA : b4 < BA) (hV : ∀ q, VG.ownBlock = some q → b4 + 1 ≤ q ∧ q < BA) : FactsR (R2 3 5 g VG.ownBlock) (F_twg g b4 i BA VG gens) := ⟨by
  intro ix jq v w w' hij h hb
  unfold F_twg at h ⊢
  split at h
  all_goals first
    | exact h
    | (obtain ⟨q, r, e, h1, h2, h3⟩ := h
       exact ⟨q, r, e, cells_g2 h1 h2 (by omega) (fun k hk => (hV k hk).2) hb.g2, h2, h3⟩)
    | (obtain ⟨r, h1, h2, h3, h4⟩ := h
       by_cases hi8 : ix = 3
       · obtain ⟨k1, k2⟩ := hb.2.1 hi8
         exact ⟨r, own_grown h1 k1 (fun q hq e => by have := (own_lt h1 q hq).1; injection e with e; omega), h2, k2, h4⟩
       · have hbb := hb.1 hi8 hij
         exact ⟨r, own_below h1 hbb, h2, h3.below hbb, h4⟩)
    | trivial⟩
set_option maxHeartbeats 8000000 in
set_option maxRecDepth 100000 in
theorem tm_World (l : List Int) (a : Option Addr) (n c : Nat) (hn : l.length = n) (hc : n ≤ c) (hm : c ≤ 9223372036854775807) (W : World) (hi : IntsAt .i64 W a l) (hbk : ∀ x, a = some x → x.block < W.heap.size) : Calls Try.prog 5 #[.slice a n c] W (TmWorldP W) := by
  have hb2 := ((Below.refl W.heap.size W).alloc (Nat.le_refl _) (.cells #[.slice none 0 0, .slice none 0 0, .slice none 0 0] 27)).alloc (by simp) (.cells #[.slice a n c] 67)
  have hr2 := heap_keep (heap_alloc_new W (.cells #[.slice none 0 0, .slice none 0 0, .slice none 0 0] 27)) (.cells #[.slice a n c] 67)
  have hr3 := heap_alloc_new (W.alloc (.cells #[.slice none 0 0, .slice none 0 0, .slice none 0 0] 27)) (.cells #[.slice a n c] 67)
  rw [World.size_alloc] at hr3
  obtain ⟨w2, hw2⟩ : ∃ w, w = (W.alloc (.cells #[.slice none 0 0, .slice none 0 0, .slice none 0 0] 27)).alloc (.cells #[.slice a n c] 67) := ⟨_, rfl⟩
  rw [← hw2] at hb2 hr2 hr3
  obtain ⟨g, hg⟩ : ∃ g, g = W.heap.size + 1 := ⟨_, rfl⟩
  obtain ⟨b2, hb2e⟩ : ∃ b, b = W.heap.size := ⟨_, rfl⟩
  have hst : Strm w2 g := ⟨a, l, c, by rw [hg, hn]; exact hr3, hi.below hb2, by rw [hn]; exact hc, hm, fun x hx => by have := hbk x hx; omega⟩
  rw [← hb2e] at hr2
  have HB2 := Lib.hid hb2
  have HR2 := Lib.hid hr2
  have HG := Lib.hid (And.intro hg hb2e)
  have HW2 := Lib.hid hw2
  have HST2 := Lib.hid hst
  have CK := Lib.hid (tm_kinds g w2 hst)
  have CN := Lib.hid (fun n h1 h2 w hs => tm_Next g n h1 h2 w hs)
  clear hb2 hr2 hr3 hw2 hg hb2e hst hn hc hm hi hbk
  go_enter Try.func5, Try.ntmps5
  go_wp2_with fail
  rw [← HW2.out, ← HG.out.1, ← HG.out.2]
  refine CK.out.mono ?_
  rintro e w3 ⟨ks, ka, kc, rfl, hkc, hkm, hko, hk1, hku, hs3, hg3, hkge⟩
  obtain ⟨nk, hnk⟩ : ∃ nk, nk = ks.length := ⟨_, rfl⟩
  rw [← hnk] at hkc ⊢
  have hb4 := heap_alloc_new w3 (.cells #[.slice ka nk kc, .slice none 0 0, .slice none 0 0] 27)
  have hba := (Below.refl w3.heap.size w3).alloc (Nat.le_refl _) (.cells #[.slice ka nk kc, .slice none 0 0, .slice none 0 0] 27)
  obtain ⟨w4, hw4⟩ : ∃ w, w = w3.alloc (.cells #[.slice ka nk kc, .slice none 0 0, .slice none 0 0] 27) := ⟨_, rfl⟩
  obtain ⟨b4, hb4e⟩ : ∃ b, b = w3.heap.size := ⟨_, rfl⟩
  rw [← hw4] at hb4 hba
  rw [← hb4e] at hb4
  have HGL := Lib.hid (show g < w2.heap.size from HST2.out.lt)
  obtain ⟨B, hB⟩ : ∃ B, B = w2.heap.size := ⟨_, rfl⟩
  rw [← hB] at hku hkge
  have HBB := Lib.hid (show g < B ∧ B ≤ b4 ∧ b2 < g ∧ W.heap.size ≤ b2 by have := HG.out; have := hg3.size; have := HGL.out; omega)
  have hwin : Win B b4 (fun w => SlAt 2 KindAt w ka ks) w4 := by
    rw [hb4e]
    exact (Win.ofUp hku).to hba.size (fun q q1 q2 => hba.block q q2)
  have HWS := Lib.hid (show WSt W B b2 g b4 ka nk kc ks 0 w4 (.slice none 0 0) (.slice none 0 0) [] [] from
    { box := hb4, res := heap_below (heap_gb HR2.out hg3 (some_ne (by have := HG.out; omega))) hba, gown := World.ownsRow_nil _ _ _ _, glen := rfl, gok := fun z h => absurd h (by simp), its := GrowA.nil _ _ _ _ _ _, iok := ⟨Nat.le_refl _, by decide, List.Pairwise.nil, fun it h => absurd h (by simp)⟩, kin := hwin, str := hs3.below hba, bel := bt (HB2.out.grown hg3 HB2.out.size (fun r hr => by injection hr with hr; have := HG.out; omega)) hba })
  have HW4 := Lib.hid (And.intro hw4 hb4e)
  have HK := Lib.hid (And.intro hnk (And.intro hkc (And.intro hkm (And.intro hko (And.intro hk1 hkge)))))
  clear hb4 hba hw4 hb4e hku hs3 hg3 hwin hB hnk hkc hkm hko hk1 hkge HB2 HR2 HW2 HST2 CK HGL
  go_wp2_with (rw [← HW4.out.1, ← HW4.out.2])
  refine (CN.out 12 (by decide) (by decide) w4 HWS.out.str).mono ?_
  rintro e w5 ⟨⟨m, rfl, hm⟩, hs5, hg5, -⟩
  have HWS5 := Lib.hid (HWS.out.next HBB.out hg5 hs5)
  have HM := Lib.hid (show m ≤ 11 by omega)
  clear hs5 hg5 hm HWS HW4
  go_wp2_with fail
  go_loopg [5, 14] m (fun gk _ vi wx => ∃ (i : Nat) (VG VI : Value) (gens : List Int) (items : List ItemV), i ≤ m ∧ gk = m - i ∧ vi = .int .i64 i ∧ Hid (WSt W B b2 g b4 ka nk kc ks i wx VG VI gens items))
  case atStart => exact ⟨0, _, _, _, _, Nat.zero_le _, rfl, rfl, HWS5⟩
  case round =>
    clear HWS5
    obtain ⟨i, VG, VI, gens, items, hi, g2, rfl, HWS⟩ := hrel
    have GM2 := Lib.hid g2
    clear g2
    by_cases hlt : i < m
    · have HLT := Lib.hid (show i < m ∧ i ≤ 10 by have := HM.out; omega)
      have HBX := Lib.hid HWS.out.box
      have HST := Lib.hid HWS.out.str
      have HOW := Lib.hid HWS.out.gown
      have HVB := Lib.hid (own_lt HWS.out.gown)
      have HBA := Lib.hid (show g < b4 + 1 ∧ b4 < wr.heap.size from ⟨by have := HBB.out; omega, lt_of_heap HWS.out.box⟩)
      have wi : IntKind.i64.wrap ((i : Int) + 1) = ((i + 1 : Nat) : Int) := by have := HLT.out; rw [IntKind.wrap_i64]; omega
      go_upto_region 6 with fail
      refine wp_region_facts_r rfl 7 (by kernel_rfl) (fun a b => G2 (some g) VG.ownBlock a b ∧ (Strm a g → Strm b g)) ⟨G2.drew _ _ _, fun h => h.below ((Below.refl _ _).drew)⟩ (fun _ _ _ h h2 => ⟨h.1.trans h2.1, fun k => h2.2 (h.2 k)⟩) (R2 3 5 g VG.ownBlock) (fun i a b h => ⟨h.g2, h.strm HBA.out.1 (fun r hr => (HVB.out r hr).1)⟩) (F_twg g b4 i wr.heap.size VG gens) (F_twg_mono g b4 i wr.heap.size VG gens HBA.out.1 HBA.out.2 HVB.out) 5 (fun w => Strm w g ∧ w.ownsRow (b4 + 1) 3 1 VG i (vints .i64 gens)) ⟨HST.out.below ((Below.refl _ _).drew), own_below HOW.out ((Below.refl _ _).drew)⟩ (fun i a b hi h ho => inv_step HBA.out.1 hi h ho) ?_ ?_
      · refine ⟨?_, ?_, ?_, ?_, ?_, ?_, ?_, trivial⟩
        · intro vs w' F hb hd hF hl hT hq
          have e := (hF 4).trans (look_out _ 4 _ _ (by kernel_rfl))
          exact one_field _ _ _ rfl rfl _ _ e (1) (fun w => by kernel_rfl) ⟨_, rfl, (R2.same _ (by decide)), rfl⟩
        · intro vs w' F hb hd hF hl hT hq
          have e := ((hF 17).trans (look_at _ 17 0 _ _ (by kernel_rfl) (by kernel_rfl) hl)).trans (dep_of (Fact := F_twg g b4 i wr.heap.size VG gens) hd 0 (by kernel_rfl))
          exact one_load _ _ rfl rfl _ _ e (cell_of_row _ _ 1 _ _ _ (hb.1.row HBX.out (some_ne (show b4 ≠ g by have := HBB.out; omega)) (fun e => by have := (HVB.out b4 e.symm).1; omega))) (by kernel_rfl) ⟨_, rfl, (R2.same _ (by decide)), rfl⟩
        · intro vs w' F hb hd hF hl hT hq
          have e := (hF 3).trans (look_out _ 3 _ _ (by kernel_rfl))
          exact one_move _ rfl (by first | exact Or.inl rfl | exact Or.inr rfl) ⟨_, rfl, (R2.same _ (by decide)), e⟩
        · intro vs w' F hb hd hF hl hT hq
          have e1 := (((hF 19).trans (look_at _ 19 2 _ _ (by kernel_rfl) (by kernel_rfl) hl)).trans (dep_of (Fact := F_twg g b4 i wr.heap.size VG gens) hd 2 (by kernel_rfl)))
          have hst := hb.2 HST.out
          refine one_call _ _ rfl rfl (enters_of Try.func22 (by kernel_rfl) rfl) #[.pointer (some ⟨g, 0, none⟩), .int .i64 3] (eval2 e1 rfl) ?_
          refine (CN.out 3 (by decide) (by decide) w' hst).mono ?_
          rintro e2 w2 ⟨⟨r, rfl, hr⟩, hs2, hg2, -⟩
          exact ⟨_, rfl, _, rfl, ⟨fun h => absurd rfl h, fun _ => ⟨hg2, hs2⟩, fun h => absurd h (by decide)⟩, r, rfl, by omega⟩
        · intro vs w' F hb hd hF hl hT hq
          obtain ⟨r, hv2, hr⟩ := (dep_of (Fact := F_twg g b4 i wr.heap.size VG gens) hd 3 (by kernel_rfl))
          have ex := ((hF 20).trans (look_at _ 20 3 _ _ (by kernel_rfl) (by kernel_rfl) hl)).trans hv2
          exact rg_slice1 22 3 _ rfl rfl (r : Int) ex Try.underlying22 (by kernel_rfl) ⟨_, rfl, R2.below (by decide) (by decide) ((Below.refl _ _).alloc (Nat.le_refl _) _), _, r, rfl, new_cellsT _ #[.int .i64 (r : Int)] 3, hb.1.size, hr⟩
        · intro vs w' F hb hd hF hl hT hq
          obtain ⟨q, r, hv2, hcl, hq2, hr⟩ := (dep_of (Fact := F_twg g b4 i wr.heap.size VG gens) hd 4 (by kernel_rfl))
          have g0 := (((hF 18).trans (look_at _ 18 1 _ _ (by kernel_rfl) (by kernel_rfl) hl)).trans (dep_of (Fact := F_twg g b4 i wr.heap.size VG gens) hd 1 (by kernel_rfl)))
          have g4 := ((hF 21).trans (look_at _ 21 4 _ _ (by kernel_rfl) (by kernel_rfl) hl)).trans hv2
          have hiv := hq rfl
          refine wpList_append_cells rfl _ _ 22 rfl (b4 + 1) 3 (.int .i64 0) 1 8 Try.underlying22 (by kernel_rfl) rfl (by decide) VG i (vints .i64 gens) g0 hiv.2 (some ⟨q, 0, none⟩) 1 1 [.int .i64 (r : Int)] g4 rfl hcl (by simp [Value.oneCell']) (by have := HLT.out; unfold maxLen; omega) (by have := HLT.out; omega) (Nat.le_trans HBA.out.2 hb.1.size) ?_
          intro v2 w2 hown2 hg2 hor2
          exact ⟨_, rfl, ⟨fun _ h => absurd rfl h, fun h => absurd h (by decide), fun _ => hg2⟩, r, hown2, hr, hiv.1.gb hg2 HBA.out.1 (fun r hr => (HVB.out r hr).1), hor2.imp id (fun h => ⟨_, h, hb.1.size⟩)⟩
        · intro vs w' F hb hd hF hl hT hq
          have e := (hF 4).trans (look_out _ 4 _ _ (by kernel_rfl))
          exact one_field _ _ _ rfl rfl _ _ e (1) (fun w => by kernel_rfl) ⟨_, rfl, (R2.same _ (by decide)), rfl⟩
      · intro vs8 W8 hl hb hI
        have i5 := hI 5 (by omega)
        have i6 : vs8.getD 6 undef = .pointer (some ⟨b4, 1, none⟩) := hI 6 (by omega)
        obtain ⟨r, hown2, hr, hst2, hor2⟩ := i5
        obtain ⟨x0, x1, x2, x3, x4, x5, x6, x7, hvs⟩ := list8 hl
        subst hvs
        replace i6 : x6 = .pointer (some ⟨b4, 1, none⟩) := i6
        replace hown2 : W8.ownsRow (b4 + 1) 3 1 x5 (i + 1) (vints .i64 gens ++ [.int .i64 (r : Int)]) := hown2
        replace hor2 : x5.ownBlock = VG.ownBlock ∨ ∃ q, x5.ownBlock = some q ∧ wr.heap.size ≤ q := hor2
        subst i6
        have hx := HWS.out
        have hb2 : b4 ≠ g := by have := HBB.out; omega
        have hdv := hx.its.diff hx.gown (by decide)
        have hrow := hb.1.row hx.box (some_ne hb2) (fun e => by have := (HVB.out b4 e.symm).1; omega)
        have hres := hb.1.row hx.res (some_ne (show b2 ≠ g by have := HBB.out; omega)) (fun e => by have := (HVB.out b2 e.symm).1; have := HBB.out; omega)
        obtain ⟨q', cap', hv', _, _⟩ := hown2.form (by omega)
        subst hv'
        have hq' : b4 + 1 ≤ q' := (own_lt hown2 q' rfl).1
        have z1 := cell_of_row _ _ 1 _ _ _ hrow
        have k1 := Mem.frozen_of_row hrow 1
        obtain ⟨w9, hw9⟩ : ∃ w, w = W8.setCell ⟨b4, 1, none⟩ (.slice (some ⟨q', 0, none⟩) (i + 1) cap') := ⟨_, rfl⟩
        have hg9 : W8.grownBy w9 (some b4) := by rw [hw9]; exact gb_set1 _ _ _ _
        have HW9 := Lib.hid hw9
        have HWT0 := Lib.hid hx.iok
        have HGLEN := Lib.hid hx.glen
        have HWN := Lib.hid (show WSt W B b2 g b4 ka nk kc ks (i + 1) w9 (.slice (some ⟨q', 0, none⟩) (i + 1) cap') VI (gens ++ [(r : Int)]) items from
          { box := by rw [hw9]; exact heap_set hrow 1 _
            res := heap_gb hres hg9 (some_ne (show b2 ≠ b4 by have := HBB.out; omega))
            gown := by
              rw [vints_snoc]
              exact own_grown hown2 hg9 (fun q hq e => by
                have h1 : q' = q := by simpa [Value.ownBlock] using hq
                injection e with e; omega)
            glen := by rw [List.length_append, hx.glen]; rfl
            gok := hx.gok.snoc hr
            its := hx.its.move (Nat.le_trans hb.1.size hg9.size) (fun q q1 q2 q3 => (hg9.block q (Nat.lt_of_lt_of_le q2 hb.1.size) (some_ne (by omega))).trans (hb.1.block q q2 (some_ne (by have := HBB.out; omega)) q3)) hdv (fun k hk => hor2.elim (fun h => Or.inl (by rw [← h]; exact hk)) (fun ⟨q, h1, h2⟩ => Or.inr (by rw [h1] at hk; injection hk with hk; omega)))
            iok := hx.iok.gen _
            kin := hx.kin.to (Nat.le_trans hx.kin.1 (Nat.le_trans hb.1.size hg9.size)) (fun q q1 q2 => (hg9.block q (Nat.lt_of_lt_of_le q2 (Nat.le_trans hx.kin.1 hb.1.size)) (some_ne (by omega))).trans (hb.1.block q (Nat.lt_of_lt_of_le q2 hx.kin.1) (some_ne (by have := HBB.out; omega)) (fun e => by have := (HVB.out q e.symm).1; omega)))
            str := hst2.gb hg9 (show g < b4 by have := HBB.out; omega) (fun r hr => by injection hr with hr; omega)
            bel := ⟨(hg9.os.trans hb.1.os).trans hx.bel.os, (hg9.tape.trans hb.1.tape).trans hx.bel.tape, (hg9.output.trans hb.1.output).trans hx.bel.output, Nat.le_trans hx.bel.size (Nat.le_trans hb.1.size hg9.size), fun k hk => ((hg9.block k (Nat.lt_of_lt_of_le hk (Nat.le_trans hx.bel.size hb.1.size)) (some_ne (by have := HBB.out; omega))).trans (hb.1.block k (Nat.lt_of_lt_of_le hk hx.bel.size) (some_ne (by have := HBB.out; omega)) (fun e => by have := (HVB.out k e.symm).1; have := HBB.out; omega))).trans (hx.bel.block k hk)⟩ })
        clear hI hl hb hown2 hr hst2 hor2 hx hb2 hdv hrow hres hq' hw9 hg9 HWS HBX HST HOW HVB HBA
        simp only [fillAll, Act.put, List.setIfInBounds_toArray, List.set_cons_succ, List.set_cons_zero, List.drop_succ_cons, List.drop_zero]
        go_wp2_with fail
        rw [← HW9.out]
        refine (CN.out 4 (by decide) (by decide) w9 HWN.out.str).mono ?_
        rintro e w10 ⟨⟨r2, rfl, hr2⟩, hs10, hg10, -⟩
        have HWT := Lib.hid (HWN.out.next HBB.out hg10 hs10)
        clear hs10 hg10 hr2 HWN HW9 z1 k1
        by_cases h3 : r2 = 3
        · subst h3
          go_wp2_with fail
          go_roundg (m - (i + 1))
          case measure => rw [GM2.out]; have := HLT.out; omega
          case rel => have := HLT.out; exact ⟨i + 1, _, _, _, _, by omega, rfl, (by first | rfl | go_num | simp), HWT⟩
        · have t3 : ((r2 : Int) == 3) = false := by simp; omega
          obtain ⟨ai, ci, hvi, hci, hmi⟩ := HWT.out.its.toL.slice
          subst hvi
          obtain ⟨ni, hni⟩ : ∃ ni, ni = items.length := ⟨_, rfl⟩
          rw [← hni] at HWT hci
          have c2 := cell_of_row _ _ 2 _ _ _ HWT.out.box
          have hni8 : ni ≤ 8 := by rw [hni]; exact HWT.out.iok.2.1
          have HNI := Lib.hid hni
          clear hni
          by_cases h8 : ni = 8
          · subst h8
            go_wp2_with fail
            go_roundg (m - (i + 1))
            case measure => rw [GM2.out]; have := HLT.out; omega
            case rel => have := HLT.out; exact ⟨i + 1, _, _, _, _, by omega, rfl, (by first | rfl | go_num | simp), HWT⟩
          · have t8 : ((ni : Int) == 8) = false := by simp; omega
            have HN8 := Lib.hid (show ni < 8 by omega)
            have HBX := Lib.hid HWT.out.box
            have HST := Lib.hid HWT.out.str
            have HVB := Lib.hid HWT.out.its.lt
            have HVU := Lib.hid (HWT.out.its.diff HWT.out.gown (by decide))
            have HIA := Lib.hid (show GrowA EItem (b4 + 1) 33 3 w10 (.slice ai ni ci) (some q') items from HWT.out.its)
            have HBA := Lib.hid (show g < b4 + 1 ∧ b4 < w10.heap.size from ⟨by have := HBB.out; omega, lt_of_heap HWT.out.box⟩)
            have HUG := Lib.hid (show ∀ k, some q' = some k → b4 + 1 ≤ k ∧ k < w10.heap.size from fun k hk => own_lt HWT.out.gown k hk)
            have HQ := Lib.hid (show q' < w10.heap.size ∧ q' ≠ g ∧ some q' ≠ (Value.slice ai ni ci).ownBlock from ⟨(HUG.out q' rfl).2, by have := (HUG.out q' rfl).1; have := HBA.out; omega, fun e => HVU.out q' e.symm rfl⟩)
            have HGC := Lib.hid (show w10.cell? ⟨q', i, none⟩ = some (.int .i64 (r : Int)) by
              rw [HWT.out.gown.cellAt i (by omega), vints_snoc, List.getElem?_append_right (by rw [vints_length]; have := HWT.out.glen; rw [List.length_append, List.length_singleton] at this; omega)]
              have e : i - (vints .i64 gens).length = 0 := by rw [vints_length]; have := HWT.out.glen; rw [List.length_append, List.length_singleton] at this; omega
              rw [e]; rfl)
            have HKR := Lib.hid (show ∀ w', G2 (some g) (Value.slice ai ni ci).ownBlock w10 w' → KRd B w' ka ks from fun w' hh => HWT.out.kin.krd HK.out.2.2.2.2.2 hh.size (fun q q1 q2 => hh.block q (Nat.lt_of_lt_of_le q2 HWT.out.kin.1) (some_ne (by have := HBB.out; omega)) (fun e => by have := (HVB.out q e.symm).1; omega)))
            clear hni8 h8 hci hmi
            go_upto_region 8 with fail
            refine wp_region_facts_r rfl 17 (by kernel_rfl) (fun a b => G2 (some g) (Value.slice ai ni ci).ownBlock a b ∧ (Strm a g → Strm b g)) ⟨G2.drew _ _ _, fun h => h.below ((Below.refl _ _).drew)⟩ (fun _ _ _ h h2 => ⟨h.1.trans h2.1, fun k => h2.2 (h.2 k)⟩) (R2 12 15 g (Value.slice ai ni ci).ownBlock) (fun i a b h => ⟨h.g2, h.strm HBA.out.1 (fun r hr => (HVB.out r hr).1)⟩) (F_twi g b4 i r nk ni w10.heap.size q' cap' kc ci ka ai (some q') ks items) (F_twi_mono g b4 i r nk ni w10.heap.size q' cap' kc ci ka ai (some q') ks items HBA.out.1 HBA.out.2 HVB.out) 15 (fun w => Strm w g ∧ GrowA EItem (b4 + 1) 33 3 w (Value.slice ai ni ci) (some q') items) ⟨HST.out.below ((Below.refl _ _).drew), HIA.out.move (Nat.le_refl _) (fun _ _ _ _ => rfl) HVU.out (fun _ h => Or.inl h)⟩ (fun i a b hi h ho => inv_step2 HBA.out.1 HVU.out hi h ho) ?_ ?_
            · refine ⟨?_, ?_, ?_, ?_, ?_, ?_, ?_, ?_, ?_, ?_, ?_, ?_, ?_, ?_, ?_, ?_, ?_, trivial⟩
              · intro vs w' F hb hd hF hl hT hq
                have e := (hF 4).trans (look_out _ 4 _ _ (by kernel_rfl))
                exact one_field _ _ _ rfl rfl _ _ e (2) (fun w => by kernel_rfl) ⟨_, rfl, (R2.same _ (by decide)), rfl⟩
              · intro vs w' F hb hd hF hl hT hq
                have e := ((hF 33).trans (look_at _ 33 0 _ _ (by kernel_rfl) (by kernel_rfl) hl)).trans (dep_of (Fact := F_twi g b4 i r nk ni w10.heap.size q' cap' kc ci ka ai (some q') ks items) hd 0 (by kernel_rfl))
                exact one_load _ _ rfl rfl _ _ e (cell_of_row _ _ 2 _ _ _ (hb.1.row HBX.out (some_ne (show b4 ≠ g by have := HBB.out; omega)) (fun e => by have := (HVB.out b4 e.symm).1; omega))) (by kernel_rfl) ⟨_, rfl, (R2.same _ (by decide)), rfl⟩
              · intro vs w' F hb hd hF hl hT hq
                have e := (hF 5).trans (look_out _ 5 _ _ (by kernel_rfl))
                exact one_move _ rfl (by first | exact Or.inl rfl | exact Or.inr rfl) ⟨_, rfl, (R2.same _ (by decide)), e⟩
              · intro vs w' F hb hd hF hl hT hq
                have e := (hF 4).trans (look_out _ 4 _ _ (by kernel_rfl))
                exact one_field _ _ _ rfl rfl _ _ e (1) (fun w => by kernel_rfl) ⟨_, rfl, (R2.same _ (by decide)), rfl⟩
              · intro vs w' F hb hd hF hl hT hq
                have e := ((hF 36).trans (look_at _ 36 3 _ _ (by kernel_rfl) (by kernel_rfl) hl)).trans (dep_of (Fact := F_twi g b4 i r nk ni w10.heap.size q' cap' kc ci ka ai (some q') ks items) hd 3 (by kernel_rfl))
                exact one_load _ _ rfl rfl _ _ e (cell_of_row _ _ 1 _ _ _ (hb.1.row HBX.out (some_ne (show b4 ≠ g by have := HBB.out; omega)) (fun e => by have := (HVB.out b4 e.symm).1; omega))) (by kernel_rfl) ⟨_, rfl, (R2.same _ (by decide)), rfl⟩
              · intro vs w' F hb hd hF hl hT hq
                have e := (hF 5).trans (look_out _ 5 _ _ (by kernel_rfl))
                exact one_move _ rfl (by first | exact Or.inl rfl | exact Or.inr rfl) ⟨_, rfl, (R2.same _ (by decide)), e⟩
              · intro vs w' F hb hd hF hl hT hq
                have ex := ((hF 37).trans (look_at _ 37 4 _ _ (by kernel_rfl) (by kernel_rfl) hl)).trans (dep_of (Fact := F_twi g b4 i r nk ni w10.heap.size q' cap' kc ci ka ai (some q') ks items) hd 4 (by kernel_rfl))
                have ey := ((hF 38).trans (look_at _ 38 5 _ _ (by kernel_rfl) (by kernel_rfl) hl)).trans (dep_of (Fact := F_twi g b4 i r nk ni w10.heap.size q' cap' kc ci ka ai (some q') ks items) hd 5 (by kernel_rfl))
                exact one_index 22 _ _ rfl rfl (.slice (some ⟨q', 0, none⟩) (i + 1) cap') (.int .i64 (i : Int)) (.pointer (some ⟨q', i * 1, none⟩)) ex ey (fun w => by have h := rg_idx Try.underlying22 (show (Try.prog.info? 3).map (·.size) = some 1 by kernel_rfl) (q') (0) ((i + 1)) (cap') (i) (by omega) w; rw [Nat.zero_add] at h; exact h) ⟨_, rfl, (R2.same _ (by decide)), rfl⟩
              · intro vs w' F hb hd hF hl hT hq
                have e := ((hF 39).trans (look_at _ 39 6 _ _ (by kernel_rfl) (by kernel_rfl) hl)).trans (dep_of (Fact := F_twi g b4 i r nk ni w10.heap.size q' cap' kc ci ka ai (some q') ks items) hd 6 (by kernel_rfl))
                exact one_load _ _ rfl rfl _ _ e ((by rw [Nat.mul_one, World.cell?_of_block (w := w10) (hb.1.block q' HQ.out.1 (some_ne HQ.out.2.1) HQ.out.2.2)]; exact HGC.out)) (by kernel_rfl) ⟨_, rfl, (R2.same _ (by decide)), rfl⟩
              · intro vs w' F hb hd hF hl hT hq
                have e1 := (((hF 35).trans (look_at _ 35 2 _ _ (by kernel_rfl) (by kernel_rfl) hl)).trans (dep_of (Fact := F_twi g b4 i r nk ni w10.heap.size q' cap' kc ci ka ai (some q') ks items) hd 2 (by kernel_rfl)))
                have e2 := (((hF 40).trans (look_at _ 40 7 _ _ (by kernel_rfl) (by kernel_rfl) hl)).trans (dep_of (Fact := F_twi g b4 i r nk ni w10.heap.size q' cap' kc ci ka ai (some q') ks items) hd 7 (by kernel_rfl)))
                exact one_build _ _ rfl rfl #[(0, .int .i64 (i : Int)), (1, .int .i64 (r : Int))] (parts2 e1 e2) (.agg #[.int .i64 (i : Int), .int .i64 (r : Int)]) (fun w => by kernel_rfl) ⟨_, rfl, R2.same _ (by decide), rfl⟩
              · intro vs w' F hb hd hF hl hT hq
                have e := (hF 4).trans (look_out _ 4 _ _ (by kernel_rfl))
                exact one_field _ _ _ rfl rfl _ _ e (0) (fun w => by kernel_rfl) ⟨_, rfl, (R2.same _ (by decide)), rfl⟩
              · intro vs w' F hb hd hF hl hT hq
                have e := ((hF 42).trans (look_at _ 42 9 _ _ (by kernel_rfl) (by kernel_rfl) hl)).trans (dep_of (Fact := F_twi g b4 i r nk ni w10.heap.size q' cap' kc ci ka ai (some q') ks items) hd 9 (by kernel_rfl))
                exact one_load _ _ rfl rfl _ _ e (cell_of_row _ _ 0 _ _ _ (hb.1.row HBX.out (some_ne (show b4 ≠ g by have := HBB.out; omega)) (fun e => by have := (HVB.out b4 e.symm).1; omega))) (by kernel_rfl) ⟨_, rfl, (R2.same _ (by decide)), rfl⟩
              · intro vs w' F hb hd hF hl hT hq
                have e := (hF 3).trans (look_out _ 3 _ _ (by kernel_rfl))
                exact one_move _ rfl (by first | exact Or.inl rfl | exact Or.inr rfl) ⟨_, rfl, (R2.same _ (by decide)), e⟩
              · intro vs w' F hb hd hF hl hT hq
                have e1 := (((hF 43).trans (look_at _ 43 10 _ _ (by kernel_rfl) (by kernel_rfl) hl)).trans (dep_of (Fact := F_twi g b4 i r nk ni w10.heap.size q' cap' kc ci ka ai (some q') ks items) hd 10 (by kernel_rfl)))
                have e2 := (((hF 44).trans (look_at _ 44 11 _ _ (by kernel_rfl) (by kernel_rfl) hl)).trans (dep_of (Fact := F_twi g b4 i r nk ni w10.heap.size q' cap' kc ci ka ai (some q') ks items) hd 11 (by kernel_rfl)))
                have hst := hb.2 HST.out
                refine one_call _ _ rfl rfl (enters_of Try.func23 (by kernel_rfl) rfl) #[.slice ka nk kc, .pointer (some ⟨g, 0, none⟩)] (eval2 e1 e2) ?_
                refine (tm_comps g B ks ka nk kc HK.out.1.symm HK.out.2.2.2.1 w' (HKR.out w' hb.1) HBB.out.1 hst).mono ?_
                rintro e2 w2 ⟨cs, a2, c2, rfl, _, _, h1, h2, _, hs2, hg2⟩
                exact ⟨_, rfl, _, rfl, ⟨fun h => absurd rfl h, fun _ => ⟨hg2, hs2⟩, fun h => absurd h (by decide)⟩, cs, a2, c2, rfl, by rw [HK.out.1]; exact h1, w'.heap.size, w2.heap.size, hb.1.size, Win.ofUp h2⟩
              · intro vs w' F hb hd hF hl hT hq
                obtain ⟨cs, a2, c2, hv2, hr2⟩ := (dep_of (Fact := F_twi g b4 i r nk ni w10.heap.size q' cap' kc ci ka ai (some q') ks items) hd 12 (by kernel_rfl))
                have e1 := (((hF 41).trans (look_at _ 41 8 _ _ (by kernel_rfl) (by kernel_rfl) hl)).trans (dep_of (Fact := F_twi g b4 i r nk ni w10.heap.size q' cap' kc ci ka ai (some q') ks items) hd 8 (by kernel_rfl)))
                have e2 := ((hF 45).trans (look_at _ 45 12 _ _ (by kernel_rfl) (by kernel_rfl) hl)).trans hv2
                exact one_build _ _ rfl rfl #[(0, .agg #[.int .i64 (i : Int), .int .i64 (r : Int)]), (1, .slice a2 cs.length c2)] (parts2 e1 e2) (.agg #[.int .i64 (i : Int), .int .i64 (r : Int), .slice a2 cs.length c2]) (fun w => by kernel_rfl) ⟨_, rfl, R2.same _ (by decide), cs, a2, c2, rfl, hr2⟩
              · intro vs w' F hb hd hF hl hT hq
                obtain ⟨cs, a2, c2, hv2, h1, lo, hi, h2, h3⟩ := (dep_of (Fact := F_twi g b4 i r nk ni w10.heap.size q' cap' kc ci ka ai (some q') ks items) hd 13 (by kernel_rfl))
                have ex := ((hF 46).trans (look_at _ 46 13 _ _ (by kernel_rfl) (by kernel_rfl) hl)).trans hv2
                exact rg_slice_item 25 33 _ rfl rfl (i : Int) (r : Int) a2 cs.length c2 ex Try.underlying25 (by kernel_rfl) ⟨_, rfl, R2.below (by decide) (by decide) ((Below.refl _ _).alloc (Nat.le_refl _) _), _, cs, a2, c2, rfl, new_cellsT _ #[.int .i64 (i : Int), .int .i64 (r : Int), .slice a2 cs.length c2] 33, hb.1.size, h1, lo, hi, h2, h3.to (Nat.le_trans h3.1 ((Below.refl _ _).alloc (Nat.le_refl _) _).size) (fun q q1 q2 => ((Below.refl w'.heap.size w').alloc (Nat.le_refl _) _).block q (Nat.lt_of_lt_of_le q2 h3.1))⟩
              · intro vs w' F hb hd hF hl hT hq
                obtain ⟨q, cs, a2, c2, hv2, hcl, hq2, h1, lo, hi, h2, h3⟩ := (dep_of (Fact := F_twi g b4 i r nk ni w10.heap.size q' cap' kc ci ka ai (some q') ks items) hd 14 (by kernel_rfl))
                have g0 := (((hF 34).trans (look_at _ 34 1 _ _ (by kernel_rfl) (by kernel_rfl) hl)).trans (dep_of (Fact := F_twi g b4 i r nk ni w10.heap.size q' cap' kc ci ka ai (some q') ks items) hd 1 (by kernel_rfl)))
                have g4 := ((hF 47).trans (look_at _ 47 14 _ _ (by kernel_rfl) (by kernel_rfl) hl)).trans hv2
                have hiv := hq rfl
                obtain ⟨css, hcss⟩ := hiv.2
                have hown := hcss.2.2.1
                rw [← HNI.out] at hown
                refine wpList_append_cells rfl _ _ 25 rfl (b4 + 1) 33 (.agg #[.int .i64 0, .int .i64 0, .slice none 0 0]) 3 40 Try.underlying25 (by kernel_rfl) rfl (by decide) (.slice ai ni ci) ni css.flatten g0 hown (some ⟨q, 0, none⟩) 1 1 [.int .i64 (i : Int), .int .i64 (r : Int), .slice a2 cs.length c2] g4 rfl hcl (by simp [Value.oneCell']) (by have := HN8.out; unfold maxLen; omega) (by have := HN8.out; omega) (Nat.le_trans HBA.out.2 hb.1.size) ?_
                intro v2 w2 hown2 hg2 hor2
                exact ⟨_, rfl, ⟨fun _ h => absurd rfl h, fun h => absurd h (by decide), fun _ => hg2⟩, cs, h1, GrowA.push lo hi (Nat.le_trans HBA.out.2 h2) (fun k hk => by have := (HVB.out k hk).2; omega) (fun k hk => by have := (HUG.out k hk).2; omega) [.int .i64 (i : Int), .int .i64 (r : Int), .slice a2 cs.length c2] ⟨(i : Int), (r : Int), cs⟩ rfl ⟨h3.1, fun w3 k1 k2 => ⟨a2, c2, rfl, h3.2 w3 k1 k2⟩⟩ hcss (by rw [← HNI.out]; exact hown2) hg2 hor2, hiv.1.gb hg2 HBA.out.1 (fun r hr => (HVB.out r hr).1), fun k hk => hor2.elim (fun e => HVU.out k (by rw [← e]; exact hk)) (fun e => fun e2 => by rw [e] at hk; injection hk with hk; have := (HUG.out k e2.symm).2; have := hb.1.size; omega)⟩
              · intro vs w' F hb hd hF hl hT hq
                have e := (hF 4).trans (look_out _ 4 _ _ (by kernel_rfl))
                exact one_field _ _ _ rfl rfl _ _ e (2) (fun w => by kernel_rfl) ⟨_, rfl, (R2.same _ (by decide)), rfl⟩
            · intro vs8 W8 hl hb hI
              have i15 := hI 15 (by omega)
              have i16 : vs8.getD 16 undef = .pointer (some ⟨b4, 2, none⟩) := hI 16 (by omega)
              obtain ⟨cs, hcs, hits2, hst2, hvu2⟩ := i15
              obtain ⟨y0, y1, y2, y3, y4, y5, y6, y7, y8, y9, y10, y11, y12, y13, y14, y15, y16, y17, hvs⟩ := list18 hl
              subst hvs
              replace i16 : y16 = .pointer (some ⟨b4, 2, none⟩) := i16
              replace hits2 : GrowA EItem (b4 + 1) 33 3 W8 y15 (some q') (items ++ [⟨(i : Int), (r : Int), cs⟩]) := hits2
              replace hvu2 : ∀ q, y15.ownBlock = some q → some q ≠ some q' := hvu2
              subst i16
              have hx := HWT.out
              obtain ⟨a5, c5, hv5, _, _⟩ := hits2.toL.slice
              subst hv5
              have hrow := hb.1.row hx.box (some_ne (show b4 ≠ g by have := HBB.out; omega)) (fun e => by have := (HVB.out b4 e.symm).1; omega)
              have hres := hb.1.row hx.res (some_ne (show b2 ≠ g by have := HBB.out; omega)) (fun e => by have := (HVB.out b2 e.symm).1; have := HBB.out; omega)
              have z2 := cell_of_row _ _ 2 _ _ _ hrow
              have k2 := Mem.frozen_of_row hrow 2
              have hni2 : (items ++ [(⟨(i : Int), (r : Int), cs⟩ : ItemV)]).length = ni + 1 := by rw [List.length_append, ← HNI.out]; rfl
              rw [hni2] at hits2 hvu2
              obtain ⟨w11, hw11⟩ : ∃ w, w = W8.setCell ⟨b4, 2, none⟩ (.slice a5 (ni + 1) c5) := ⟨_, rfl⟩
              have hg11 : W8.grownBy w11 (some b4) := by rw [hw11]; exact gb_set1 _ _ _ _
              have HW11 := Lib.hid hw11
              have HWN := Lib.hid (show WSt W B b2 g b4 ka nk kc ks (i + 1) w11 (.slice (some ⟨q', 0, none⟩) (i + 1) cap') (.slice a5 (ni + 1) c5) (gens ++ [(r : Int)]) (items ++ [⟨(i : Int), (r : Int), cs⟩]) from
                { box := by rw [hw11]; exact heap_set hrow 2 _
                  res := heap_gb hres hg11 (some_ne (show b2 ≠ b4 by have := HBB.out; omega))
                  gown := own_grown (own_g2 hx.gown hb.1 (fun q hq => some_ne (by have := (own_lt hx.gown q hq).1; have := HBA.out; omega)) (fun q hq => by
                      have h1 : q' = q := by simpa [Value.ownBlock] using hq
                      rw [← h1]; exact HQ.out.2.2)) hg11 (fun q hq e => by have := (own_lt hx.gown q hq).1; injection e with e; omega)
                  glen := hx.glen
                  gok := hx.gok
                  its := hits2.move hg11.size (fun q q1 q2 q3 => hg11.block q q2 (some_ne (by omega))) hvu2 (fun k hk => Or.inl hk)
                  iok := (HWT0.out).snoc HGLEN.out (by rw [← HNI.out]; exact HN8.out) (by rw [← HK.out.1]; exact hcs)
                  kin := hx.kin.to (Nat.le_trans hx.kin.1 (Nat.le_trans hb.1.size hg11.size)) (fun q q1 q2 => (hg11.block q (Nat.lt_of_lt_of_le q2 (Nat.le_trans hx.kin.1 hb.1.size)) (some_ne (by omega))).trans (hb.1.block q (Nat.lt_of_lt_of_le q2 hx.kin.1) (some_ne (by have := HBB.out; omega)) (fun e => by have := (HVB.out q e.symm).1; omega)))
                  str := hst2.gb hg11 (show g < b4 by have := HBB.out; omega) (fun r hr => by injection hr with hr; omega)
                  bel := ⟨(hg11.os.trans hb.1.os).trans hx.bel.os, (hg11.tape.trans hb.1.tape).trans hx.bel.tape, (hg11.output.trans hb.1.output).trans hx.bel.output, Nat.le_trans hx.bel.size (Nat.le_trans hb.1.size hg11.size), fun k hk => ((hg11.block k (Nat.lt_of_lt_of_le hk (Nat.le_trans hx.bel.size hb.1.size)) (some_ne (by have := HBB.out; omega))).trans (hb.1.block k (Nat.lt_of_lt_of_le hk hx.bel.size) (some_ne (by have := HBB.out; omega)) (fun e => by have := (HVB.out k e.symm).1; have := HBB.out; omega))).trans (hx.bel.block k hk)⟩ })
              clear hI hl hb hcs hits2 hst2 hvu2 hx hrow hres hw11 hg11 HWT HBX HST HVB HVU HIA HBA HUG HQ HGC HKR
              simp only [fillAll, Act.put, List.setIfInBounds_toArray, List.set_cons_succ, List.set_cons_zero, List.drop_succ_cons, List.drop_zero]
              go_wp2_with fail
              rw [← HW11.out]
              go_roundg (m - (i + 1))
              case measure => rw [GM2.out]; have := HLT.out; omega
              case rel => have := HLT.out; exact ⟨i + 1, _, _, _, _, by omega, rfl, (by first | rfl | go_num | simp), HWN⟩
    · obtain rfl : i = m := by omega
      have hx := HWS.out
      obtain ⟨ag, cg, hvg⟩ := own_slice hx.gown
      obtain ⟨ai, ci, hvi, hci, hmi⟩ := hx.its.toL.slice
      subst hvg hvi
      have HGO := Lib.hid hx.gown
      have HIT := Lib.hid hx.its.toL
      have HKIN := Lib.hid hx.kin
      have HGLE := Lib.hid hx.glen
      have b0 := cell_of_row _ _ 0 _ _ _ hx.box
      have b1 := cell_of_row _ _ 1 _ _ _ hx.box
      have b2' := cell_of_row _ _ 2 _ _ _ hx.box
      obtain ⟨ni, hni⟩ : ∃ ni, ni = items.length := ⟨_, rfl⟩
      rw [← hni] at b1 b2'
      have HNI := Lib.hid hni
      have HRES := Lib.hid hx.res
      have HOKW := Lib.hid (show WOk ⟨ks, gens, items⟩ from ⟨HK.out.2.2.2.1, HK.out.2.2.2.2.1, by simp only; rw [hx.glen]; exact HM.out, hx.gok, hx.iok⟩)
      have HBL := Lib.hid hx.bel
      clear hx hci hmi hni HWS
      go_wp2_with (refine wpList_store_rowP rfl 27 (.tmp 2) (.tmp 51) rfl b2 #[.slice ka nk kc, .slice ag i cg, .slice ai ni ci] rfl rfl _ _ HRES.out (by kernel_rfl) rfl (by simp [Value.oneCell']) ?_; intro w9 hput; have HPUT := Lib.hid hput; clear hput)
      have hput := HPUT.out
      have hbp := hput.below (show W.heap.size ≤ b2 from HBB.out.2.2.2)
      refine bodyPost_ret (results_cell_row Try.results5 _ _ b2 27 _ (0, 0) _ rfl hput.here Try.underlying27 rfl (by kernel_rfl)) rfl ⟨_, _, rfl, ?_, HOKW.out, HBL.out.trans hbp⟩
      have hg9 := gb_putT hput
      have hne : ∀ q, B ≤ q → some q ≠ some b2 := fun q hq => some_ne (by have := HBB.out; omega)
      refine ⟨ka, kc, ag, cg, ai, ci, ?_, ?_, ?_, ?_, ?_, HK.out.2.2.1⟩
      · simp only; rw [← HK.out.1, HGLE.out, HNI.out]
      · exact (HKIN.out.to (Nat.le_trans HKIN.out.1 hg9.size) (fun q q1 q2 => hg9.block q (Nat.lt_of_lt_of_le q2 HKIN.out.1) (hne q q1))).now
      · exact IntsAt.of_own (own_grown HGO.out hg9 (fun q hq => hne q (by have := (own_lt HGO.out q hq).1; have := HBB.out; omega))) HGLE.out.symm
      · exact ((HIT.out.frame hg9.size (fun q q1 q2 => hg9.block q q2 (hne q (by have := HBB.out; omega)))).up EItem.at ai ci rfl).now
      · simp only; rw [← HK.out.1]; exact HK.out.2.1
end Go.Proofs.Ytpilpkbblkhnaaa
end
