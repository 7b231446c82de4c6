/- Slots: the law's walk. By program (gen_slots6.py). -/
import Derived.Test.YtlahmcbaiebapaaSlotB
import Derived.Test.YtlahmcbaiebapaaSlotE
import Derived.Test.YtlahmcbaiebapaaEqI
namespace Go.Proofs.Ytlahmcbaiebapaa
open Go.ChangeShapes Go.WideShapes Go.ChangeAt Go.RowKit Go.Mem Go.Sp Go.Slt
set_option linter.unusedVariables false
variable {w w' W0 : World} {D s r x : Nat} {vg vu vf vb vh : Value} {G G1 G2 : List Int} {B B1 B2 : List Bool} {U F : List Nat} {N g : Int}
/-- What the region of Alive and Free has made of the world. -/
def FrSt (W0 : World) (s r : Nat) (G : List Int) (B : List Bool) (N g : Int) (x : Nat) (S : Nat → Option Value) (w : World) : Prop :=
  Both W0 s r (cond (S 10).isSome (frG G B N g) G) (cond (S 10).isSome (frB G B N g) B) (cond (S 13).isSome (frG G B N g) G) (cond (S 13).isSome (frB G B N g) B) w ∧ w.heap[x]? = some (.cells #[.int .i64 N, .int .i64 g] 55 (0, 0))
theorem FrSt.congr (S S' : Nat → Option Value) (w : World) (hs : ∀ j ∈ [10, 13], S j = S' j) (h : FrSt W0 s r G B N g x S w) : FrSt W0 s r G B N g x S' w := by
  have h10 := hs 10 (by decide); have h13 := hs 13 (by decide)
  unfold FrSt at h ⊢
  rw [h10, h13] at h
  exact h
theorem FrSt.below {S : Nat → Option Value} (h : FrSt W0 s r G B N g x S w) (hb : Below w.heap.size w w') : FrSt W0 s r G B N g x S w' := ⟨h.1.below hb, heap_below h.2 hb⟩
theorem FrSt.alive_s {S : Nat → Option Value} (h : FrSt W0 s r G B N g x S w) (n10 : S 10 = none) (hN : N ≤ 9223372036854775807) : Calls Try.prog 37 #[.pointer (some ⟨s, 0, none⟩), .agg #[.int .i64 N, .int .i64 g]] w fun e w' => e = .returned (.bool (alive G B N g)) ∧ Below w.heap.size w w' := by
  have h1 := h.1
  rw [n10] at h1
  exact b_alive_s h1 N g hN
theorem FrSt.alive_r {S : Nat → Option Value} (h : FrSt W0 s r G B N g x S w) (n13 : S 13 = none) : Calls Try.prog 38 #[.pointer (some ⟨r, 0, none⟩), .agg #[.int .i64 N, .int .i64 g]] w fun e w' => e = .returned (.bool (alive G B N g)) ∧ Below w.heap.size w w' := by
  have h1 := h.1
  rw [n13] at h1
  exact b_alive_r h1 N g
theorem FrSt.free_s {S : Nat → Option Value} (h : FrSt W0 s r G B N g x S w) (n10 : S 10 = none) (hN : N ≤ 9223372036854775807) : Calls Try.prog 39 #[.pointer (some ⟨s, 0, none⟩), .agg #[.int .i64 N, .int .i64 g]] w fun e w' => e = .returned (.int .i64 (frE G B N g)) ∧ ∀ v, FrSt W0 s r G B N g x (upd S 10 v) w' := by
  have h1 := h.1
  rw [n10] at h1
  refine (b_free_s h1 N g hN).mono fun e w' ⟨e1, h2, h3⟩ => ⟨e1, fun v => ⟨h2, h3 _ _ h.2⟩⟩
theorem FrSt.free_r {S : Nat → Option Value} (h : FrSt W0 s r G B N g x S w) (n13 : S 13 = none) : Calls Try.prog 40 #[.pointer (some ⟨r, 0, none⟩), .agg #[.int .i64 N, .int .i64 g]] w fun e w' => e = .returned (.int .i64 (frE G B N g)) ∧ ∀ v, FrSt W0 s r G B N g x (upd S 13 v) w' := by
  have h1 := h.1
  rw [n13] at h1
  refine (b_free_r h1 N g).mono fun e w' ⟨e1, h2, h3⟩ => ⟨e1, fun v => ⟨h2, h3 _ _ h.2⟩⟩
theorem FrSt.done {S : Nat → Option Value} (h : FrSt W0 s r G B N g x S w) {v v2 : Value} (n10 : S 10 = some v) (n13 : S 13 = some v2) : Both W0 s r (frG G B N g) (frB G B N g) (frG G B N g) (frB G B N g) w := by
  have h1 := h.1
  rw [n10, n13] at h1
  exact h1
def F_sp19 (s r nE m5 ch : Nat) (ah : Option Addr) (EE : List (Int × Int)) (G5 : List Int) (jq : Nat) (v : Value) (w : World) : Prop :=
  match jq with
  | 0 => v = .pointer (some ⟨s, 0, none⟩)
  | 1 => ∃ a c, v = .slice a nE c ∧ EntsAt w a EE
  | 2 => v = .pointer (some ⟨r, 0, none⟩)
  | 3 => ∃ a c, v = .slice a nE c ∧ EntsAt w a EE
  | 4 => v = .bool true
  | 5 => v = .bool false
  | 6 => v = .bool false
  | 7 => v = .pointer (some ⟨s, 0, none⟩)
  | 8 => ∃ a c, v = .slice a m5 c ∧ IntsAt .i64 w a G5
  | 9 => v = .pointer (some ⟨r, 0, none⟩)
  | 10 => v = .pointer (some ⟨r, 0, none⟩)
  | 11 => v = .pointer (some ⟨r, 0, none⟩)
  | 12 => v = .slice ah m5 ch
  | 13 => v = .bool true
  | 14 => v = .bool false
  | 15 => v = .bool false
  | _ => True
theorem F_sp19_mono (s r nE m5 ch : Nat) (ah : Option Addr) (EE : List (Int × Int)) (G5 : List Int) : Facts (F_sp19 s r nE m5 ch ah EE G5) := ⟨by
  intro jq v w w' h hb
  unfold F_sp19 at h ⊢
  split at h
  all_goals first
    | exact h
    | (obtain ⟨a, c, h1, h2⟩ := h; exact ⟨a, c, h1, h2.below hb⟩)
    | trivial⟩
theorem ents_cells {a : Option Addr} {E : List (Int × Int)} (h : EntsAt w a E) (k : Nat) (hk : k < E.length) : ∃ y, a = some y ∧ w.cell? (y.add (k * 2)) = some (.int .i64 (E.getD k (0, 0)).1) ∧ w.cell? ⟨(y.add (k * 2)).block, (y.add (k * 2)).off + 1, none⟩ = some (.int .i64 (E.getD k (0, 0)).2) := by
  obtain ⟨y, rfl, _, hc⟩ := h (by omega)
  obtain ⟨h1, h2⟩ := hc k hk
  rw [add_next] at h2
  exact ⟨y, rfl, h1, h2⟩
theorem list16 {α : Type} {vs : List α} (h : vs.length = 16) : ∃ x0 x1 x2 x3 x4 x5 x6 x7 x8 x9 x10 x11 x12 x13 x14 x15, vs = [x0, x1, x2, x3, x4, x5, x6, x7, x8, x9, x10, x11, x12, x13, x14, x15] := by
  obtain ⟨x0, t0, rfl, h0⟩ := cons_of h
  obtain ⟨x1, t1, rfl, h1⟩ := cons_of h0
  obtain ⟨x2, t2, rfl, h2⟩ := cons_of h1
  obtain ⟨x3, t3, rfl, h3⟩ := cons_of h2
  obtain ⟨x4, t4, rfl, h4⟩ := cons_of h3
  obtain ⟨x5, t5, rfl, h5⟩ := cons_of h4
  obtain ⟨x6, t6, rfl, h6⟩ := cons_of h5
  obtain ⟨x7, t7, rfl, h7⟩ := cons_of h6
  obtain ⟨x8, t8, rfl, h8⟩ := cons_of h7
  obtain ⟨x9, t9, rfl, h9⟩ := cons_of h8
  obtain ⟨x10, t10, rfl, h10⟩ := cons_of h9
  obtain ⟨x11, t11, rfl, h11⟩ := cons_of h10
  obtain ⟨x12, t12, rfl, h12⟩ := cons_of h11
  obtain ⟨x13, t13, rfl, h13⟩ := cons_of h12
  obtain ⟨x14, t14, rfl, h14⟩ := cons_of h13
  obtain ⟨x15, t15, rfl, h15⟩ := cons_of h14
  exact ⟨x0, x1, x2, x3, x4, x5, x6, x7, x8, x9, x10, x11, x12, x13, x14, x15, by rw [List.eq_nil_of_length_eq_zero h15]⟩
def F_sp17 (s r xb : Nat) (p q : Int) (al : Bool) (fe : Int) (jq : Nat) (v : Value) (w : World) : Prop :=
  match jq with
  | 0 => v = .pointer (some ⟨s, 0, none⟩)
  | 1 => v = .agg #[.int .i64 p, .int .i64 q]
  | 2 => v = .bool al
  | 3 => v = .pointer (some ⟨r, 0, none⟩)
  | 4 => v = .agg #[.int .i64 p, .int .i64 q]
  | 5 => v = .bool al
  | 6 => v = .bool false
  | 7 => v = .bool false
  | 8 => v = .pointer (some ⟨s, 0, none⟩)
  | 9 => v = .agg #[.int .i64 p, .int .i64 q]
  | 10 => v = .int .i64 fe
  | 11 => v = .pointer (some ⟨r, 0, none⟩)
  | 12 => v = .agg #[.int .i64 p, .int .i64 q]
  | 13 => v = .int .i64 fe
  | 14 => v = .bool false
  | 15 => v = .bool false
  | _ => True
theorem F_sp17_mono (s r xb : Nat) (p q : Int) (al : Bool) (fe : Int) : FactsF (F_sp17 s r xb  p q  al  fe ) := ⟨by
  intro jq v w w' h
  unfold F_sp17 at h ⊢
  split at h
  all_goals first
    | exact h
    | trivial⟩


set_option maxRecDepth 100000 in
set_option maxHeartbeats 16000000 in
theorem walk_SlotsPlays (G L : List Int) (E : List (Int × Int)) (ag au al : Option Addr) (ng nu nl cg cu cl : Nat) (hng : G.length = ng) (hnu : L.length = nu) (hnl : E.length = nl) (h1 : ng ≤ 17592186044416) (h2 : nu ≤ 17592186044416) (h3 : nl ≤ 9223372036854775807) (hwf : ∀ k, k < nl → (E.getD k (0, 0)).1 ≤ 9223372036854775807) (w : World) (hzg : IntsAt .i64 w ag G) (hzu : IntsAt .i64 w au L) (hze : EntsAt w al E) :
    Calls Try.prog 4 #[.slice ag ng cg, .slice au nu cu, .slice al nl cl] w fun e w' => e = .returned (.bool true) ∧ Below w.heap.size w w' := by
  have HNG := Lib.hid hng
  have HNU := Lib.hid hnu
  have HNL := Lib.hid hnl
  have HZG := Lib.hid hzg
  have HZU := Lib.hid hzu
  have HZE := Lib.hid hze
  have HWF := Lib.hid hwf
  clear hng hnu hnl hzg hzu hze hwf
  go_enter Try.func4, Try.ntmps4
  go_wp2_with fail
  refine (slots_begun w).mono ?_
  rintro e w1 ⟨rfl, hb1⟩
  have HB1 := Lib.hid hb1
  clear hb1
  go_wp2_with fail
  refine (sl_Of G L ag au ng nu cg cu HNG.out HNU.out h1 h2 w1 (HZG.out.below HB1.out) (HZU.out.below HB1.out)).mono ?_
  rintro e w2 ⟨hb2, hp⟩
  have HB2 := Lib.hid hb2
  have HBW2 := Lib.hid (HB1.out.trans (hb2.mono HB1.out.size))
  clear hb2
  rcases hp with ⟨hE, rfl⟩ | ⟨hE, s, vg, vu, vf, U, F, rfl, hsl, hsi⟩
  · obtain ⟨ee, hee⟩ : ∃ ee, ee = ofE G L := ⟨_, rfl⟩
    rw [← hee] at hE ⊢
    have HEE := Lib.hid hee
    have t1 : (ee != ee) = false := by simp
    have t2 : (ee != 0) = true := by rw [bne_iff_ne]; exact hE
    have HE := Lib.hid hE
    clear hee hE
    go_wp2_with fail
    refine (rm_Of G L ag au ng nu cg cu HNG.out HNU.out h1 h2 w2 (HZG.out.below HBW2.out) (HZU.out.below HBW2.out)).mono ?_
    rintro e w3 ⟨hb3, hp⟩
    have HBW3 := Lib.hid (HBW2.out.trans (hb3.mono HBW2.out.size))
    clear hb3
    rcases hp with ⟨hE2, rfl⟩ | ⟨hE2, _⟩
    · rw [← HEE.out]
      clear hE2
      go_wp2_with fail
      go_ret
      exact ⟨rfl, HBW3.out⟩
    · exact absurd (HEE.out.trans hE2) HE.out
  · have HE := Lib.hid hE
    have HSL := Lib.hid hsl
    have HSI := Lib.hid hsi
    clear hE hsl hsi
    go_wp2_with fail
    refine (rm_Of G L ag au ng nu cg cu HNG.out HNU.out h1 h2 w2 (HZG.out.below HBW2.out) (HZU.out.below HBW2.out)).mono ?_
    rintro e w3 ⟨hb3, hp⟩
    have HB3 := Lib.hid hb3
    have HBW3 := Lib.hid (HBW2.out.trans (hb3.mono HBW2.out.size))
    clear hb3
    rcases hp with ⟨hE2, _⟩ | ⟨hE2, r, vh, vb, rfl, hrm⟩
    · exact absurd HE.out hE2
    · have hbo : Both w s r G (ofB G L) G (ofB G L) w3 := ⟨vg, vu, vf, vh, vb, U, F, U, F, (HSL.out.below HB3.out).lower HB1.out.size, HSI.out, hrm.lower HBW2.out.size, HSI.out, fun j h1 h2 => by
        have := (own_lt HSL.out.gens j h1).2
        have := (own_lt hrm.gens j h2).1
        omega, HBW3.out⟩
      have HBO := Lib.hid hbo
      clear hbo hrm hE2 HSL HSI HB1 HB2 HB3 HBW2 HBW3 HZG HZU HE
      go_wp2_with fail
      go_loopg [45] nl (fun gk vi wx => ∃ (k : Nat) (G1 : List Int) (B1 : List Bool), k ≤ nl ∧ gk = nl - k ∧ vi = .int .i64 k ∧ Hid (Both w s r G1 B1 G1 B1 wx))
      case atStart => exact ⟨0, G, ofB G L, Nat.zero_le _, rfl, rfl, HBO⟩
      case round =>
        clear HBO
        obtain ⟨k, G1, B1, hk, g2, rfl, HBO⟩ := hrel
        have G2 := Lib.hid g2
        clear g2
        by_cases hlt : k < nl
        · obtain ⟨ya, rfl, cy0, cy1⟩ := ents_cells (HZE.out.below HBO.out.since) k (by rw [HNL.out]; exact hlt)
          obtain ⟨p, hp⟩ : ∃ p, p = (E.getD k (0, 0)).1 := ⟨_, rfl⟩
          obtain ⟨q, hq⟩ : ∃ q, q = (E.getD k (0, 0)).2 := ⟨_, rfl⟩
          rw [← hp] at cy0
          rw [← hq] at cy1
          have HPN := Lib.hid (show p ≤ 9223372036854775807 by rw [hp]; exact HWF.out k hlt)
          have i1 : (0 : Int) ≤ (k : Int) := by omega
          have i2 : (k : Int) < (nl : Int) := by omega
          clear hp hq
          by_cases hm1 : p = -1
          · have t1 : (p == -1) = true := by rw [beq_iff_eq]; exact hm1
            have HM1 := Lib.hid hm1
            clear hm1
            go_wp2_with fail
            have hbo := HBO.out.below ((Below.refl _ _).alloc (Nat.le_refl _) (.cells #[.int .i64 p, .int .i64 q] 55))
            obtain ⟨W1, hW1⟩ : ∃ W1, W1 = wr.alloc (.cells #[.int .i64 p, .int .i64 q] 55) := ⟨_, rfl⟩
            rw [← hW1] at hbo ⊢
            obtain ⟨n, hn⟩ := least_ex G1 B1
            have HLE := Lib.hid hn
            have HBO1 := Lib.hid hbo
            clear hbo hn hW1 HBO cy0 cy1
            refine (b_take_s HBO1.out HLE.out).mono ?_
            rintro e W2 ⟨rfl, hbo, -⟩
            obtain ⟨u, hu⟩ : ∃ u, u = (tkV G1 n).1 := ⟨_, rfl⟩
            obtain ⟨v, hv⟩ : ∃ v, v = (tkV G1 n).2 := ⟨_, rfl⟩
            obtain ⟨te, hte⟩ : ∃ te, te = tkE n := ⟨_, rfl⟩
            rw [← hu, ← hv, ← hte]
            have HU := Lib.hid hu
            have HV := Lib.hid hv
            have HTE := Lib.hid hte
            have HBO2 := Lib.hid hbo
            clear hbo hu hv hte
            go_wp2_with fail
            have hE3 := heap_alloc_new W2 (.cells #[.int .i64 u, .int .i64 v] 55)
            have hbo := HBO2.out.below ((Below.refl _ _).alloc (Nat.le_refl _) (.cells #[.int .i64 u, .int .i64 v] 55))
            obtain ⟨W3, hW3⟩ : ∃ W3, W3 = W2.alloc (.cells #[.int .i64 u, .int .i64 v] 55) := ⟨_, rfl⟩
            rw [← hW3] at hbo hE3 ⊢
            have HE3 := Lib.hid hE3
            have HBO3 := Lib.hid hbo
            clear hbo hE3 hW3
            refine (b_take_r HBO3.out HLE.out).mono ?_
            rintro e W4 ⟨rfl, hbo, hke⟩
            rw [← HU.out, ← HV.out, ← HTE.out]
            have hE4 := hke _ _ HE3.out
            have hlt4 := lt_of_heap hE4
            have y0 := cell_of_row _ _ 0 _ _ _ hE4
            have y1 := cell_of_row _ _ 1 _ _ _ hE4
            simp only [List.getElem?_toArray, List.getElem?_cons_zero, List.getElem?_cons_succ] at y0 y1
            have HBO4 := Lib.hid hbo
            have q1 := ent_neq u v u v
            rw [show (!(decide (u = u) && decide (v = v))) = false by simp] at q1
            have q2 := ent_guard .neq
            have t2 : (te != te) = false := by simp
            clear hbo hke hE4
            go_wp2_with fail
            have hbt := HBO4.out.below ((Below.refl _ _).alloc (Nat.le_refl _) (.cells #[.int .i64 u, .int .i64 v] 55))
            obtain ⟨W5, hW5⟩ : ∃ W5, W5 = W4.alloc (.cells #[.int .i64 u, .int .i64 v] 55) := ⟨_, rfl⟩
            rw [← hW5] at hbt ⊢
            obtain ⟨G5, hG5⟩ : ∃ G5, G5 = tkG G1 n := ⟨_, rfl⟩
            obtain ⟨B5, hB5⟩ : ∃ B5, B5 = tkB B1 n := ⟨_, rfl⟩
            rw [← hG5, ← hB5] at hbt
            clear hW5 hG5 hB5 y0 y1 q1 q2 hlt4
            have hbr := b_gens_r hbt
            obtain ⟨ah, ch, hcr, hci⟩ := hbr
            obtain ⟨m5, hm5⟩ : ∃ m5, m5 = G5.length := ⟨_, rfl⟩
            rw [← hm5] at hcr
            obtain ⟨EE, hEE⟩ : ∃ EE, EE = entK G5 B5 B5.length := ⟨_, rfl⟩
            obtain ⟨nE, hnE⟩ : ∃ nE, nE = EE.length := ⟨_, rfl⟩
            have HNB := Lib.hid (show nE ≤ 1048576 by have := (b_len hbt).1; have := entK_len G5 B5 B5.length; rw [hnE, hEE]; omega)
            have HGB := Lib.hid (show G5.length ≤ 9223372036854775807 by have := (b_len hbt).2; omega)
            have HM5 := Lib.hid hm5
            have HEE := Lib.hid hEE
            have HNE := Lib.hid hnE
            have CR := Lib.hid hcr
            have CI := Lib.hid hci
            have HBT := Lib.hid hbt
            clear hm5 hEE hnE hcr hci hbt
            refine wp_region_facts_t rfl 16 (by kernel_rfl) (F_sp19 s r nE m5 ch ah EE G5) (F_sp19_mono s r nE m5 ch ah EE G5) ?_ ?_
            · refine ⟨?_, ?_, ?_, ?_, ?_, ?_, ?_, ?_, ?_, ?_, ?_, ?_, ?_, ?_, ?_, ?_, trivial⟩
              · intro vs w' F hb hd hF hl hT
                have e := (hF 7).trans (look_out _ 7 _ _ (by kernel_rfl))
                exact one_move _ rfl (by first | exact Or.inl rfl | exact Or.inr rfl) ⟨_, rfl, Below.refl _ _, e⟩
              · intro vs w' F hb hd hF hl hT
                have e1 := (((hF 86).trans (look_at _ 86 0 _ _ (by kernel_rfl) (by kernel_rfl) hl)).trans (dep_of (Fact := F_sp19 s r nE m5 ch ah EE G5) hd 0 (by kernel_rfl)))
                refine one_call _ _ rfl rfl (enters_of Try.func42 (by kernel_rfl) rfl) #[.pointer (some ⟨s, 0, none⟩)] (eval1 e1) ?_
                refine (b_list_s (HBT.out.below hb)).mono ?_
                rintro e3 w3 ⟨a3, n3, c3, hn3, rfl, h3, hb3⟩
                rw [← HEE.out] at hn3 h3
                obtain rfl := HNE.out.trans hn3
                exact ⟨_, rfl, _, rfl, hb3, a3, c3, rfl, h3⟩
              · intro vs w' F hb hd hF hl hT
                have e := (hF 9).trans (look_out _ 9 _ _ (by kernel_rfl))
                exact one_move _ rfl (by first | exact Or.inl rfl | exact Or.inr rfl) ⟨_, rfl, Below.refl _ _, e⟩
              · intro vs w' F hb hd hF hl hT
                have e1 := (((hF 88).trans (look_at _ 88 2 _ _ (by kernel_rfl) (by kernel_rfl) hl)).trans (dep_of (Fact := F_sp19 s r nE m5 ch ah EE G5) hd 2 (by kernel_rfl)))
                refine one_call _ _ rfl rfl (enters_of Try.func43 (by kernel_rfl) rfl) #[.pointer (some ⟨r, 0, none⟩)] (eval1 e1) ?_
                refine (b_list_r (HBT.out.below hb)).mono ?_
                rintro e3 w3 ⟨a3, n3, c3, hn3, rfl, h3, hb3⟩
                rw [← HEE.out] at hn3 h3
                obtain rfl := HNE.out.trans hn3
                exact ⟨_, rfl, _, rfl, hb3, a3, c3, rfl, h3⟩
              · intro vs w' F hb hd hF hl hT
                obtain ⟨a1, c1, e1, h1⟩ := (dep_of (Fact := F_sp19 s r nE m5 ch ah EE G5) hd 1 (by kernel_rfl))
                obtain ⟨a2, c2, e2, h2⟩ := (dep_of (Fact := F_sp19 s r nE m5 ch ah EE G5) hd 3 (by kernel_rfl))
                have g1 := ((hF 87).trans (look_at _ 87 1 _ _ (by kernel_rfl) (by kernel_rfl) hl)).trans e1
                have g2 := ((hF 89).trans (look_at _ 89 3 _ _ (by kernel_rfl) (by kernel_rfl) hl)).trans e2
                refine one_call _ _ rfl rfl (enters_of Try.func41 (by kernel_rfl) rfl) #[.slice a1 nE c1, .slice a2 nE c2] (eval2 g1 g2) ?_
                refine (eq_ents a1 a2 c1 c2 nE EE HNE.out.symm HNB.out w' h1 h2).mono ?_
                rintro e3 w3 ⟨rfl, hb3⟩
                exact ⟨_, rfl, _, rfl, hb3, rfl⟩
              · intro vs w' F hb hd hF hl hT
                have e := ((hF 90).trans (look_at _ 90 4 _ _ (by kernel_rfl) (by kernel_rfl) hl)).trans (dep_of (Fact := F_sp19 s r nE m5 ch ah EE G5) hd 4 (by kernel_rfl))
                exact one_not _ _ rfl rfl _ false e rfl ⟨_, rfl, Below.refl _ _, rfl⟩
              · intro vs w' F hb hd hF hl hT
                have e := ((hF 91).trans (look_at _ 91 5 _ _ (by kernel_rfl) (by kernel_rfl) hl)).trans (dep_of (Fact := F_sp19 s r nE m5 ch ah EE G5) hd 5 (by kernel_rfl))
                exact one_move _ rfl (by first | exact Or.inl rfl | exact Or.inr rfl) ⟨_, rfl, Below.refl _ _, e⟩
              · intro vs w' F hb hd hF hl hT
                have eg := ((hF 92).trans (look_at _ 92 6 _ _ (by kernel_rfl) (by kernel_rfl) hl)).trans (dep_of (Fact := F_sp19 s r nE m5 ch ah EE G5) hd 6 (by kernel_rfl))
                refine wpList_on rfl (t := 92) (by kernel_rfl) eg ?_
                have e := (hF 7).trans (look_out _ 7 _ _ (by kernel_rfl))
                exact one_move _ rfl (by first | exact Or.inl rfl | exact Or.inr rfl) ⟨_, rfl, Below.refl _ _, e⟩
              · intro vs w' F hb hd hF hl hT
                have eg := ((hF 92).trans (look_at _ 92 6 _ _ (by kernel_rfl) (by kernel_rfl) hl)).trans (dep_of (Fact := F_sp19 s r nE m5 ch ah EE G5) hd 6 (by kernel_rfl))
                refine wpList_on rfl (t := 92) (by kernel_rfl) eg ?_
                have e1 := (((hF 93).trans (look_at _ 93 7 _ _ (by kernel_rfl) (by kernel_rfl) hl)).trans (dep_of (Fact := F_sp19 s r nE m5 ch ah EE G5) hd 7 (by kernel_rfl)))
                refine one_call _ _ rfl rfl (enters_of Try.func44 (by kernel_rfl) rfl) #[.pointer (some ⟨s, 0, none⟩)] (eval1 e1) ?_
                refine (b_gens_s (HBT.out.below hb)).mono ?_
                rintro e3 w3 ⟨a3, c3, rfl, h3, hb3⟩
                exact ⟨_, rfl, _, rfl, hb3, a3, c3, by rw [HM5.out], h3⟩
              · intro vs w' F hb hd hF hl hT
                have eg := ((hF 92).trans (look_at _ 92 6 _ _ (by kernel_rfl) (by kernel_rfl) hl)).trans (dep_of (Fact := F_sp19 s r nE m5 ch ah EE G5) hd 6 (by kernel_rfl))
                refine wpList_on rfl (t := 92) (by kernel_rfl) eg ?_
                have e := (hF 9).trans (look_out _ 9 _ _ (by kernel_rfl))
                exact one_move _ rfl (by first | exact Or.inl rfl | exact Or.inr rfl) ⟨_, rfl, Below.refl _ _, e⟩
              · intro vs w' F hb hd hF hl hT
                have eg := ((hF 92).trans (look_at _ 92 6 _ _ (by kernel_rfl) (by kernel_rfl) hl)).trans (dep_of (Fact := F_sp19 s r nE m5 ch ah EE G5) hd 6 (by kernel_rfl))
                refine wpList_on rfl (t := 92) (by kernel_rfl) eg ?_
                have e := ((hF 95).trans (look_at _ 95 9 _ _ (by kernel_rfl) (by kernel_rfl) hl)).trans (dep_of (Fact := F_sp19 s r nE m5 ch ah EE G5) hd 9 (by kernel_rfl))
                exact one_nilCheck _ rfl rfl _ e ⟨_, rfl, Below.refl _ _, rfl⟩
              · intro vs w' F hb hd hF hl hT
                have eg := ((hF 92).trans (look_at _ 92 6 _ _ (by kernel_rfl) (by kernel_rfl) hl)).trans (dep_of (Fact := F_sp19 s r nE m5 ch ah EE G5) hd 6 (by kernel_rfl))
                refine wpList_on rfl (t := 92) (by kernel_rfl) eg ?_
                have e := ((hF 96).trans (look_at _ 96 10 _ _ (by kernel_rfl) (by kernel_rfl) hl)).trans (dep_of (Fact := F_sp19 s r nE m5 ch ah EE G5) hd 10 (by kernel_rfl))
                exact one_field _ _ _ rfl rfl _ _ e (0) (fun w => by kernel_rfl) ⟨_, rfl, Below.refl _ _, rfl⟩
              · intro vs w' F hb hd hF hl hT
                have eg := ((hF 92).trans (look_at _ 92 6 _ _ (by kernel_rfl) (by kernel_rfl) hl)).trans (dep_of (Fact := F_sp19 s r nE m5 ch ah EE G5) hd 6 (by kernel_rfl))
                refine wpList_on rfl (t := 92) (by kernel_rfl) eg ?_
                have e := ((hF 97).trans (look_at _ 97 11 _ _ (by kernel_rfl) (by kernel_rfl) hl)).trans (dep_of (Fact := F_sp19 s r nE m5 ch ah EE G5) hd 11 (by kernel_rfl))
                exact one_load _ _ rfl rfl _ _ e (cell_abides CR.out hb) (by kernel_rfl) ⟨_, rfl, Below.refl _ _, rfl⟩
              · intro vs w' F hb hd hF hl hT
                have eg := ((hF 92).trans (look_at _ 92 6 _ _ (by kernel_rfl) (by kernel_rfl) hl)).trans (dep_of (Fact := F_sp19 s r nE m5 ch ah EE G5) hd 6 (by kernel_rfl))
                refine wpList_on rfl (t := 92) (by kernel_rfl) eg ?_
                obtain ⟨a1, c1, e1, h1⟩ := (dep_of (Fact := F_sp19 s r nE m5 ch ah EE G5) hd 8 (by kernel_rfl))
                have e2 := (((hF 98).trans (look_at _ 98 12 _ _ (by kernel_rfl) (by kernel_rfl) hl)).trans (dep_of (Fact := F_sp19 s r nE m5 ch ah EE G5) hd 12 (by kernel_rfl)))
                have g1 := ((hF 94).trans (look_at _ 94 8 _ _ (by kernel_rfl) (by kernel_rfl) hl)).trans e1
                rw [HM5.out] at g1 e2
                refine one_call _ _ rfl rfl (enters_of Try.func19 (by kernel_rfl) rfl) #[.slice a1 G5.length c1, .slice ah G5.length ch] (eval2 g1 e2) ?_
                refine (eq_ints a1 ah c1 ch G5 G5 HGB.out HGB.out w' h1 (CI.out.below hb)).mono ?_
                rintro e3 w3 ⟨rfl, hb3⟩
                exact ⟨_, rfl, _, rfl, hb3, by rw [show decide (G5 = G5) = true from decide_eq_true rfl]; rfl⟩
              · intro vs w' F hb hd hF hl hT
                have eg := ((hF 92).trans (look_at _ 92 6 _ _ (by kernel_rfl) (by kernel_rfl) hl)).trans (dep_of (Fact := F_sp19 s r nE m5 ch ah EE G5) hd 6 (by kernel_rfl))
                refine wpList_on rfl (t := 92) (by kernel_rfl) eg ?_
                have e := ((hF 99).trans (look_at _ 99 13 _ _ (by kernel_rfl) (by kernel_rfl) hl)).trans (dep_of (Fact := F_sp19 s r nE m5 ch ah EE G5) hd 13 (by kernel_rfl))
                exact one_not _ _ rfl rfl _ false e rfl ⟨_, rfl, Below.refl _ _, rfl⟩
              · intro vs w' F hb hd hF hl hT
                have ec := ((hF 92).trans (look_at _ 92 6 _ _ (by kernel_rfl) (by kernel_rfl) hl)).trans (dep_of (Fact := F_sp19 s r nE m5 ch ah EE G5) hd 6 (by kernel_rfl))
                have e := ((hF 100).trans (look_at _ 100 14 _ _ (by kernel_rfl) (by kernel_rfl) hl)).trans (dep_of (Fact := F_sp19 s r nE m5 ch ah EE G5) hd 14 (by kernel_rfl))
                exact one_pick_f _ _ _ rfl rfl _ ec e ⟨_, rfl, Below.refl _ _, rfl⟩
            · intro vs8 W8 hl hb hI
              have HBN := Lib.hid (HBT.out.below hb)
              have hv : vs8.getD 15 undef = .bool false := hI 15 (by omega)
              obtain ⟨x0, x1, x2, x3, x4, x5, x6, x7, x8, x9, x10, x11, x12, x13, x14, x15, hvs⟩ := list16 hl
              subst hvs
              replace hv : x15 = .bool false := hv
              subst hv
              clear hI hl
              simp only [fillAll, Act.put, List.setIfInBounds_toArray, List.set_cons_succ, List.set_cons_zero]
              show wpList _ _ _ [] _ _
              clear CR CI HBT hb
              go_wp2_with fail
              go_roundg (nl - (k + 1))
              case measure => rw [G2.out]; omega
              case rel => exact ⟨k + 1, G5, B5, hlt, rfl, by go_num, HBN⟩
          · have t1 : (p == -1) = false := by rw [beq_eq_false_iff_ne]; exact hm1
            have HM1 := Lib.hid hm1
            clear hm1
            go_wp2_with fail
            have hbo := HBO.out.below ((Below.refl _ _).alloc (Nat.le_refl _) (.cells #[.int .i64 p, .int .i64 q] 55))
            have hbx := heap_alloc_new wr (.cells #[.int .i64 p, .int .i64 q] 55)
            obtain ⟨W1, hW1⟩ : ∃ W1, W1 = wr.alloc (.cells #[.int .i64 p, .int .i64 q] 55) := ⟨_, rfl⟩
            obtain ⟨xb, hxb⟩ : ∃ xb, xb = wr.heap.size := ⟨_, rfl⟩
            rw [← hW1] at hbo hbx ⊢
            rw [← hxb] at hbx ⊢
            have HST := Lib.hid (show FrSt w s r G1 B1 p q xb (fun _ => none) W1 from ⟨hbo, hbx⟩)
            obtain ⟨al, hal⟩ : ∃ al, al = alive G1 B1 p q := ⟨_, rfl⟩
            obtain ⟨fe, hfe⟩ : ∃ fe, fe = frE G1 B1 p q := ⟨_, rfl⟩
            have HAL := Lib.hid hal
            have HFE := Lib.hid hfe
            clear hbo hbx hW1 hxb hal hfe HBO cy0 cy1
            refine wp_region_st rfl 16 (by kernel_rfl) (FrSt w s r G1 B1 p q xb) [10, 13] (FrSt.congr) (HST.out.below (Below.refl _ _).drew) (F_sp17 s r xb p q al fe) (F_sp17_mono s r xb p q al fe) [0, 0, 3, 0, 0, 31, 63, 127, 255, 255, 1023, 255, 255, 8191, 16383, 32767] (by kernel_rfl) ?_ ?_
            · refine ⟨?_, ?_, ?_, ?_, ?_, ?_, ?_, ?_, ?_, ?_, ?_, ?_, ?_, ?_, ?_, ?_, trivial⟩
              · intro vs w' F S hst hd hF hl hT hA hN hp
                have e := (hF 7).trans (look_out _ 7 _ _ (by kernel_rfl))
                exact one_move _ rfl (by first | exact Or.inl rfl | exact Or.inr rfl) ⟨_, rfl, (hp (by kernel_rfl) _), e⟩
              · intro vs w' F S hst hd hF hl hT hA hN hp
                have e := (hF 12).trans (look_out _ 12 _ _ (by kernel_rfl))
                exact rg_load 55 _ rfl rfl (xb) (0) [.int .i64 p, .int .i64 q] e (CellsK.row hst.2) _ Try.underlying55 rfl (by kernel_rfl) ⟨_, rfl, (hp (by kernel_rfl) _), rfl⟩
              · intro vs w' F S hst hd hF hl hT hA hN hp
                have e1 := (((hF 70).trans (look_at _ 70 0 _ _ (by kernel_rfl) (by kernel_rfl) hl)).trans (dep_of (Fact := F_sp17 s r xb p q al fe) hd 0 (by kernel_rfl)))
                have e2 := (((hF 71).trans (look_at _ 71 1 _ _ (by kernel_rfl) (by kernel_rfl) hl)).trans (dep_of (Fact := F_sp17 s r xb p q al fe) hd 1 (by kernel_rfl)))
                refine one_call _ _ rfl rfl (enters_of Try.func37 (by kernel_rfl) rfl) #[.pointer (some ⟨s, 0, none⟩), .agg #[.int .i64 p, .int .i64 q]] (eval2 e1 e2) ?_
                refine (hst.alive_s (hN 10 (by decide) (by kernel_rfl)) HPN.out).mono ?_
                rintro e3 w3 ⟨rfl, hb3⟩
                exact ⟨_, rfl, _, rfl, (hp (by kernel_rfl) _).below hb3, by rw [← HAL.out]; rfl⟩
              · intro vs w' F S hst hd hF hl hT hA hN hp
                have e := (hF 9).trans (look_out _ 9 _ _ (by kernel_rfl))
                exact one_move _ rfl (by first | exact Or.inl rfl | exact Or.inr rfl) ⟨_, rfl, (hp (by kernel_rfl) _), e⟩
              · intro vs w' F S hst hd hF hl hT hA hN hp
                have e := (hF 12).trans (look_out _ 12 _ _ (by kernel_rfl))
                exact rg_load 55 _ rfl rfl (xb) (0) [.int .i64 p, .int .i64 q] e (CellsK.row hst.2) _ Try.underlying55 rfl (by kernel_rfl) ⟨_, rfl, (hp (by kernel_rfl) _), rfl⟩
              · intro vs w' F S hst hd hF hl hT hA hN hp
                have e1 := (((hF 73).trans (look_at _ 73 3 _ _ (by kernel_rfl) (by kernel_rfl) hl)).trans (dep_of (Fact := F_sp17 s r xb p q al fe) hd 3 (by kernel_rfl)))
                have e2 := (((hF 74).trans (look_at _ 74 4 _ _ (by kernel_rfl) (by kernel_rfl) hl)).trans (dep_of (Fact := F_sp17 s r xb p q al fe) hd 4 (by kernel_rfl)))
                refine one_call _ _ rfl rfl (enters_of Try.func38 (by kernel_rfl) rfl) #[.pointer (some ⟨r, 0, none⟩), .agg #[.int .i64 p, .int .i64 q]] (eval2 e1 e2) ?_
                refine (hst.alive_r (hN 13 (by decide) (by kernel_rfl))).mono ?_
                rintro e3 w3 ⟨rfl, hb3⟩
                exact ⟨_, rfl, _, rfl, (hp (by kernel_rfl) _).below hb3, by rw [← HAL.out]; rfl⟩
              · intro vs w' F S hst hd hF hl hT hA hN hp
                have e1 := ((hF 72).trans (look_at _ 72 2 _ _ (by kernel_rfl) (by kernel_rfl) hl)).trans (dep_of (Fact := F_sp17 s r xb p q al fe) hd 2 (by kernel_rfl))
                have e2 := ((hF 75).trans (look_at _ 75 5 _ _ (by kernel_rfl) (by kernel_rfl) hl)).trans (dep_of (Fact := F_sp17 s r xb p q al fe) hd 5 (by kernel_rfl))
                exact one_bool_ne _ _ _ _ rfl rfl (by kernel_rfl) _ _ false e1 e2 (bne_self_eq_false _) ⟨_, rfl, (hp (by kernel_rfl) _), rfl⟩
              · intro vs w' F S hst hd hF hl hT hA hN hp
                have e := ((hF 76).trans (look_at _ 76 6 _ _ (by kernel_rfl) (by kernel_rfl) hl)).trans (dep_of (Fact := F_sp17 s r xb p q al fe) hd 6 (by kernel_rfl))
                exact one_move _ rfl (by first | exact Or.inl rfl | exact Or.inr rfl) ⟨_, rfl, (hp (by kernel_rfl) _), e⟩
              · intro vs w' F S hst hd hF hl hT hA hN hp
                have eg := ((hF 77).trans (look_at _ 77 7 _ _ (by kernel_rfl) (by kernel_rfl) hl)).trans (dep_of (Fact := F_sp17 s r xb p q al fe) hd 7 (by kernel_rfl))
                refine wpList_on rfl (t := 77) (by kernel_rfl) eg ?_
                have e := (hF 7).trans (look_out _ 7 _ _ (by kernel_rfl))
                exact one_move _ rfl (by first | exact Or.inl rfl | exact Or.inr rfl) ⟨_, rfl, (hp (by kernel_rfl) _), e⟩
              · intro vs w' F S hst hd hF hl hT hA hN hp
                have eg := ((hF 77).trans (look_at _ 77 7 _ _ (by kernel_rfl) (by kernel_rfl) hl)).trans (dep_of (Fact := F_sp17 s r xb p q al fe) hd 7 (by kernel_rfl))
                refine wpList_on rfl (t := 77) (by kernel_rfl) eg ?_
                have e := (hF 12).trans (look_out _ 12 _ _ (by kernel_rfl))
                exact rg_load 55 _ rfl rfl (xb) (0) [.int .i64 p, .int .i64 q] e (CellsK.row hst.2) _ Try.underlying55 rfl (by kernel_rfl) ⟨_, rfl, (hp (by kernel_rfl) _), rfl⟩
              · intro vs w' F S hst hd hF hl hT hA hN hp
                have eg := ((hF 77).trans (look_at _ 77 7 _ _ (by kernel_rfl) (by kernel_rfl) hl)).trans (dep_of (Fact := F_sp17 s r xb p q al fe) hd 7 (by kernel_rfl))
                refine wpList_on rfl (t := 77) (by kernel_rfl) eg ?_
                have e1 := (((hF 78).trans (look_at _ 78 8 _ _ (by kernel_rfl) (by kernel_rfl) hl)).trans (dep_of (Fact := F_sp17 s r xb p q al fe) hd 8 (by kernel_rfl)))
                have e2 := (((hF 79).trans (look_at _ 79 9 _ _ (by kernel_rfl) (by kernel_rfl) hl)).trans (dep_of (Fact := F_sp17 s r xb p q al fe) hd 9 (by kernel_rfl)))
                refine one_call _ _ rfl rfl (enters_of Try.func39 (by kernel_rfl) rfl) #[.pointer (some ⟨s, 0, none⟩), .agg #[.int .i64 p, .int .i64 q]] (eval2 e1 e2) ?_
                refine (hst.free_s (hN 10 (by decide) (by kernel_rfl)) HPN.out).mono ?_
                rintro e3 w3 ⟨rfl, hb3⟩
                exact ⟨_, rfl, _, rfl, hb3 _, by rw [← HFE.out]; rfl⟩
              · intro vs w' F S hst hd hF hl hT hA hN hp
                have eg := ((hF 77).trans (look_at _ 77 7 _ _ (by kernel_rfl) (by kernel_rfl) hl)).trans (dep_of (Fact := F_sp17 s r xb p q al fe) hd 7 (by kernel_rfl))
                refine wpList_on rfl (t := 77) (by kernel_rfl) eg ?_
                have e := (hF 9).trans (look_out _ 9 _ _ (by kernel_rfl))
                exact one_move _ rfl (by first | exact Or.inl rfl | exact Or.inr rfl) ⟨_, rfl, (hp (by kernel_rfl) _), e⟩
              · intro vs w' F S hst hd hF hl hT hA hN hp
                have eg := ((hF 77).trans (look_at _ 77 7 _ _ (by kernel_rfl) (by kernel_rfl) hl)).trans (dep_of (Fact := F_sp17 s r xb p q al fe) hd 7 (by kernel_rfl))
                refine wpList_on rfl (t := 77) (by kernel_rfl) eg ?_
                have e := (hF 12).trans (look_out _ 12 _ _ (by kernel_rfl))
                exact rg_load 55 _ rfl rfl (xb) (0) [.int .i64 p, .int .i64 q] e (CellsK.row hst.2) _ Try.underlying55 rfl (by kernel_rfl) ⟨_, rfl, (hp (by kernel_rfl) _), rfl⟩
              · intro vs w' F S hst hd hF hl hT hA hN hp
                have eg := ((hF 77).trans (look_at _ 77 7 _ _ (by kernel_rfl) (by kernel_rfl) hl)).trans (dep_of (Fact := F_sp17 s r xb p q al fe) hd 7 (by kernel_rfl))
                refine wpList_on rfl (t := 77) (by kernel_rfl) eg ?_
                have e1 := (((hF 81).trans (look_at _ 81 11 _ _ (by kernel_rfl) (by kernel_rfl) hl)).trans (dep_of (Fact := F_sp17 s r xb p q al fe) hd 11 (by kernel_rfl)))
                have e2 := (((hF 82).trans (look_at _ 82 12 _ _ (by kernel_rfl) (by kernel_rfl) hl)).trans (dep_of (Fact := F_sp17 s r xb p q al fe) hd 12 (by kernel_rfl)))
                refine one_call _ _ rfl rfl (enters_of Try.func40 (by kernel_rfl) rfl) #[.pointer (some ⟨r, 0, none⟩), .agg #[.int .i64 p, .int .i64 q]] (eval2 e1 e2) ?_
                refine (hst.free_r (hN 13 (by decide) (by kernel_rfl))).mono ?_
                rintro e3 w3 ⟨rfl, hb3⟩
                exact ⟨_, rfl, _, rfl, hb3 _, by rw [← HFE.out]; rfl⟩
              · intro vs w' F S hst hd hF hl hT hA hN hp
                have eg := ((hF 77).trans (look_at _ 77 7 _ _ (by kernel_rfl) (by kernel_rfl) hl)).trans (dep_of (Fact := F_sp17 s r xb p q al fe) hd 7 (by kernel_rfl))
                refine wpList_on rfl (t := 77) (by kernel_rfl) eg ?_
                have e1 := ((hF 80).trans (look_at _ 80 10 _ _ (by kernel_rfl) (by kernel_rfl) hl)).trans (dep_of (Fact := F_sp17 s r xb p q al fe) hd 10 (by kernel_rfl))
                have e2 := ((hF 83).trans (look_at _ 83 13 _ _ (by kernel_rfl) (by kernel_rfl) hl)).trans (dep_of (Fact := F_sp17 s r xb p q al fe) hd 13 (by kernel_rfl))
                exact rg_neq _ _ _ _ rfl rfl .i64 (fe) (fe) false e1 e2 (decide_eq_false (by omega)) ⟨_, rfl, (hp (by kernel_rfl) _), rfl⟩
              · intro vs w' F S hst hd hF hl hT hA hN hp
                have ec := ((hF 77).trans (look_at _ 77 7 _ _ (by kernel_rfl) (by kernel_rfl) hl)).trans (dep_of (Fact := F_sp17 s r xb p q al fe) hd 7 (by kernel_rfl))
                have e := ((hF 84).trans (look_at _ 84 14 _ _ (by kernel_rfl) (by kernel_rfl) hl)).trans (dep_of (Fact := F_sp17 s r xb p q al fe) hd 14 (by kernel_rfl))
                exact one_pick_f _ _ _ rfl rfl _ ec e ⟨_, rfl, (hp (by kernel_rfl) _), rfl⟩
            · intro vs8 W8 S8 hl hst hS hI
              have hbt := hst.done (hS 10 (by decide)) (hS 13 (by decide))
              obtain ⟨G5, hG5⟩ : ∃ G5, G5 = frG G1 B1 p q := ⟨_, rfl⟩
              obtain ⟨B5, hB5⟩ : ∃ B5, B5 = frB G1 B1 p q := ⟨_, rfl⟩
              rw [← hG5, ← hB5] at hbt
              have hb := hbt
              obtain ⟨W5, hW5⟩ : ∃ W5, W5 = W8 := ⟨_, rfl⟩
              rw [← hW5] at hbt ⊢
              have HBT5 := Lib.hid hbt
              have hv : vs8.getD 15 undef = .bool false := hI 15 (by omega)
              obtain ⟨x0, x1, x2, x3, x4, x5, x6, x7, x8, x9, x10, x11, x12, x13, x14, x15, hvs⟩ := list16 hl
              subst hvs
              replace hv : x15 = .bool false := hv
              subst hv
              clear hI hl
              simp only [fillAll, Act.put, List.setIfInBounds_toArray, List.set_cons_succ, List.set_cons_zero]
              show wpList _ _ _ [] _ _
              clear hst hS hb hW5 hG5 hB5 hbt HAL HFE HST
              go_wp2_with fail
              have hbt := HBT5.out
              have hbr := b_gens_r hbt
              obtain ⟨ah, ch, hcr, hci⟩ := hbr
              obtain ⟨m5, hm5⟩ : ∃ m5, m5 = G5.length := ⟨_, rfl⟩
              rw [← hm5] at hcr
              obtain ⟨EE, hEE⟩ : ∃ EE, EE = entK G5 B5 B5.length := ⟨_, rfl⟩
              obtain ⟨nE, hnE⟩ : ∃ nE, nE = EE.length := ⟨_, rfl⟩
              have HNB := Lib.hid (show nE ≤ 1048576 by have := (b_len hbt).1; have := entK_len G5 B5 B5.length; rw [hnE, hEE]; omega)
              have HGB := Lib.hid (show G5.length ≤ 9223372036854775807 by have := (b_len hbt).2; omega)
              have HM5 := Lib.hid hm5
              have HEE := Lib.hid hEE
              have HNE := Lib.hid hnE
              have CR := Lib.hid hcr
              have CI := Lib.hid hci
              have HBT := Lib.hid hbt
              clear hm5 hEE hnE hcr hci hbt
              refine wp_region_facts_t rfl 16 (by kernel_rfl) (F_sp19 s r nE m5 ch ah EE G5) (F_sp19_mono s r nE m5 ch ah EE G5) ?_ ?_
              · refine ⟨?_, ?_, ?_, ?_, ?_, ?_, ?_, ?_, ?_, ?_, ?_, ?_, ?_, ?_, ?_, ?_, trivial⟩
                · intro vs w' F hb hd hF hl hT
                  have e := (hF 7).trans (look_out _ 7 _ _ (by kernel_rfl))
                  exact one_move _ rfl (by first | exact Or.inl rfl | exact Or.inr rfl) ⟨_, rfl, Below.refl _ _, e⟩
                · intro vs w' F hb hd hF hl hT
                  have e1 := (((hF 86).trans (look_at _ 86 0 _ _ (by kernel_rfl) (by kernel_rfl) hl)).trans (dep_of (Fact := F_sp19 s r nE m5 ch ah EE G5) hd 0 (by kernel_rfl)))
                  refine one_call _ _ rfl rfl (enters_of Try.func42 (by kernel_rfl) rfl) #[.pointer (some ⟨s, 0, none⟩)] (eval1 e1) ?_
                  refine (b_list_s (HBT.out.below hb)).mono ?_
                  rintro e3 w3 ⟨a3, n3, c3, hn3, rfl, h3, hb3⟩
                  rw [← HEE.out] at hn3 h3
                  obtain rfl := HNE.out.trans hn3
                  exact ⟨_, rfl, _, rfl, hb3, a3, c3, rfl, h3⟩
                · intro vs w' F hb hd hF hl hT
                  have e := (hF 9).trans (look_out _ 9 _ _ (by kernel_rfl))
                  exact one_move _ rfl (by first | exact Or.inl rfl | exact Or.inr rfl) ⟨_, rfl, Below.refl _ _, e⟩
                · intro vs w' F hb hd hF hl hT
                  have e1 := (((hF 88).trans (look_at _ 88 2 _ _ (by kernel_rfl) (by kernel_rfl) hl)).trans (dep_of (Fact := F_sp19 s r nE m5 ch ah EE G5) hd 2 (by kernel_rfl)))
                  refine one_call _ _ rfl rfl (enters_of Try.func43 (by kernel_rfl) rfl) #[.pointer (some ⟨r, 0, none⟩)] (eval1 e1) ?_
                  refine (b_list_r (HBT.out.below hb)).mono ?_
                  rintro e3 w3 ⟨a3, n3, c3, hn3, rfl, h3, hb3⟩
                  rw [← HEE.out] at hn3 h3
                  obtain rfl := HNE.out.trans hn3
                  exact ⟨_, rfl, _, rfl, hb3, a3, c3, rfl, h3⟩
                · intro vs w' F hb hd hF hl hT
                  obtain ⟨a1, c1, e1, h1⟩ := (dep_of (Fact := F_sp19 s r nE m5 ch ah EE G5) hd 1 (by kernel_rfl))
                  obtain ⟨a2, c2, e2, h2⟩ := (dep_of (Fact := F_sp19 s r nE m5 ch ah EE G5) hd 3 (by kernel_rfl))
                  have g1 := ((hF 87).trans (look_at _ 87 1 _ _ (by kernel_rfl) (by kernel_rfl) hl)).trans e1
                  have g2 := ((hF 89).trans (look_at _ 89 3 _ _ (by kernel_rfl) (by kernel_rfl) hl)).trans e2
                  refine one_call _ _ rfl rfl (enters_of Try.func41 (by kernel_rfl) rfl) #[.slice a1 nE c1, .slice a2 nE c2] (eval2 g1 g2) ?_
                  refine (eq_ents a1 a2 c1 c2 nE EE HNE.out.symm HNB.out w' h1 h2).mono ?_
                  rintro e3 w3 ⟨rfl, hb3⟩
                  exact ⟨_, rfl, _, rfl, hb3, rfl⟩
                · intro vs w' F hb hd hF hl hT
                  have e := ((hF 90).trans (look_at _ 90 4 _ _ (by kernel_rfl) (by kernel_rfl) hl)).trans (dep_of (Fact := F_sp19 s r nE m5 ch ah EE G5) hd 4 (by kernel_rfl))
                  exact one_not _ _ rfl rfl _ false e rfl ⟨_, rfl, Below.refl _ _, rfl⟩
                · intro vs w' F hb hd hF hl hT
                  have e := ((hF 91).trans (look_at _ 91 5 _ _ (by kernel_rfl) (by kernel_rfl) hl)).trans (dep_of (Fact := F_sp19 s r nE m5 ch ah EE G5) hd 5 (by kernel_rfl))
                  exact one_move _ rfl (by first | exact Or.inl rfl | exact Or.inr rfl) ⟨_, rfl, Below.refl _ _, e⟩
                · intro vs w' F hb hd hF hl hT
                  have eg := ((hF 92).trans (look_at _ 92 6 _ _ (by kernel_rfl) (by kernel_rfl) hl)).trans (dep_of (Fact := F_sp19 s r nE m5 ch ah EE G5) hd 6 (by kernel_rfl))
                  refine wpList_on rfl (t := 92) (by kernel_rfl) eg ?_
                  have e := (hF 7).trans (look_out _ 7 _ _ (by kernel_rfl))
                  exact one_move _ rfl (by first | exact Or.inl rfl | exact Or.inr rfl) ⟨_, rfl, Below.refl _ _, e⟩
                · intro vs w' F hb hd hF hl hT
                  have eg := ((hF 92).trans (look_at _ 92 6 _ _ (by kernel_rfl) (by kernel_rfl) hl)).trans (dep_of (Fact := F_sp19 s r nE m5 ch ah EE G5) hd 6 (by kernel_rfl))
                  refine wpList_on rfl (t := 92) (by kernel_rfl) eg ?_
                  have e1 := (((hF 93).trans (look_at _ 93 7 _ _ (by kernel_rfl) (by kernel_rfl) hl)).trans (dep_of (Fact := F_sp19 s r nE m5 ch ah EE G5) hd 7 (by kernel_rfl)))
                  refine one_call _ _ rfl rfl (enters_of Try.func44 (by kernel_rfl) rfl) #[.pointer (some ⟨s, 0, none⟩)] (eval1 e1) ?_
                  refine (b_gens_s (HBT.out.below hb)).mono ?_
                  rintro e3 w3 ⟨a3, c3, rfl, h3, hb3⟩
                  exact ⟨_, rfl, _, rfl, hb3, a3, c3, by rw [HM5.out], h3⟩
                · intro vs w' F hb hd hF hl hT
                  have eg := ((hF 92).trans (look_at _ 92 6 _ _ (by kernel_rfl) (by kernel_rfl) hl)).trans (dep_of (Fact := F_sp19 s r nE m5 ch ah EE G5) hd 6 (by kernel_rfl))
                  refine wpList_on rfl (t := 92) (by kernel_rfl) eg ?_
                  have e := (hF 9).trans (look_out _ 9 _ _ (by kernel_rfl))
                  exact one_move _ rfl (by first | exact Or.inl rfl | exact Or.inr rfl) ⟨_, rfl, Below.refl _ _, e⟩
                · intro vs w' F hb hd hF hl hT
                  have eg := ((hF 92).trans (look_at _ 92 6 _ _ (by kernel_rfl) (by kernel_rfl) hl)).trans (dep_of (Fact := F_sp19 s r nE m5 ch ah EE G5) hd 6 (by kernel_rfl))
                  refine wpList_on rfl (t := 92) (by kernel_rfl) eg ?_
                  have e := ((hF 95).trans (look_at _ 95 9 _ _ (by kernel_rfl) (by kernel_rfl) hl)).trans (dep_of (Fact := F_sp19 s r nE m5 ch ah EE G5) hd 9 (by kernel_rfl))
                  exact one_nilCheck _ rfl rfl _ e ⟨_, rfl, Below.refl _ _, rfl⟩
                · intro vs w' F hb hd hF hl hT
                  have eg := ((hF 92).trans (look_at _ 92 6 _ _ (by kernel_rfl) (by kernel_rfl) hl)).trans (dep_of (Fact := F_sp19 s r nE m5 ch ah EE G5) hd 6 (by kernel_rfl))
                  refine wpList_on rfl (t := 92) (by kernel_rfl) eg ?_
                  have e := ((hF 96).trans (look_at _ 96 10 _ _ (by kernel_rfl) (by kernel_rfl) hl)).trans (dep_of (Fact := F_sp19 s r nE m5 ch ah EE G5) hd 10 (by kernel_rfl))
                  exact one_field _ _ _ rfl rfl _ _ e (0) (fun w => by kernel_rfl) ⟨_, rfl, Below.refl _ _, rfl⟩
                · intro vs w' F hb hd hF hl hT
                  have eg := ((hF 92).trans (look_at _ 92 6 _ _ (by kernel_rfl) (by kernel_rfl) hl)).trans (dep_of (Fact := F_sp19 s r nE m5 ch ah EE G5) hd 6 (by kernel_rfl))
                  refine wpList_on rfl (t := 92) (by kernel_rfl) eg ?_
                  have e := ((hF 97).trans (look_at _ 97 11 _ _ (by kernel_rfl) (by kernel_rfl) hl)).trans (dep_of (Fact := F_sp19 s r nE m5 ch ah EE G5) hd 11 (by kernel_rfl))
                  exact one_load _ _ rfl rfl _ _ e (cell_abides CR.out hb) (by kernel_rfl) ⟨_, rfl, Below.refl _ _, rfl⟩
                · intro vs w' F hb hd hF hl hT
                  have eg := ((hF 92).trans (look_at _ 92 6 _ _ (by kernel_rfl) (by kernel_rfl) hl)).trans (dep_of (Fact := F_sp19 s r nE m5 ch ah EE G5) hd 6 (by kernel_rfl))
                  refine wpList_on rfl (t := 92) (by kernel_rfl) eg ?_
                  obtain ⟨a1, c1, e1, h1⟩ := (dep_of (Fact := F_sp19 s r nE m5 ch ah EE G5) hd 8 (by kernel_rfl))
                  have e2 := (((hF 98).trans (look_at _ 98 12 _ _ (by kernel_rfl) (by kernel_rfl) hl)).trans (dep_of (Fact := F_sp19 s r nE m5 ch ah EE G5) hd 12 (by kernel_rfl)))
                  have g1 := ((hF 94).trans (look_at _ 94 8 _ _ (by kernel_rfl) (by kernel_rfl) hl)).trans e1
                  rw [HM5.out] at g1 e2
                  refine one_call _ _ rfl rfl (enters_of Try.func19 (by kernel_rfl) rfl) #[.slice a1 G5.length c1, .slice ah G5.length ch] (eval2 g1 e2) ?_
                  refine (eq_ints a1 ah c1 ch G5 G5 HGB.out HGB.out w' h1 (CI.out.below hb)).mono ?_
                  rintro e3 w3 ⟨rfl, hb3⟩
                  exact ⟨_, rfl, _, rfl, hb3, by rw [show decide (G5 = G5) = true from decide_eq_true rfl]; rfl⟩
                · intro vs w' F hb hd hF hl hT
                  have eg := ((hF 92).trans (look_at _ 92 6 _ _ (by kernel_rfl) (by kernel_rfl) hl)).trans (dep_of (Fact := F_sp19 s r nE m5 ch ah EE G5) hd 6 (by kernel_rfl))
                  refine wpList_on rfl (t := 92) (by kernel_rfl) eg ?_
                  have e := ((hF 99).trans (look_at _ 99 13 _ _ (by kernel_rfl) (by kernel_rfl) hl)).trans (dep_of (Fact := F_sp19 s r nE m5 ch ah EE G5) hd 13 (by kernel_rfl))
                  exact one_not _ _ rfl rfl _ false e rfl ⟨_, rfl, Below.refl _ _, rfl⟩
                · intro vs w' F hb hd hF hl hT
                  have ec := ((hF 92).trans (look_at _ 92 6 _ _ (by kernel_rfl) (by kernel_rfl) hl)).trans (dep_of (Fact := F_sp19 s r nE m5 ch ah EE G5) hd 6 (by kernel_rfl))
                  have e := ((hF 100).trans (look_at _ 100 14 _ _ (by kernel_rfl) (by kernel_rfl) hl)).trans (dep_of (Fact := F_sp19 s r nE m5 ch ah EE G5) hd 14 (by kernel_rfl))
                  exact one_pick_f _ _ _ rfl rfl _ ec e ⟨_, rfl, Below.refl _ _, rfl⟩
              · intro vs8 W8 hl hb hI
                have HBN := Lib.hid (HBT.out.below hb)
                have hv : vs8.getD 15 undef = .bool false := hI 15 (by omega)
                obtain ⟨x0, x1, x2, x3, x4, x5, x6, x7, x8, x9, x10, x11, x12, x13, x14, x15, hvs⟩ := list16 hl
                subst hvs
                replace hv : x15 = .bool false := hv
                subst hv
                clear hI hl
                simp only [fillAll, Act.put, List.setIfInBounds_toArray, List.set_cons_succ, List.set_cons_zero]
                show wpList _ _ _ [] _ _
                clear CR CI HBT hb
                go_wp2_with fail
                go_roundg (nl - (k + 1))
                case measure => rw [G2.out]; omega
                case rel => exact ⟨k + 1, G5, B5, hlt, rfl, by go_num, HBN⟩
        · go_wp2_with fail
          go_ret
          exact ⟨rfl, HBO.out.since⟩
end Go.Proofs.Ytlahmcbaiebapaa
