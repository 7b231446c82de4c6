/- Lemmas for the law TopBorderText: Close, OpenS, WOpen, WFree. No conditions. -/
import Derived.Test.YtfckbkhnelgjbaaM17
import Derived.Test.YtfckbkhnelgjbaaM04
import Derived.Test.YtfckbkhnelgjbaaM16
import Derived.Test.YtfckbkhnelgjbaaM18
import Derived.Test.YtfckbkhnelgjbaaM12
import Derived.Test.YtfckbkhnelgjbaaM07
import Derived.Test.YtfckbkhnelgjbaaM11
import Derived.Deep.DeepMust
import Derived.OwnWalk
import Derived.Test.YtfckbkhnelgjbaaM10
import Derived.Test.YtfckbkhnelgjbaaM05
/- The reference's Flat and its Close. -/
section
namespace Go.Proofs.Ytfckbkhnelgjbaa
open Go.ChangeShapes Go.WideShapes Go.ChangeAt Go.RowKit Go.Nm Go.Mem Go.Maps
set_option linter.unusedVariables false
theorem closeTo_len (f : FlatV) : ∀ n, (closeTo f n).length ≤ n
  | 0 => Nat.le_refl _
  | n + 1 => by
    have := closeTo_len f n
    unfold closeTo
    rw [List.length_append]
    split <;> simp <;> omega
theorem ints_gbp {k : IntKind} {w w' : World} {a : Option Addr} {zs : List Int} {row : Option Nat} (h : IntsAt k w a zs) (hg : w.grownBy w' row) (ha : ∀ x, a = some x → x.block < w.heap.size → some x.block ≠ row) : IntsAt k w' a zs := fun h0 => by
  obtain ⟨x, e, hx, hc⟩ := h h0
  exact ints_gbo h hg (fun y hy => by
    rw [e] at hy
    injection hy with hy
    subst hy
    exact ha x e hx) h0
/-- growth beside rows that lie beyond the start -/
theorem gb_row {a w w' : World} {X : Nat} {row : Option Nat} (h : a.grownBy w (some X)) (h2 : w.grownBy w' row) (hr : ∀ r, row = some r → a.heap.size ≤ r) : a.grownBy w' (some X) :=
  ⟨h2.os.trans h.os, h2.tape.trans h.tape, h2.output.trans h.output, Nat.le_trans h.size h2.size, fun k hk hne => (h2.block k (Nat.lt_of_lt_of_le hk h.size) (fun e => by have := hr k e.symm; omega)).trans (h.block k hk hne)⟩
theorem list12 {α : Type} {vs : List α} (h : vs.length = 12) : ∃ x0 x1 x2 x3 x4 x5 x6 x7 x8 x9 x10 x11, vs = [x0, x1, x2, x3, x4, x5, x6, x7, x8, x9, x10, x11] := by
  obtain ⟨x0, t0, rfl, h0⟩ := cons_of h
  obtain ⟨x1, t1, rfl, h1⟩ := cons_of h0
  obtain ⟨x2, t2, rfl, h2⟩ := cons_of h1
  obtain ⟨x3, t3, rfl, h3⟩ := cons_of h2
  obtain ⟨x4, t4, rfl, h4⟩ := cons_of h3
  obtain ⟨x5, t5, rfl, h5⟩ := cons_of h4
  obtain ⟨x6, t6, rfl, h6⟩ := cons_of h5
  obtain ⟨x7, t7, rfl, h7⟩ := cons_of h6
  obtain ⟨x8, t8, rfl, h8⟩ := cons_of h7
  obtain ⟨x9, t9, rfl, h9⟩ := cons_of h8
  obtain ⟨x10, t10, rfl, h10⟩ := cons_of h9
  obtain ⟨x11, t11, rfl, h11⟩ := cons_of h10
  exact ⟨x0, x1, x2, x3, x4, x5, x6, x7, x8, x9, x10, x11, by rw [List.eq_nil_of_length_eq_zero h11]⟩
def F_clk (X BK nf cf : Nat) (af : Option Addr) (nmv : ByteArray) (V : Value) (y : KindV) (l : List KindV) (jq : Nat) (v : Value) (w : World) : Prop :=
  match jq with
  | 0 => v = .pointer (some ⟨X, 0, none⟩)
  | 1 => v = V
  | 2 => v = .pointer (some ⟨BK, 0, none⟩)
  | 3 => v = .string nmv
  | 4 => v = .pointer (some ⟨BK, 1, none⟩)
  | 5 => v = .slice af nf cf
  | 6 => ∃ a c, v = .slice a nf c ∧ nf ≤ c ∧ c ≤ 9223372036854775807 ∧ Up BK (fun w => SlAt 3 FieldAt w a y.fields) w
  | 7 => ∃ a c, v = .agg #[.string nmv, .slice a nf c] ∧ nf ≤ c ∧ c ≤ 9223372036854775807 ∧ Up BK (fun w => SlAt 3 FieldAt w a y.fields) w
  | 8 => ∃ g a c, v = .slice (some ⟨g, 0, none⟩) 1 1 ∧ CellsAt w (some ⟨g, 0, none⟩) [.string nmv, .slice a nf c] ∧ BK ≤ g ∧ Up BK (fun w => EKind w [.string nmv, .slice a nf c] y) w
  | 9 => GrowL EKind (X + 1) 102 2 w v (l ++ [y])
  | 10 => v = .pointer (some ⟨X, 0, none⟩)
  | _ => True
theorem F_clk_mono (X BK nf cf : Nat) (af : Option Addr) (nmv : ByteArray) (V : Value) (y : KindV) (l : List KindV) (hV : ∀ r, V.ownBlock = some r → r < BK) : FactsR (RG 9 V.ownBlock) (F_clk X BK nf cf af nmv V y l) := ⟨by
  intro i jq v w w' hij h hb
  unfold F_clk at h ⊢
  split at h
  all_goals first
    | exact h
    | (obtain ⟨a, c, e, h1, h2, h3⟩ := h; exact ⟨a, c, e, h1, h2, h3.grown hb.gb hV⟩)
    | (obtain ⟨g, a, c, e, h1, h2, h3⟩ := h; exact ⟨g, a, c, e, cells_gbo h1 hb.gb (fun e => by have := hV g e.symm; omega), h2, h3.grown hb.gb hV⟩)
    | exact GrowL.below h (hb.1 hij)
    | trivial⟩
def F_cli (X BK B2 nl i bi : Nat) (g : Int) (V : Value) (PF : Part) (l : List ItemV) (jq : Nat) (v : Value) (w : World) : Prop :=
  match jq with
  | 0 => v = .pointer (some ⟨X, 2, none⟩)
  | 1 => v = V
  | 2 => v = .int .i64 (i : Int)
  | 3 => v = .int .i64 g
  | 4 => v = .agg #[.int .i64 (i : Int), .int .i64 g]
  | 5 => v = .map (some bi)
  | 6 => ∃ a c, v = .slice a nl c ∧ Up BK (fun w => SlAt 2 CompAt w a (listed PF)) w
  | 7 => ∃ a c, v = .agg #[.int .i64 (i : Int), .int .i64 g, .slice a nl c] ∧ Up BK (fun w => SlAt 2 CompAt w a (listed PF)) w
  | 8 => ∃ q a c, v = .slice (some ⟨q, 0, none⟩) 1 1 ∧ CellsAt w (some ⟨q, 0, none⟩) [.int .i64 (i : Int), .int .i64 g, .slice a nl c] ∧ BK ≤ q ∧ Up BK (fun w => EItem w [.int .i64 (i : Int), .int .i64 g, .slice a nl c] ⟨(i : Int), g, listed PF⟩) w
  | 9 => GrowL EItem B2 72 3 w v (l ++ [⟨(i : Int), g, listed PF⟩])
  | 10 => v = .pointer (some ⟨X, 2, none⟩)
  | _ => True
theorem F_cli_mono (X BK B2 nl i bi : Nat) (g : Int) (V : Value) (PF : Part) (l : List ItemV) (hV : ∀ r, V.ownBlock = some r → r < BK) : FactsR (RG 9 V.ownBlock) (F_cli X BK B2 nl i bi g V PF l) := ⟨by
  intro ip jq v w w' hij h hb
  unfold F_cli at h ⊢
  split at h
  all_goals first
    | exact h
    | (obtain ⟨a, c, e, h3⟩ := h; exact ⟨a, c, e, h3.grown hb.gb hV⟩)
    | (obtain ⟨g, a, c, e, h1, h2, h3⟩ := h; exact ⟨g, a, c, e, cells_gbo h1 hb.gb (fun e => by have := hV g e.symm; omega), h2, h3.grown hb.gb hV⟩)
    | exact GrowL.below h (hb.1 hij)
    | trivial⟩

end Go.Proofs.Ytfckbkhnelgjbaa
end
/- What is opened is small. -/
section
namespace Go.Proofs.Ytfckbkhnelgjbaa
open Go.ChangeShapes Go.WideShapes Go.ChangeAt Go.RowKit Go.Nm Go.Mem Go.Maps
set_option linter.unusedVariables false
def SmallP (B : Nat) (F : Part) : Prop := ∀ k L, F k = some L → L.length ≤ B
theorem SmallP.upd {B : Nat} {F : Part} (h : SmallP B F) (k : Nat) {L : List Int} (hL : L.length ≤ B) : SmallP B (updF F k L) := fun i M hM => by
  by_cases e : i = k
  · subst e
    rw [updF_same] at hM
    injection hM with hM
    rw [← hM]; exact hL
  · rw [updF_other _ _ e] at hM
    exact h i M hM
theorem fitL_le (l : List FieldV) (vals : List Int) : (fitL l vals).length ≤ vals.length := by
  unfold fitL
  rw [List.length_zipWith]
  omega
theorem fitGo_small (ks : List KindV) (B : Nat) : ∀ (l : List CompV) (M : Part), (∀ c ∈ l, c.vals.length ≤ B) → SmallP B M → SmallP B (fitGo ks l M).2
  | [], M, _, h => h
  | c :: r, M, hl, h => by
    unfold fitGo
    split
    · exact h
    · split
      · exact h
      · split
        · exact h
        · exact fitGo_small ks B r _ (fun d hd => hl d (List.mem_cons_of_mem _ hd)) (h.upd _ (Nat.le_trans (fitL_le _ _) (hl c List.mem_cons_self)))
def SmallG (B : Nat) (G : Nat → Option Part) : Prop := ∀ i F, G i = some F → SmallP B F
theorem openGo_small (ks : List KindV) (ng B : Nat) : ∀ (l : List ItemV) (G G' : Nat → Option Part), (∀ y ∈ l, ∀ c ∈ y.comps, c.vals.length ≤ B) → SmallG B G → openGo ks ng l G = some G' → SmallG B G'
  | [], G, G', _, h, e => by
    injection e with e
    rw [← e]; exact h
  | y :: r, G, G', hl, h, e => by
    unfold openGo at e
    split at e
    · cases e
    · refine openGo_small ks ng B r _ G' (fun z hz => hl z (List.mem_cons_of_mem _ hz)) (fun i F hF => ?_) e
      by_cases ei : i = y.n.toNat
      · subst ei
        rw [updF_same] at hF
        injection hF with hF
        rw [← hF]
        exact fitGo_small ks B _ _ (hl y List.mem_cons_self) (fun k L h => by cases h)
      · rw [updF_other _ _ ei] at hF
        exact h i F hF
theorem close_small {f : FlatV} (hk : f.kinds.length ≤ 1048576) (hg : f.gens.length ≤ 1048576) (hG : SmallG 1048576 f.parts) : SmallW (closeV f) := by
  refine ⟨hk, hg, Nat.le_trans (closeTo_len f _) hg, fun x hx => ?_⟩
  have hx' : x ∈ closeTo f f.gens.length := hx
  rw [closeTo_listK, mem_listK] at hx'
  obtain ⟨i, _, F, hF, rfl⟩ := hx'
  refine ⟨Nat.le_trans (listedTo_len F 16) (by omega), fun c hc => ?_⟩
  have hc' : c ∈ listed F := hc
  rw [listed_listK, mem_listK] at hc'
  obtain ⟨k, _, L, hL, rfl⟩ := hc'
  exact hG i F hF k L hL
end Go.Proofs.Ytfckbkhnelgjbaa
end
/- The reference's Open. -/
section
namespace Go.Proofs.Ytfckbkhnelgjbaa
open Go.ChangeShapes Go.WideShapes Go.ChangeAt Go.RowKit Go.Nm Go.Mem Go.Maps
set_option linter.unusedVariables false
theorem nostr_map {w : World} {b n : Nat} {D : DataW Value} (h : OwnV w b n D) : NoStr w b := fun i s => by rw [own_nocell h]; simp
theorem own_map {w w' : World} {B e size n b m : Nat} {v : Value} {xs : List Value} {D : DataW Value} (h : w.ownsRow B e size v n xs) (hm : OwnV w b m D) (hg : w.grownBy w' (some b)) : w'.ownsRow B e size v n xs :=
  own_grown h hg (fun g hv e2 => by
    injection e2 with e2
    subst e2
    rcases h.2 with ⟨rfl, _⟩ | ⟨g', cap, cur, rfl, _, hh, _⟩
    · cases hv
    · injection hv with hv
      have hv : g' = g := hv
      subst hv
      obtain ⟨es, c, hc⟩ := own_block hm
      rw [hh] at hc
      cases hc)
def openR (y : WorldV) : Option (Nat → Option Part) → Int
  | none => 3
  | some G => if gensO y.gens G y.gens.length = true ∧ sameB (closeV (openV y G)) y = true then 0 else 3
theorem openE_form {y : WorldV} (h1 : kindsE y.kinds = 0) (h2 : ¬ (256 < y.gens.length ∨ y.gens.length < y.items.length)) : openE y = openR y (openGo y.kinds y.gens.length y.items (fun _ => none)) := by
  unfold openE
  rw [if_neg (by rw [h1]; simp), if_neg h2]
  cases openGo y.kinds y.gens.length y.items (fun _ => none) <;> rfl
theorem list19 {α : Type} {vs : List α} (h : vs.length = 19) : ∃ x0 x1 x2 x3 x4 x5 x6 x7 x8 x9 x10 x11 x12 x13 x14 x15 x16 x17 x18, vs = [x0, x1, x2, x3, x4, x5, x6, x7, x8, x9, x10, x11, x12, x13, x14, x15, x16, x17, x18] := by
  obtain ⟨x0, t0, rfl, h0⟩ := cons_of h
  obtain ⟨x1, t1, rfl, h1⟩ := cons_of h0
  obtain ⟨x2, t2, rfl, h2⟩ := cons_of h1
  obtain ⟨x3, t3, rfl, h3⟩ := cons_of h2
  obtain ⟨x4, t4, rfl, h4⟩ := cons_of h3
  obtain ⟨x5, t5, rfl, h5⟩ := cons_of h4
  obtain ⟨x6, t6, rfl, h6⟩ := cons_of h5
  obtain ⟨x7, t7, rfl, h7⟩ := cons_of h6
  obtain ⟨x8, t8, rfl, h8⟩ := cons_of h7
  obtain ⟨x9, t9, rfl, h9⟩ := cons_of h8
  obtain ⟨x10, t10, rfl, h10⟩ := cons_of h9
  obtain ⟨x11, t11, rfl, h11⟩ := cons_of h10
  obtain ⟨x12, t12, rfl, h12⟩ := cons_of h11
  obtain ⟨x13, t13, rfl, h13⟩ := cons_of h12
  obtain ⟨x14, t14, rfl, h14⟩ := cons_of h13
  obtain ⟨x15, t15, rfl, h15⟩ := cons_of h14
  obtain ⟨x16, t16, rfl, h16⟩ := cons_of h15
  obtain ⟨x17, t17, rfl, h17⟩ := cons_of h16
  obtain ⟨x18, t18, rfl, h18⟩ := cons_of h17
  exact ⟨x0, x1, x2, x3, x4, x5, x6, x7, x8, x9, x10, x11, x12, x13, x14, x15, x16, x17, x18, by rw [List.eq_nil_of_length_eq_zero h18]⟩
theorem list16 {α : Type} {vs : List α} (h : vs.length = 16) : ∃ x0 x1 x2 x3 x4 x5 x6 x7 x8 x9 x10 x11 x12 x13 x14 x15, vs = [x0, x1, x2, x3, x4, x5, x6, x7, x8, x9, x10, x11, x12, x13, x14, x15] := by
  obtain ⟨x0, t0, rfl, h0⟩ := cons_of h
  obtain ⟨x1, t1, rfl, h1⟩ := cons_of h0
  obtain ⟨x2, t2, rfl, h2⟩ := cons_of h1
  obtain ⟨x3, t3, rfl, h3⟩ := cons_of h2
  obtain ⟨x4, t4, rfl, h4⟩ := cons_of h3
  obtain ⟨x5, t5, rfl, h5⟩ := cons_of h4
  obtain ⟨x6, t6, rfl, h6⟩ := cons_of h5
  obtain ⟨x7, t7, rfl, h7⟩ := cons_of h6
  obtain ⟨x8, t8, rfl, h8⟩ := cons_of h7
  obtain ⟨x9, t9, rfl, h9⟩ := cons_of h8
  obtain ⟨x10, t10, rfl, h10⟩ := cons_of h9
  obtain ⟨x11, t11, rfl, h11⟩ := cons_of h10
  obtain ⟨x12, t12, rfl, h12⟩ := cons_of h11
  obtain ⟨x13, t13, rfl, h13⟩ := cons_of h12
  obtain ⟨x14, t14, rfl, h14⟩ := cons_of h13
  obtain ⟨x15, t15, rfl, h15⟩ := cons_of h14
  exact ⟨x0, x1, x2, x3, x4, x5, x6, x7, x8, x9, x10, x11, x12, x13, x14, x15, by rw [List.eq_nil_of_length_eq_zero h15]⟩
def F_opk (X BK nf cf : Nat) (af : Option Addr) (nmv : ByteArray) (V : Value) (y : KindV) (l : List KindV) (jq : Nat) (v : Value) (w : World) : Prop :=
  match jq with
  | 0 => v = .pointer (some ⟨X, 0, none⟩)
  | 1 => v = .pointer (some ⟨X, 0, none⟩)
  | 2 => v = .pointer (some ⟨X, 0, none⟩)
  | 3 => v = .pointer (some ⟨X, 0, none⟩)
  | 4 => v = V
  | 5 => v = .pointer (some ⟨BK, 0, none⟩)
  | 6 => v = .string nmv
  | 7 => v = .pointer (some ⟨BK, 1, none⟩)
  | 8 => v = .slice af nf cf
  | 9 => ∃ a c, v = .slice a nf c ∧ nf ≤ c ∧ c ≤ 9223372036854775807 ∧ Up BK (fun w => SlAt 3 FieldAt w a y.fields) w
  | 10 => ∃ a c, v = .agg #[.string nmv, .slice a nf c] ∧ nf ≤ c ∧ c ≤ 9223372036854775807 ∧ Up BK (fun w => SlAt 3 FieldAt w a y.fields) w
  | 11 => ∃ g a c, v = .slice (some ⟨g, 0, none⟩) 1 1 ∧ CellsAt w (some ⟨g, 0, none⟩) [.string nmv, .slice a nf c] ∧ BK ≤ g ∧ Up BK (fun w => EKind w [.string nmv, .slice a nf c] y) w
  | 12 => GrowL EKind (X + 1) 102 2 w v (l ++ [y])
  | 13 => v = .pointer (some ⟨X, 0, none⟩)
  | 14 => v = .pointer (some ⟨X, 0, none⟩)
  | _ => True
theorem F_opk_mono (X BK nf cf : Nat) (af : Option Addr) (nmv : ByteArray) (V : Value) (y : KindV) (l : List KindV) (hV : ∀ r, V.ownBlock = some r → r < BK) : FactsR (RG 12 V.ownBlock) (F_opk X BK nf cf af nmv V y l) := ⟨by
  intro i jq v w w' hij h hb
  unfold F_opk at h ⊢
  split at h
  all_goals first
    | exact h
    | (obtain ⟨a, c, e, h1, h2, h3⟩ := h; exact ⟨a, c, e, h1, h2, h3.grown hb.gb hV⟩)
    | (obtain ⟨g, a, c, e, h1, h2, h3⟩ := h; exact ⟨g, a, c, e, cells_gbo h1 hb.gb (fun e => by have := hV g e.symm; omega), h2, h3.grown hb.gb hV⟩)
    | exact GrowL.below h (hb.1 hij)
    | trivial⟩
def F_opta (X BX ng gc : Nat) (E kn : Int) (ga : Option Addr) (jq : Nat) (v : Value) (w : World) : Prop :=
  match jq with
  | 0 => v = .int .i64 E
  | 1 => v = .bool true
  | 2 => v = .bool true
  | 3 => v = undef
  | 4 => v = undef
  | 5 => v = undef
  | 6 => v = undef
  | 7 => v = .bool true
  | 8 => v = .bool true
  | 9 => v = undef
  | 10 => v = undef
  | 11 => v = undef
  | 12 => v = undef
  | 13 => v = undef
  | 14 => v = undef
  | 15 => v = undef
  | 16 => v = undef
  | 17 => v = undef
  | 18 => v = .bool true
  | _ => True
theorem F_opta_mono (X BX ng gc : Nat) (E kn : Int) (ga : Option Addr) : Facts (F_opta X BX ng gc  E kn  ga ) := ⟨by
  intro jq v w w' h hb
  unfold F_opta at h ⊢
  split at h
  all_goals first
    | exact h
    | trivial⟩
def F_optb (X BX ng gc : Nat) (kn : Int) (ga : Option Addr) (jq : Nat) (v : Value) (w : World) : Prop :=
  match jq with
  | 0 => v = .int .i64 0
  | 1 => v = .bool false
  | 2 => v = .bool false
  | 3 => v = .pointer (some ⟨BX, 0, none⟩)
  | 4 => v = .pointer (some ⟨BX, 0, none⟩)
  | 5 => v = .int .i64 kn
  | 6 => v = .bool true
  | 7 => v = .bool true
  | 8 => v = .bool true
  | 9 => v = undef
  | 10 => v = undef
  | 11 => v = undef
  | 12 => v = undef
  | 13 => v = undef
  | 14 => v = undef
  | 15 => v = undef
  | 16 => v = undef
  | 17 => v = undef
  | 18 => v = .bool true
  | _ => True
theorem F_optb_mono (X BX ng gc : Nat) (kn : Int) (ga : Option Addr) : Facts (F_optb X BX ng gc  kn  ga ) := ⟨by
  intro jq v w w' h hb
  unfold F_optb at h ⊢
  split at h
  all_goals first
    | exact h
    | trivial⟩
def F_optc (X BX ng gc : Nat) (kn : Int) (ga : Option Addr) (jq : Nat) (v : Value) (w : World) : Prop :=
  match jq with
  | 0 => v = .int .i64 0
  | 1 => v = .bool false
  | 2 => v = .bool false
  | 3 => v = .pointer (some ⟨BX, 0, none⟩)
  | 4 => v = .pointer (some ⟨BX, 0, none⟩)
  | 5 => v = .int .i64 kn
  | 6 => v = .bool false
  | 7 => v = .bool false
  | 8 => v = .bool false
  | 9 => v = .pointer (some ⟨BX, 0, none⟩)
  | 10 => v = .pointer (some ⟨BX, 0, none⟩)
  | 11 => v = .int .i64 kn
  | 12 => v = .pointer (some ⟨X, 0, none⟩)
  | 13 => v = .pointer (some ⟨X, 0, none⟩)
  | 14 => v = .pointer (some ⟨X, 1, none⟩)
  | 15 => v = .slice ga ng gc
  | 16 => v = .int .i64 (ng : Int)
  | 17 => v = .bool true
  | 18 => v = .bool true
  | _ => True
theorem F_optc_mono (X BX ng gc : Nat) (kn : Int) (ga : Option Addr) : Facts (F_optc X BX ng gc  kn  ga ) := ⟨by
  intro jq v w w' h hb
  unfold F_optc at h ⊢
  split at h
  all_goals first
    | exact h
    | trivial⟩
def F_optd (X BX ng gc q : Nat) (ga : Option Addr) (jq : Nat) (v : Value) (w : World) : Prop :=
  match jq with
  | 0 => v = .int .i64 0
  | 1 => v = .bool false
  | 2 => v = .bool false
  | 3 => v = .pointer (some ⟨BX, 0, none⟩)
  | 4 => v = .pointer (some ⟨BX, 0, none⟩)
  | 5 => v = .int .i64 (q : Int)
  | 6 => v = .bool false
  | 7 => v = .bool false
  | 8 => v = .bool false
  | 9 => v = .pointer (some ⟨BX, 0, none⟩)
  | 10 => v = .pointer (some ⟨BX, 0, none⟩)
  | 11 => v = .int .i64 (q : Int)
  | 12 => v = .pointer (some ⟨X, 0, none⟩)
  | 13 => v = .pointer (some ⟨X, 0, none⟩)
  | 14 => v = .pointer (some ⟨X, 1, none⟩)
  | 15 => v = .slice ga ng gc
  | 16 => v = .int .i64 (ng : Int)
  | 17 => v = .bool false
  | 18 => v = .bool false
  | _ => True
theorem F_optd_mono (X BX ng gc q : Nat) (ga : Option Addr) : Facts (F_optd X BX ng gc q  ga ) := ⟨by
  intro jq v w w' h hb
  unfold F_optd at h ⊢
  split at h
  all_goals first
    | exact h
    | trivial⟩
def F_opm (X BX b bm q : Nat) (jq : Nat) (v : Value) (w : World) : Prop :=
  match jq with
  | 0 => v = .pointer (some ⟨X, 0, none⟩)
  | 1 => v = .pointer (some ⟨X, 0, none⟩)
  | 2 => v = .pointer (some ⟨X, 2, none⟩)
  | 3 => v = .map (some b)
  | 4 => v = .pointer (some ⟨BX, 0, none⟩)
  | 5 => v = .pointer (some ⟨BX, 0, none⟩)
  | 6 => v = .int .i64 (q : Int)
  | 7 => v = .map (some bm)
  | _ => True
theorem F_opm_mono (X BX b bm q : Nat) : Facts (F_opm X BX b bm q ) := ⟨by
  intro jq v w w' h hb
  unfold F_opm at h ⊢
  split at h
  all_goals first
    | exact h
    | trivial⟩
theorem list5 {α : Type} {vs : List α} (h : vs.length = 5) : ∃ x0 x1 x2 x3 x4, vs = [x0, x1, x2, x3, x4] := by
  obtain ⟨x0, t0, rfl, h0⟩ := cons_of h
  obtain ⟨x1, t1, rfl, h1⟩ := cons_of h0
  obtain ⟨x2, t2, rfl, h2⟩ := cons_of h1
  obtain ⟨x3, t3, rfl, h3⟩ := cons_of h2
  obtain ⟨x4, t4, rfl, h4⟩ := cons_of h3
  exact ⟨x0, x1, x2, x3, x4, by rw [List.eq_nil_of_length_eq_zero h4]⟩
def F_ops (X WB nk ck ng cg ni ci : Nat) (ak ag ai : Option Addr) (CV : WorldV) (SB : Bool) (jq : Nat) (v : Value) (w : World) : Prop :=
  match jq with
  | 0 => v = .pointer (some ⟨X, 0, none⟩)
  | 1 => WorldIn w v CV
  | 2 => v = .agg #[.slice ak nk ck, .slice ag ng cg, .slice ai ni ci]
  | 3 => v = .bool SB
  | 4 => v = .bool (!SB)
  | _ => True
theorem F_ops_mono (X WB nk ck ng cg ni ci : Nat) (ak ag ai : Option Addr) (CV : WorldV) (SB : Bool) : Facts (F_ops X WB nk ck ng cg ni ci  ak ag ai  CV  SB ) := ⟨by
  intro jq v w w' h hb
  unfold F_ops at h ⊢
  split at h
  all_goals first
    | exact h
    | exact WorldIn.below h hb
    | trivial⟩

end Go.Proofs.Ytfckbkhnelgjbaa
end
/- world.Free. -/
section
namespace Go.Proofs.Ytfckbkhnelgjbaa
open Go.ChangeShapes Go.WideShapes Go.ChangeAt Go.RowKit Go.Nm Go.Mem
set_option linter.unusedVariables false
def usedI (l : List ItemV) (n : Nat) : Bool := l.any fun t => decide (t.n = (n : Int))
def freeP (y : WorldV) (i : Nat) : Bool := !usedI y.items i && decide (y.gens.getD i 0 < 1073741824)
def freeN (y : WorldV) : Nat := firstP (freeP y) y.gens.length
def freeOk (y : WorldV) : Bool := decide (freeN y < y.gens.length) || decide (y.gens.length < 256)
theorem usedI_snoc (l : List ItemV) (t : ItemV) (n : Nat) : usedI (l ++ [t]) n = (usedI l n || decide (t.n = (n : Int))) := by
  unfold usedI
  rw [List.any_append]
  simp
def F_free (WB ng cg : Nat) (ag : Option Addr) (BB : Bool) (jq : Nat) (v : Value) (w : World) : Prop :=
  match jq with
  | 0 => v = .pointer (some ⟨WB, 1, none⟩)
  | 1 => v = .slice ag ng cg
  | 2 => v = .int .i64 (ng : Int)
  | 3 => v = .pointer (some ⟨WB, 1, none⟩)
  | 4 => v = .slice ag ng cg
  | 5 => v = .int .i64 (ng : Int)
  | 6 => v = .bool BB
  | 7 => v = .int .i64 (ng : Int)
  | 8 => v = .bool BB
  | _ => True
theorem F_free_mono (WB ng cg : Nat) (ag : Option Addr) (BB : Bool) : Facts (F_free WB ng cg  ag  BB ) := ⟨by
  intro jq v w w' h hb
  unfold F_free at h ⊢
  split at h
  all_goals first
    | exact h
    | trivial⟩

set_option maxHeartbeats 4000000 in
set_option maxRecDepth 20000 in
theorem world_Free (y : WorldV) (v : Value) (W : World) (hv : WorldIn W v y) (hsm : SmallW y) :
    Calls Try.prog 81 #[v] W fun e w' => e = .returned (.tuple #[.int .i64 (freeN y), .bool (freeOk y)]) ∧ Below W.heap.size W w' := by
  obtain ⟨ak, ck, ag, cg, ai, ci, rfl, hzk, hzg, hzi, hk1, hk2⟩ := hv
  obtain ⟨s1, s2, s3, s4⟩ := hsm
  obtain ⟨nk, hnk⟩ : ∃ nk, nk = y.kinds.length := ⟨_, rfl⟩
  obtain ⟨ng, hng⟩ : ∃ ng, ng = y.gens.length := ⟨_, rfl⟩
  obtain ⟨ni, hni⟩ : ∃ ni, ni = y.items.length := ⟨_, rfl⟩
  rw [← hng] at s2
  rw [← hni] at s3
  rw [← hnk, ← hng, ← hni]
  obtain ⟨FN, hFN⟩ : ∃ FN, FN = freeN y := ⟨_, rfl⟩
  obtain ⟨FO, hFO⟩ : ∃ FO, FO = freeOk y := ⟨_, rfl⟩
  rw [← hFN, ← hFO]
  have ffo : FO = (decide (FN < ng) || decide (ng < 256)) := by rw [hFO, hFN, hng]; rfl
  have ffn : FN = firstP (freeP y) ng := by rw [hFN, hng]; rfl
  have HFO := Lib.hid ffo
  have HFN := Lib.hid ffn
  have hbA := (Below.refl W.heap.size W).alloc (Nat.le_refl _) (.cells #[.slice ak nk ck, .slice ag ng cg, .slice ai ni ci] 37 (0, 0))
  have hbx := heap_alloc_new W (.cells #[.slice ak nk ck, .slice ag ng cg, .slice ai ni ci] 37 (0, 0))
  have HBA := Lib.hid hbA
  have HBX := Lib.hid hbx
  have NG := Lib.hid hng
  have NI := Lib.hid hni
  have HZG := Lib.hid hzg
  have HZI := Lib.hid hzi
  clear hFN hFO ffo ffn hbA hbx hnk hng hni hzk hzg hzi hk1 hk2 s1 s4
  go_enter Try.func81, Try.ntmps81
  have e1 := cell_of_row _ _ 1 _ _ _ HBX.out
  have e2 := cell_of_row _ _ 2 _ _ _ HBX.out
  obtain ⟨w0, hw0⟩ : ∃ w0, w0 = W.alloc (.cells #[.slice ak nk ck, .slice ag ng cg, .slice ai ni ci] 37 (0, 0)) := ⟨_, rfl⟩
  go_wp2_with (at_make; refine wpList_make_bools rfl _ _ 173 rfl Try.underlying173 (by kernel_rfl) _ _ _ _ ng rfl rfl rfl rfl (by omega) (by unfold maxLen; omega) ?_; intro w1 hrow hb1 hsz1; have e2 : w1.cell? ⟨W.heap.size, 2, none⟩ = some (.slice ai ni ci) := (by rw [cell_of_row _ _ 2 _ _ _ (heap_below HBX.out hb1)]; rfl); have HROW := Lib.hid hrow; have HB1 := Lib.hid hb1; have HSZ := Lib.hid hsz1; clear hrow hb1 hsz1)
  obtain ⟨U, hU⟩ : ∃ U, U = (W.alloc (.cells #[.slice ak nk ck, .slice ag ng cg, .slice ai ni ci] 37 (0, 0))).heap.size := ⟨_, rfl⟩
  have hWU : W.heap.size < U := by rw [hU, World.size_alloc]; omega
  have HRW := HROW.out
  have HRB := Lib.hid (heap_below HBX.out HB1.out)
  have HBW := Lib.hid (bt HBA.out HB1.out)
  rw [World.size_alloc] at hU
  rw [World.size_alloc, ← hU] at HRW
  rw [← hU]
  have HROWU := Lib.hid HRW
  clear HRW HROW HB1 HSZ hU e1 e2 HBX HBA hw0 w0
  go_loopg [16, 6] ni (fun gk v16 _ wx => ∃ i : Nat, i ≤ ni ∧ gk = ni - i ∧ v16 = .int .i64 i ∧ BoolRow wx U ng (usedI (y.items.take i)) ∧ w1.grownBy wx (some U))
  case atStart => exact ⟨0, Nat.zero_le _, rfl, rfl, HROWU.out.congr (fun j _ => rfl), World.grownBy.refl _ _⟩
  case round =>
    obtain ⟨i, i1, i2, rfl, hrow, hg⟩ := hrel
    have I2 := Lib.hid i2
    have HROW := Lib.hid hrow
    have HG := Lib.hid hg
    have HBR := Lib.hid (HBW.out.grown hg HBW.out.size (fun r h => by injection h with h; omega))
    have HRBR := Lib.hid ((hg.block _ (lt_of_heap HRB.out) (fun e => by injection e with e; omega)).trans HRB.out)
    clear i2 hrow hg
    by_cases hi : i < ni
    · obtain ⟨x, rfl, _, _⟩ := HZI.out (by rw [← NI.out]; omega)
      obtain ⟨xb, xo, rfl, av, cv, hcl, _⟩ := item_cells (HZI.out.below ItemAt.abides HBR.out) i (by rw [← NI.out]; exact hi)
      obtain ⟨it, hitd⟩ : ∃ it, it = y.items[i]'(by rw [← NI.out]; exact hi) := ⟨_, rfl⟩
      have htk : y.items.take (i + 1) = y.items.take i ++ [it] := by rw [hitd, List.take_add_one, List.getElem?_eq_getElem (by rw [← NI.out]; exact hi)]; rfl
      rw [← hitd] at hcl
      obtain ⟨nv, hnv⟩ : ∃ nv, nv = it.comps.length := ⟨_, rfl⟩
      obtain ⟨kn, hkn⟩ : ∃ kn, kn = it.n := ⟨_, rfl⟩
      obtain ⟨kg, hkg⟩ : ∃ kg, kg = it.gen := ⟨_, rfl⟩
      rw [← hkn, ← hkg, ← hnv] at hcl
      have e0 := hcl.at 0 (by simp)
      have e1 := hcl.at 1 (by simp)
      have e2 := hcl.at 2 (by simp)
      simp only [List.getElem_cons_zero, List.getElem_cons_succ, Nat.add_zero] at e0 e1 e2
      have hro := new_row wr #[.int .i64 kn, .int .i64 kg, .slice av nv cv] 72
      have q0 := hro.at 0 (by simp)
      simp only [List.getElem_cons_zero, Nat.zero_add] at q0
      have hbA : Below wr.heap.size wr (wr.alloc (.cells #[.int .i64 kn, .int .i64 kg, .slice av nv cv] 72 (0, 0))) := (Below.refl _ _).alloc (Nat.le_refl _) _
      have HGA := Lib.hid ((HG.out).trans (below_gn hbA (some U)))
      have HRA := Lib.hid (HROW.out.below hbA)
      have HTK := Lib.hid htk
      have HKN := Lib.hid hkn
      clear hcl hro hbA hitd htk hkg hnv hkn
      by_cases hA : kn < 0
      · have HNX := Lib.hid (show ∀ j, j < ng → usedI (y.items.take (i + 1)) j = usedI (y.items.take i) j from fun j _ => by rw [HTK.out, usedI_snoc, ← HKN.out, decide_eq_false (by omega), Bool.or_false])
        go_wp2
        go_roundg (ni - (i + 1))
        case measure => rw [I2.out]; omega
        case rel => exact ⟨i + 1, hi, rfl, by go_num, HRA.out.congr HNX.out, HGA.out⟩
      · by_cases hB : kn < ng
        · obtain ⟨q, rfl⟩ : ∃ q : Nat, kn = (q : Int) := ⟨kn.toNat, by omega⟩
          have hq : q < ng := by omega
          have c0 := HRA.out.cell q hq
          have f0 := HRA.out.free q
          have HNX := Lib.hid (show ∀ j, j < ng → usedI (y.items.take (i + 1)) j = if j = q then true else usedI (y.items.take i) j from fun j _ => by
            rw [HTK.out, usedI_snoc, ← HKN.out]
            by_cases e : j = q
            · subst e; rw [if_pos rfl, decide_eq_true rfl, Bool.or_true]
            · rw [if_neg e, decide_eq_false (by omega), Bool.or_false])
          have HRN := Lib.hid (HRA.out.set q hq true HNX.out)
          have HGN := Lib.hid (HGA.out.trans (gb_set (World.grownBy.refl _ _) q (.bool true)))
          go_wp2
          go_roundg (ni - (i + 1))
          case measure => rw [I2.out]; omega
          case rel => exact ⟨i + 1, hi, rfl, by go_num, HRN.out, HGN.out⟩
        · have HNX := Lib.hid (show ∀ j, j < ng → usedI (y.items.take (i + 1)) j = usedI (y.items.take i) j from fun j hj => by rw [HTK.out, usedI_snoc, ← HKN.out, decide_eq_false (by omega), Bool.or_false])
          go_wp2
          go_roundg (ni - (i + 1))
          case measure => rw [I2.out]; omega
          case rel => exact ⟨i + 1, hi, rfl, by go_num, HRA.out.congr HNX.out, HGA.out⟩
    · obtain rfl : ni = i := by omega
      have HRF := Lib.hid (show BoolRow wr U ng (usedI y.items) by have h := HROW.out; rw [List.take_of_length_le (by rw [← NI.out]; exact Nat.le_refl _)] at h; exact h)
      have e1 := cell_of_row _ _ 1 _ _ _ HRBR.out
      obtain ⟨W2, hW2⟩ : ∃ W2, W2 = wr := ⟨_, rfl⟩
      subst hW2
      clear HROW I2
      go_wp2_with fail
      go_loopg [41, 7, 8] ng (fun gk v41 _ _ wx => ∃ i : Nat, i ≤ ng ∧ gk = ng - i ∧ v41 = .int .i64 i ∧ (∀ j, j < i → freeP y j = false) ∧ wx = W2)
      case atStart => exact ⟨0, Nat.zero_le _, rfl, rfl, fun j h => absurd h (by omega), rfl⟩
      case round =>
        obtain ⟨i, i1, i2, rfl, hat, rfl⟩ := hrel
        have I2 := Lib.hid i2
        have HAT := Lib.hid hat
        clear i2 hat
        by_cases hi : i < ng
        · obtain ⟨x, rfl, _, _⟩ := HZG.out (by rw [← NG.out]; omega)
          obtain ⟨xb, xo, rfl, hgc⟩ := ints_cell (HZG.out.below HBR.out) i (by rw [← NG.out]; exact hi)
          rw [Nat.mul_one] at hgc
          obtain ⟨g, hgv⟩ : ∃ g, g = y.gens.getD i 0 := ⟨_, rfl⟩
          rw [← hgv] at hgc
          have c0 := HRF.out.cell i hi
          obtain ⟨UB, hUB⟩ : ∃ b, b = usedI y.items i := ⟨_, rfl⟩
          rw [← hUB] at c0
          have HP := Lib.hid (show freeP y i = (!UB && decide (g < 1073741824)) by unfold freeP; rw [hUB, hgv])
          have HNX := Lib.hid (fun (h : freeP y i = false) => show ∀ j, j < i + 1 → freeP y j = false from fun j hj => by
            by_cases e : j < i
            · exact HAT.out j e
            · obtain rfl : j = i := by omega
              exact h)
          clear hgv hUB
          cases UB with
          | true =>
            have HN2 := Lib.hid (HNX.out (by rw [HP.out]; rfl))
            go_wp2
            go_roundg (ng - (i + 1))
            case measure => rw [I2.out]; omega
            case rel => exact ⟨i + 1, hi, rfl, by go_num, HN2.out, rfl⟩
          | false =>
            by_cases hlt : g < 1073741824
            · have HR1 := Lib.hid (show FN = i by rw [HFN.out]; exact firstP_at HAT.out (by rw [HP.out, decide_eq_true hlt]; rfl) hi)
              have HR2 := Lib.hid (show FO = true by rw [HFO.out, HR1.out, decide_eq_true hi, Bool.true_or])
              go_wp2
              go_ret2
              exact ⟨by rw [HR1.out, HR2.out]; rfl, HBR.out⟩
            · have HN2 := Lib.hid (HNX.out (by rw [HP.out, decide_eq_false hlt]; rfl))
              go_wp2
              go_roundg (ng - (i + 1))
              case measure => rw [I2.out]; omega
              case rel => exact ⟨i + 1, hi, rfl, by go_num, HN2.out, rfl⟩
        · obtain rfl : ng = i := by omega
          have HR1 := Lib.hid (show FN = ng by rw [HFN.out]; exact firstP_none HAT.out)
          obtain ⟨BB, hBB⟩ : ∃ b, b = decide ((ng : Int) < 256) := ⟨_, rfl⟩
          have HBB := Lib.hid hBB.symm
          have HR2 := Lib.hid (show FO = BB by
            rw [HFO.out, HR1.out, decide_eq_false (Nat.lt_irrefl _), Bool.false_or, hBB]
            by_cases h : ng < 256
            · rw [decide_eq_true h, decide_eq_true (by omega)]
            · rw [decide_eq_false h, decide_eq_false (by omega)])
          have E1 := Lib.hid e1
          clear hBB e1
          go_wp2_with fail
          refine wp_region_facts_t rfl 9 (by kernel_rfl) (F_free W.heap.size ng cg ag BB) (F_free_mono W.heap.size ng cg ag BB) ?_ ?_
          · refine ⟨?_, ?_, ?_, ?_, ?_, ?_, ?_, ?_, ?_, trivial⟩
            · intro vs w' F hb hd hF hl hT
              have e := (hF 1).trans (look_out _ 1 _ _ (by kernel_rfl))
              exact one_field _ _ _ rfl rfl _ _ e (1) (fun w => by kernel_rfl) ⟨_, rfl, Below.refl _ _, rfl⟩
            · intro vs w' F hb hd hF hl hT
              have e := ((hF 57).trans (look_at _ 57 0 _ _ (by kernel_rfl) (by kernel_rfl) hl)).trans (dep_of (Fact := F_free W.heap.size ng cg ag BB) hd 0 (by kernel_rfl))
              exact one_load _ _ rfl rfl _ _ e (cell_abides E1.out hb) (by kernel_rfl) ⟨_, rfl, Below.refl _ _, rfl⟩
            · intro vs w' F hb hd hF hl hT
              have e := ((hF 58).trans (look_at _ 58 1 _ _ (by kernel_rfl) (by kernel_rfl) hl)).trans (dep_of (Fact := F_free W.heap.size ng cg ag BB) hd 1 (by kernel_rfl))
              exact rg_len _ 34 3 rfl rfl Try.underlying34 ag (ng) (cg) e ⟨_, rfl, Below.refl _ _, rfl⟩
            · intro vs w' F hb hd hF hl hT
              have e := (hF 1).trans (look_out _ 1 _ _ (by kernel_rfl))
              exact one_field _ _ _ rfl rfl _ _ e (1) (fun w => by kernel_rfl) ⟨_, rfl, Below.refl _ _, rfl⟩
            · intro vs w' F hb hd hF hl hT
              have e := ((hF 60).trans (look_at _ 60 3 _ _ (by kernel_rfl) (by kernel_rfl) hl)).trans (dep_of (Fact := F_free W.heap.size ng cg ag BB) hd 3 (by kernel_rfl))
              exact one_load _ _ rfl rfl _ _ e (cell_abides E1.out hb) (by kernel_rfl) ⟨_, rfl, Below.refl _ _, rfl⟩
            · intro vs w' F hb hd hF hl hT
              have e := ((hF 61).trans (look_at _ 61 4 _ _ (by kernel_rfl) (by kernel_rfl) hl)).trans (dep_of (Fact := F_free W.heap.size ng cg ag BB) hd 4 (by kernel_rfl))
              exact rg_len _ 34 3 rfl rfl Try.underlying34 ag (ng) (cg) e ⟨_, rfl, Below.refl _ _, rfl⟩
            · intro vs w' F hb hd hF hl hT
              have e1 := ((hF 62).trans (look_at _ 62 5 _ _ (by kernel_rfl) (by kernel_rfl) hl)).trans (dep_of (Fact := F_free W.heap.size ng cg ag BB) hd 5 (by kernel_rfl))
              exact rg_lss _ _ _ _ rfl rfl .i64 ((ng : Int)) (256) BB e1 rfl (HBB.out) ⟨_, rfl, Below.refl _ _, rfl⟩
            · intro vs w' F hb hd hF hl hT
              have e := ((hF 59).trans (look_at _ 59 2 _ _ (by kernel_rfl) (by kernel_rfl) hl)).trans (dep_of (Fact := F_free W.heap.size ng cg ag BB) hd 2 (by kernel_rfl))
              exact one_move _ rfl (by first | exact Or.inl rfl | exact Or.inr rfl) ⟨_, rfl, Below.refl _ _, e⟩
            · intro vs w' F hb hd hF hl hT
              have e := ((hF 63).trans (look_at _ 63 6 _ _ (by kernel_rfl) (by kernel_rfl) hl)).trans (dep_of (Fact := F_free W.heap.size ng cg ag BB) hd 6 (by kernel_rfl))
              exact one_move _ rfl (by first | exact Or.inl rfl | exact Or.inr rfl) ⟨_, rfl, Below.refl _ _, e⟩
          · intro vs8 W8 hl hb hI
            have i7 : vs8.getD 7 undef = .int .i64 (ng : Int) := hI 7 (by omega)
            have i8 : vs8.getD 8 undef = .bool BB := hI 8 (by omega)
            obtain ⟨x0, x1, x2, x3, x4, x5, x6, x7, x8, hvs⟩ := list9 hl
            subst hvs
            replace i7 : x7 = .int .i64 (ng : Int) := i7
            replace i8 : x8 = .bool BB := i8
            subst i7 i8
            have HBE := Lib.hid (bt HBR.out hb)
            clear hI hl hb
            simp only [fillAll, Act.put, List.setIfInBounds_toArray, List.set_cons_succ, List.set_cons_zero]
            show wpList _ _ _ [] _ _
            go_wp2
            go_ret2
            exact ⟨by rw [HR1.out, HR2.out]; rfl, HBE.out⟩
end Go.Proofs.Ytfckbkhnelgjbaa
end
