/- Lemmas for the law WorldSpawns: OpenS, WOpen. No conditions. -/
import Derived.Test.YtfckbkhnelgjbaaGreatDoorM20
import Derived.Test.YtfckbkhnelgjbaaGreatDoorM10
import Derived.Test.YtfckbkhnelgjbaaGreatDoorM16
import Derived.Test.YtfckbkhnelgjbaaGreatDoorM18
/- What is opened is small. -/
section
namespace Go.Proofs.YtfckbkhnelgjbaaGreatDoor
open Go.ChangeShapes Go.WideShapes Go.ChangeAt Go.RowKit Go.Nm Go.Mem Go.Maps
set_option linter.unusedVariables false
def SmallP (B : Nat) (F : Part) : Prop := ∀ k L, F k = some L → L.length ≤ B
theorem SmallP.upd {B : Nat} {F : Part} (h : SmallP B F) (k : Nat) {L : List Int} (hL : L.length ≤ B) : SmallP B (updF F k L) := fun i M hM => by
  by_cases e : i = k
  · subst e
    rw [updF_same] at hM
    injection hM with hM
    rw [← hM]; exact hL
  · rw [updF_other _ _ e] at hM
    exact h i M hM
theorem fitL_le (l : List FieldV) (vals : List Int) : (fitL l vals).length ≤ vals.length := by
  unfold fitL
  rw [List.length_zipWith]
  omega
theorem fitGo_small (ks : List KindV) (B : Nat) : ∀ (l : List CompV) (M : Part), (∀ c ∈ l, c.vals.length ≤ B) → SmallP B M → SmallP B (fitGo ks l M).2
  | [], M, _, h => h
  | c :: r, M, hl, h => by
    unfold fitGo
    split
    · exact h
    · split
      · exact h
      · split
        · exact h
        · exact fitGo_small ks B r _ (fun d hd => hl d (List.mem_cons_of_mem _ hd)) (h.upd _ (Nat.le_trans (fitL_le _ _) (hl c List.mem_cons_self)))
def SmallG (B : Nat) (G : Nat → Option Part) : Prop := ∀ i F, G i = some F → SmallP B F
theorem openGo_small (ks : List KindV) (ng B : Nat) : ∀ (l : List ItemV) (G G' : Nat → Option Part), (∀ y ∈ l, ∀ c ∈ y.comps, c.vals.length ≤ B) → SmallG B G → openGo ks ng l G = some G' → SmallG B G'
  | [], G, G', _, h, e => by
    injection e with e
    rw [← e]; exact h
  | y :: r, G, G', hl, h, e => by
    unfold openGo at e
    split at e
    · cases e
    · refine openGo_small ks ng B r _ G' (fun z hz => hl z (List.mem_cons_of_mem _ hz)) (fun i F hF => ?_) e
      by_cases ei : i = y.n.toNat
      · subst ei
        rw [updF_same] at hF
        injection hF with hF
        rw [← hF]
        exact fitGo_small ks B _ _ (hl y List.mem_cons_self) (fun k L h => by cases h)
      · rw [updF_other _ _ ei] at hF
        exact h i F hF
theorem close_small {f : FlatV} (hk : f.kinds.length ≤ 1048576) (hg : f.gens.length ≤ 1048576) (hG : SmallG 1048576 f.parts) : SmallW (closeV f) := by
  refine ⟨hk, hg, Nat.le_trans (closeTo_len f _) hg, fun x hx => ?_⟩
  have hx' : x ∈ closeTo f f.gens.length := hx
  rw [closeTo_listK, mem_listK] at hx'
  obtain ⟨i, _, F, hF, rfl⟩ := hx'
  refine ⟨Nat.le_trans (listedTo_len F 16) (by omega), fun c hc => ?_⟩
  have hc' : c ∈ listed F := hc
  rw [listed_listK, mem_listK] at hc'
  obtain ⟨k, _, L, hL, rfl⟩ := hc'
  exact hG i F hF k L hL
end Go.Proofs.YtfckbkhnelgjbaaGreatDoor
end
/- The reference's Open. -/
section
namespace Go.Proofs.YtfckbkhnelgjbaaGreatDoor
open Go.ChangeShapes Go.WideShapes Go.ChangeAt Go.RowKit Go.Nm Go.Mem Go.Maps
set_option linter.unusedVariables false
/-- a Flat of the call's own -/
def FlatOwn (w : World) (base p : Nat) (f : FlatV) : Prop := ∃ ak ck vg b n, w.heap[p]? = some (.cells #[.slice ak f.kinds.length ck, vg, .map (some b)] 96 (0, 0)) ∧ SlAt 2 KindAt w ak f.kinds ∧ w.ownsRow base 3 1 vg f.gens.length (vints .i64 f.gens) ∧ MapO w b b n f.parts ∧ base ≤ p ∧ base ≤ b ∧ n ≤ 1048576 ∧ (∀ g, vg.ownBlock = some g → g < b ∧ NoStr w g) ∧ f.kinds.length ≤ ck ∧ ck ≤ 9223372036854775807
theorem FlatOwn.flat {w : World} {base p : Nat} {f : FlatV} (h : FlatOwn w base p f) : FlatAt w p f := by
  obtain ⟨ak, ck, vg, b, n, h1, h2, h3, h4, h5, h6, h9, h10, h7, h8⟩ := h
  obtain ⟨ag, cg, rfl⟩ := own_slice h3
  exact ⟨ak, ck, ag, cg, b, b, n, h1, h2, IntsAt.of_own h3 rfl, h4, h7, h8⟩
theorem FlatOwn.below {w w' : World} {base p : Nat} {f : FlatV} (h : FlatOwn w base p f) (hb : Below w.heap.size w w') : FlatOwn w' base p f := by
  obtain ⟨ak, ck, vg, b, n, h1, h2, h3, h4, h5, h6, h7, h8, h9⟩ := h
  exact ⟨ak, ck, vg, b, n, heap_below h1 hb, h2.below KindAt.abides hb, own_below h3 hb, h4.below hb, h5, h6, h7, fun g hg => ⟨(h8 g hg).1, (h8 g hg).2.below (own_lt h3 g hg).2 hb⟩, h9⟩
theorem FlatAt.below2 {w w' : World} {p : Nat} {f : FlatV} (h : FlatAt w p f) (hb : Below w.heap.size w w') : FlatAt w' p f := by
  obtain ⟨ak, ck, ag, cg, base, b, n, h1, h2, h3, h4, h5⟩ := h
  exact ⟨ak, ck, ag, cg, base, b, n, heap_below h1 hb, h2.below KindAt.abides hb, h3.below hb, h4.below hb, h5⟩
theorem nostr_map {w : World} {b n : Nat} {D : DataW Value} (h : OwnV w b n D) : NoStr w b := fun i s => by rw [own_nocell h]; simp
theorem own_map {w w' : World} {B e size n b m : Nat} {v : Value} {xs : List Value} {D : DataW Value} (h : w.ownsRow B e size v n xs) (hm : OwnV w b m D) (hg : w.grownBy w' (some b)) : w'.ownsRow B e size v n xs :=
  own_grown h hg (fun g hv e2 => by
    injection e2 with e2
    subst e2
    rcases h.2 with ⟨rfl, _⟩ | ⟨g', cap, cur, rfl, _, hh, _⟩
    · cases hv
    · injection hv with hv
      have hv : g' = g := hv
      subst hv
      obtain ⟨es, c, hc⟩ := own_block hm
      rw [hh] at hc
      cases hc)
def openR (y : WorldV) : Option (Nat → Option Part) → Int
  | none => 3
  | some G => if gensO y.gens G y.gens.length = true ∧ sameB (closeV (openV y G)) y = true then 0 else 3
theorem openE_form {y : WorldV} (h1 : kindsE y.kinds = 0) (h2 : ¬ (256 < y.gens.length ∨ y.gens.length < y.items.length)) : openE y = openR y (openGo y.kinds y.gens.length y.items (fun _ => none)) := by
  unfold openE
  rw [if_neg (by rw [h1]; simp), if_neg h2]
  cases openGo y.kinds y.gens.length y.items (fun _ => none) <;> rfl
def OpenPost (y : WorldV) (W : World) (e : Ending) (w' : World) : Prop :=
  ((openE y ≠ 0 ∧ e = .returned (.tuple #[.pointer none, .int .i64 (openE y)])) ∨
   (openE y = 0 ∧ ∃ p G, openGo y.kinds y.gens.length y.items (fun _ => none) = some G ∧ e = .returned (.tuple #[.pointer (some ⟨p, 0, none⟩), .int .i64 0]) ∧ FlatOwn w' W.heap.size p (openV y G))) ∧ Below W.heap.size W w'
theorem list19 {α : Type} {vs : List α} (h : vs.length = 19) : ∃ x0 x1 x2 x3 x4 x5 x6 x7 x8 x9 x10 x11 x12 x13 x14 x15 x16 x17 x18, vs = [x0, x1, x2, x3, x4, x5, x6, x7, x8, x9, x10, x11, x12, x13, x14, x15, x16, x17, x18] := by
  obtain ⟨x0, t0, rfl, h0⟩ := cons_of h
  obtain ⟨x1, t1, rfl, h1⟩ := cons_of h0
  obtain ⟨x2, t2, rfl, h2⟩ := cons_of h1
  obtain ⟨x3, t3, rfl, h3⟩ := cons_of h2
  obtain ⟨x4, t4, rfl, h4⟩ := cons_of h3
  obtain ⟨x5, t5, rfl, h5⟩ := cons_of h4
  obtain ⟨x6, t6, rfl, h6⟩ := cons_of h5
  obtain ⟨x7, t7, rfl, h7⟩ := cons_of h6
  obtain ⟨x8, t8, rfl, h8⟩ := cons_of h7
  obtain ⟨x9, t9, rfl, h9⟩ := cons_of h8
  obtain ⟨x10, t10, rfl, h10⟩ := cons_of h9
  obtain ⟨x11, t11, rfl, h11⟩ := cons_of h10
  obtain ⟨x12, t12, rfl, h12⟩ := cons_of h11
  obtain ⟨x13, t13, rfl, h13⟩ := cons_of h12
  obtain ⟨x14, t14, rfl, h14⟩ := cons_of h13
  obtain ⟨x15, t15, rfl, h15⟩ := cons_of h14
  obtain ⟨x16, t16, rfl, h16⟩ := cons_of h15
  obtain ⟨x17, t17, rfl, h17⟩ := cons_of h16
  obtain ⟨x18, t18, rfl, h18⟩ := cons_of h17
  exact ⟨x0, x1, x2, x3, x4, x5, x6, x7, x8, x9, x10, x11, x12, x13, x14, x15, x16, x17, x18, by rw [List.eq_nil_of_length_eq_zero h18]⟩
theorem list16 {α : Type} {vs : List α} (h : vs.length = 16) : ∃ x0 x1 x2 x3 x4 x5 x6 x7 x8 x9 x10 x11 x12 x13 x14 x15, vs = [x0, x1, x2, x3, x4, x5, x6, x7, x8, x9, x10, x11, x12, x13, x14, x15] := by
  obtain ⟨x0, t0, rfl, h0⟩ := cons_of h
  obtain ⟨x1, t1, rfl, h1⟩ := cons_of h0
  obtain ⟨x2, t2, rfl, h2⟩ := cons_of h1
  obtain ⟨x3, t3, rfl, h3⟩ := cons_of h2
  obtain ⟨x4, t4, rfl, h4⟩ := cons_of h3
  obtain ⟨x5, t5, rfl, h5⟩ := cons_of h4
  obtain ⟨x6, t6, rfl, h6⟩ := cons_of h5
  obtain ⟨x7, t7, rfl, h7⟩ := cons_of h6
  obtain ⟨x8, t8, rfl, h8⟩ := cons_of h7
  obtain ⟨x9, t9, rfl, h9⟩ := cons_of h8
  obtain ⟨x10, t10, rfl, h10⟩ := cons_of h9
  obtain ⟨x11, t11, rfl, h11⟩ := cons_of h10
  obtain ⟨x12, t12, rfl, h12⟩ := cons_of h11
  obtain ⟨x13, t13, rfl, h13⟩ := cons_of h12
  obtain ⟨x14, t14, rfl, h14⟩ := cons_of h13
  obtain ⟨x15, t15, rfl, h15⟩ := cons_of h14
  exact ⟨x0, x1, x2, x3, x4, x5, x6, x7, x8, x9, x10, x11, x12, x13, x14, x15, by rw [List.eq_nil_of_length_eq_zero h15]⟩
def F_opk (X BK nf cf : Nat) (af : Option Addr) (nmv : ByteArray) (V : Value) (y : KindV) (l : List KindV) (jq : Nat) (v : Value) (w : World) : Prop :=
  match jq with
  | 0 => v = .pointer (some ⟨X, 0, none⟩)
  | 1 => v = .pointer (some ⟨X, 0, none⟩)
  | 2 => v = .pointer (some ⟨X, 0, none⟩)
  | 3 => v = .pointer (some ⟨X, 0, none⟩)
  | 4 => v = V
  | 5 => v = .pointer (some ⟨BK, 0, none⟩)
  | 6 => v = .string nmv
  | 7 => v = .pointer (some ⟨BK, 1, none⟩)
  | 8 => v = .slice af nf cf
  | 9 => ∃ a c, v = .slice a nf c ∧ nf ≤ c ∧ c ≤ 9223372036854775807 ∧ Up BK (fun w => SlAt 3 FieldAt w a y.fields) w
  | 10 => ∃ a c, v = .agg #[.string nmv, .slice a nf c] ∧ nf ≤ c ∧ c ≤ 9223372036854775807 ∧ Up BK (fun w => SlAt 3 FieldAt w a y.fields) w
  | 11 => ∃ g a c, v = .slice (some ⟨g, 0, none⟩) 1 1 ∧ CellsAt w (some ⟨g, 0, none⟩) [.string nmv, .slice a nf c] ∧ BK ≤ g ∧ Up BK (fun w => EKind w [.string nmv, .slice a nf c] y) w
  | 12 => GrowL EKind (X + 1) 86 2 w v (l ++ [y])
  | 13 => v = .pointer (some ⟨X, 0, none⟩)
  | 14 => v = .pointer (some ⟨X, 0, none⟩)
  | _ => True
theorem F_opk_mono (X BK nf cf : Nat) (af : Option Addr) (nmv : ByteArray) (V : Value) (y : KindV) (l : List KindV) (hV : ∀ r, V.ownBlock = some r → r < BK) : FactsR (RG 12 V.ownBlock) (F_opk X BK nf cf af nmv V y l) := ⟨by
  intro i jq v w w' hij h hb
  unfold F_opk at h ⊢
  split at h
  all_goals first
    | exact h
    | (obtain ⟨a, c, e, h1, h2, h3⟩ := h; exact ⟨a, c, e, h1, h2, h3.grown hb.gb hV⟩)
    | (obtain ⟨g, a, c, e, h1, h2, h3⟩ := h; exact ⟨g, a, c, e, cells_gbo h1 hb.gb (fun e => by have := hV g e.symm; omega), h2, h3.grown hb.gb hV⟩)
    | exact GrowL.below h (hb.1 hij)
    | trivial⟩
def F_opta (X BX ng gc : Nat) (E kn : Int) (ga : Option Addr) (jq : Nat) (v : Value) (w : World) : Prop :=
  match jq with
  | 0 => v = .int .i64 E
  | 1 => v = .bool true
  | 2 => v = .bool true
  | 3 => v = undef
  | 4 => v = undef
  | 5 => v = undef
  | 6 => v = undef
  | 7 => v = .bool true
  | 8 => v = .bool true
  | 9 => v = undef
  | 10 => v = undef
  | 11 => v = undef
  | 12 => v = undef
  | 13 => v = undef
  | 14 => v = undef
  | 15 => v = undef
  | 16 => v = undef
  | 17 => v = undef
  | 18 => v = .bool true
  | _ => True
theorem F_opta_mono (X BX ng gc : Nat) (E kn : Int) (ga : Option Addr) : Facts (F_opta X BX ng gc  E kn  ga ) := ⟨by
  intro jq v w w' h hb
  unfold F_opta at h ⊢
  split at h
  all_goals first
    | exact h
    | trivial⟩
def F_optb (X BX ng gc : Nat) (kn : Int) (ga : Option Addr) (jq : Nat) (v : Value) (w : World) : Prop :=
  match jq with
  | 0 => v = .int .i64 0
  | 1 => v = .bool false
  | 2 => v = .bool false
  | 3 => v = .pointer (some ⟨BX, 0, none⟩)
  | 4 => v = .pointer (some ⟨BX, 0, none⟩)
  | 5 => v = .int .i64 kn
  | 6 => v = .bool true
  | 7 => v = .bool true
  | 8 => v = .bool true
  | 9 => v = undef
  | 10 => v = undef
  | 11 => v = undef
  | 12 => v = undef
  | 13 => v = undef
  | 14 => v = undef
  | 15 => v = undef
  | 16 => v = undef
  | 17 => v = undef
  | 18 => v = .bool true
  | _ => True
theorem F_optb_mono (X BX ng gc : Nat) (kn : Int) (ga : Option Addr) : Facts (F_optb X BX ng gc  kn  ga ) := ⟨by
  intro jq v w w' h hb
  unfold F_optb at h ⊢
  split at h
  all_goals first
    | exact h
    | trivial⟩
def F_optc (X BX ng gc : Nat) (kn : Int) (ga : Option Addr) (jq : Nat) (v : Value) (w : World) : Prop :=
  match jq with
  | 0 => v = .int .i64 0
  | 1 => v = .bool false
  | 2 => v = .bool false
  | 3 => v = .pointer (some ⟨BX, 0, none⟩)
  | 4 => v = .pointer (some ⟨BX, 0, none⟩)
  | 5 => v = .int .i64 kn
  | 6 => v = .bool false
  | 7 => v = .bool false
  | 8 => v = .bool false
  | 9 => v = .pointer (some ⟨BX, 0, none⟩)
  | 10 => v = .pointer (some ⟨BX, 0, none⟩)
  | 11 => v = .int .i64 kn
  | 12 => v = .pointer (some ⟨X, 0, none⟩)
  | 13 => v = .pointer (some ⟨X, 0, none⟩)
  | 14 => v = .pointer (some ⟨X, 1, none⟩)
  | 15 => v = .slice ga ng gc
  | 16 => v = .int .i64 (ng : Int)
  | 17 => v = .bool true
  | 18 => v = .bool true
  | _ => True
theorem F_optc_mono (X BX ng gc : Nat) (kn : Int) (ga : Option Addr) : Facts (F_optc X BX ng gc  kn  ga ) := ⟨by
  intro jq v w w' h hb
  unfold F_optc at h ⊢
  split at h
  all_goals first
    | exact h
    | trivial⟩
def F_optd (X BX ng gc q : Nat) (ga : Option Addr) (jq : Nat) (v : Value) (w : World) : Prop :=
  match jq with
  | 0 => v = .int .i64 0
  | 1 => v = .bool false
  | 2 => v = .bool false
  | 3 => v = .pointer (some ⟨BX, 0, none⟩)
  | 4 => v = .pointer (some ⟨BX, 0, none⟩)
  | 5 => v = .int .i64 (q : Int)
  | 6 => v = .bool false
  | 7 => v = .bool false
  | 8 => v = .bool false
  | 9 => v = .pointer (some ⟨BX, 0, none⟩)
  | 10 => v = .pointer (some ⟨BX, 0, none⟩)
  | 11 => v = .int .i64 (q : Int)
  | 12 => v = .pointer (some ⟨X, 0, none⟩)
  | 13 => v = .pointer (some ⟨X, 0, none⟩)
  | 14 => v = .pointer (some ⟨X, 1, none⟩)
  | 15 => v = .slice ga ng gc
  | 16 => v = .int .i64 (ng : Int)
  | 17 => v = .bool false
  | 18 => v = .bool false
  | _ => True
theorem F_optd_mono (X BX ng gc q : Nat) (ga : Option Addr) : Facts (F_optd X BX ng gc q  ga ) := ⟨by
  intro jq v w w' h hb
  unfold F_optd at h ⊢
  split at h
  all_goals first
    | exact h
    | trivial⟩
def F_opm (X BX b bm q : Nat) (jq : Nat) (v : Value) (w : World) : Prop :=
  match jq with
  | 0 => v = .pointer (some ⟨X, 0, none⟩)
  | 1 => v = .pointer (some ⟨X, 0, none⟩)
  | 2 => v = .pointer (some ⟨X, 2, none⟩)
  | 3 => v = .map (some b)
  | 4 => v = .pointer (some ⟨BX, 0, none⟩)
  | 5 => v = .pointer (some ⟨BX, 0, none⟩)
  | 6 => v = .int .i64 (q : Int)
  | 7 => v = .map (some bm)
  | _ => True
theorem F_opm_mono (X BX b bm q : Nat) : Facts (F_opm X BX b bm q ) := ⟨by
  intro jq v w w' h hb
  unfold F_opm at h ⊢
  split at h
  all_goals first
    | exact h
    | trivial⟩
theorem list5 {α : Type} {vs : List α} (h : vs.length = 5) : ∃ x0 x1 x2 x3 x4, vs = [x0, x1, x2, x3, x4] := by
  obtain ⟨x0, t0, rfl, h0⟩ := cons_of h
  obtain ⟨x1, t1, rfl, h1⟩ := cons_of h0
  obtain ⟨x2, t2, rfl, h2⟩ := cons_of h1
  obtain ⟨x3, t3, rfl, h3⟩ := cons_of h2
  obtain ⟨x4, t4, rfl, h4⟩ := cons_of h3
  exact ⟨x0, x1, x2, x3, x4, by rw [List.eq_nil_of_length_eq_zero h4]⟩
def F_ops (X WB nk ck ng cg ni ci : Nat) (ak ag ai : Option Addr) (CV : WorldV) (SB : Bool) (jq : Nat) (v : Value) (w : World) : Prop :=
  match jq with
  | 0 => v = .pointer (some ⟨X, 0, none⟩)
  | 1 => WorldIn w v CV
  | 2 => v = .agg #[.slice ak nk ck, .slice ag ng cg, .slice ai ni ci]
  | 3 => v = .bool SB
  | 4 => v = .bool (!SB)
  | _ => True
theorem F_ops_mono (X WB nk ck ng cg ni ci : Nat) (ak ag ai : Option Addr) (CV : WorldV) (SB : Bool) : Facts (F_ops X WB nk ck ng cg ni ci  ak ag ai  CV  SB ) := ⟨by
  intro jq v w w' h hb
  unfold F_ops at h ⊢
  split at h
  all_goals first
    | exact h
    | exact WorldIn.below h hb
    | trivial⟩

set_option maxHeartbeats 16000000 in
set_option maxRecDepth 20000 in
theorem ref_Open (y : WorldV) (v : Value) (W : World) (hv : WorldIn W v y) (hsm : SmallW y) (hkf : ∀ k ∈ y.kinds, k.fields.length ≤ 1048576) :
    Calls Tryz.prog 13 #[v] W (OpenPost y W) := by
  have hv0 := hv
  obtain ⟨ak, ck, ag, cg, ai, ci, rfl, hzk, hzg, hzi, hk1, hk2⟩ := hv
  have hsm0 := hsm
  obtain ⟨s1, s2, s3, s4⟩ := hsm
  obtain ⟨nk, hnk⟩ : ∃ nk, nk = y.kinds.length := ⟨_, rfl⟩
  obtain ⟨ng, hng⟩ : ∃ ng, ng = y.gens.length := ⟨_, rfl⟩
  obtain ⟨ni, hni⟩ : ∃ ni, ni = y.items.length := ⟨_, rfl⟩
  rw [← hnk, ← hng, ← hni] at hv0
  rw [← hnk] at hk1 s1
  rw [← hng] at s2
  rw [← hni] at s3
  rw [← hnk, ← hng, ← hni]
  obtain ⟨o1, ho1⟩ : ∃ o : Obj, o = .cells #[.slice ak nk ck, .slice ag ng cg, .slice ai ni ci] 26 (0, 0) := ⟨_, rfl⟩
  have hbA := (Below.refl W.heap.size W).alloc (Nat.le_refl _) o1
  have hbx := heap_alloc_new W o1
  rw [ho1] at hbA hbx
  have HBA := Lib.hid hbA
  have HBX := Lib.hid hbx
  have CK := Lib.hid (fun w' (hb : Below W.heap.size W w') => ref_KindsError y.kinds ak nk ck hnk.symm (by omega) w' (hzk.below KindAt.abides hb))
  have CG := Lib.hid (fun w' (hb : Below W.heap.size W w') => clone_intsN y.gens ag ng cg hng.symm (by omega) w' (hzg.below hb))
  obtain ⟨KE, hKE⟩ : ∃ KE, KE = kindsE y.kinds := ⟨_, rfl⟩
  obtain ⟨RE, hRE⟩ : ∃ RE, RE = openE y := ⟨_, rfl⟩
  obtain ⟨OG, hOG⟩ : ∃ OG, OG = openGo y.kinds ng y.items (fun _ => none) := ⟨_, rfl⟩
  have f1 : KE ≠ 0 → RE = KE := fun h => by rw [hRE, hKE]; unfold openE; rw [if_pos (by rw [← hKE]; exact h)]
  have f2 : KE = 0 → (256 < ng ∨ ng < ni) → RE = 2 := fun h h2 => by rw [hRE]; unfold openE; rw [if_neg (by rw [← hKE, h]; simp), if_pos (by rw [← hng, ← hni]; exact h2)]
  have fx : KE = 0 → ¬ (256 < ng ∨ ng < ni) → RE = openR y OG := fun h h2 => by
    rw [hRE, hOG, hng]; exact openE_form (by rw [← hKE, h]) (by rw [← hng, ← hni]; exact h2)
  unfold OpenPost
  rw [← hng, ← hRE, ← hOG]
  rw [← hKE] at CK
  have F1 := Lib.hid f1
  have F2 := Lib.hid f2
  have FX := Lib.hid fx
  have HOG := Lib.hid hOG
  have NK := Lib.hid hnk
  have NG := Lib.hid hng
  have NI := Lib.hid hni
  have HZK := Lib.hid hzk
  have HZG := Lib.hid hzg
  have HZI := Lib.hid hzi
  have HV0 := Lib.hid hv0
  have HSM := Lib.hid hsm0
  have HKF := Lib.hid hkf
  have S4 := Lib.hid s4
  have HHK := Lib.hid (And.intro hk1 hk2)
  have HFO := Lib.hid (show ∀ G, OG = some G → (openV y G).kinds.length = nk ∧ (openV y G).gens.length = ng from fun G _ => ⟨hnk.symm, hng.symm⟩)
  clear f1 f2 fx hnk hng hni hzk hzg hzi s4 hKE hRE hOG hbA hbx ho1 o1 hv0 hsm0 hkf
  go_enter Tryz.func13, Tryz.ntmps13
  have e0 := cell_of_row _ _ 0 _ _ _ HBX.out
  have e1 := cell_of_row _ _ 1 _ _ _ HBX.out
  have e2 := cell_of_row _ _ 2 _ _ _ HBX.out
  go_wp2_with fail
  refine (CK.out _ HBA.out).mono ?_
  rintro e w1 ⟨rfl, hb1⟩
  have hbx := heap_below HBX.out hb1
  have hb := HBA.out.trans (hb1.mono HBA.out.size)
  have hWl := lt_of_heap hbx
  clear e0 e1 e2 HBX HBA hb1
  have HBX := Lib.hid hbx
  have HB := Lib.hid hb
  have HWL := Lib.hid hWl
  have e0 := cell_of_row _ _ 0 _ _ _ hbx
  have e1 := cell_of_row _ _ 1 _ _ _ hbx
  have e2 := cell_of_row _ _ 2 _ _ _ hbx
  clear hbx hb hWl CK
  by_cases hke : KE = 0
  · subst hke
    replace F2 := Lib.hid (F2.out rfl)
    replace FX := Lib.hid (FX.out rfl)
    clear F1
    by_cases hlg : 256 < ng ∨ ng < ni
    · have hr := F2.out hlg
      have HR := Lib.hid hr
      clear hr FX
      rcases hlg with h | h
      · go_wp2
        go_ret2
        exact ⟨Or.inl ⟨by rw [HR.out]; decide, by rw [HR.out]; rfl⟩, HB.out⟩
      · by_cases h' : 256 < ng
        · go_wp2
          go_ret2
          exact ⟨Or.inl ⟨by rw [HR.out]; decide, by rw [HR.out]; rfl⟩, HB.out⟩
        · go_wp2
          go_ret2
          exact ⟨Or.inl ⟨by rw [HR.out]; decide, by rw [HR.out]; rfl⟩, HB.out⟩
    · replace FX := Lib.hid (FX.out hlg)
      clear F2
      have l1 : ng ≤ 256 := by omega
      have l2 : ni ≤ ng := by omega
      have b1 : decide ((256 : Int) < (ng : Int)) = false := decide_eq_false (by omega)
      have b2 : decide ((ng : Int) < (ni : Int)) = false := decide_eq_false (by omega)
      have b3 : decide (ng < ni) = false := decide_eq_false (by omega)
      have hmk := @run_makeMap Tryz.prog
      clear hlg
      go_wp2_with fail
      refine (CG.out _ HB.out).mono ?_
      rintro e w2 ⟨vg, rfl, hgo, hb2, hns⟩
      obtain ⟨ga, gc, rfl⟩ := own_slice hgo
      obtain ⟨w3, hw3⟩ : ∃ w3, w3 = w2.alloc (.map #[] 0) := ⟨_, rfl⟩
      obtain ⟨b, hb⟩ : ∃ b, b = w2.heap.size := ⟨_, rfl⟩
      have hb23 : Below w2.heap.size w2 w3 := by rw [hw3]; exact (Below.refl _ _).alloc (Nat.le_refl _) _
      obtain ⟨X, hX⟩ : ∃ X, X = w3.heap.size := ⟨_, rfl⟩
      have hX2 : w2.heap.size + 1 = X := by rw [hX, hw3, World.size_alloc]
      have hx0 := heap_alloc_new w3 (.cells #[.slice none 0 0, .slice ga ng gc, .map (some b)] 96 (0, 0))
      have hb34 : Below w3.heap.size w3 (w3.alloc (.cells #[.slice none 0 0, .slice ga ng gc, .map (some b)] 96 (0, 0))) := (Below.refl _ _).alloc (Nat.le_refl _) _
      have hgo3 := own_low (own_below hgo hb23) HB.out.size
      have hmo3 : MapO w3 b b 0 (fun _ => none) := by rw [hw3, hb]; exact MapO.new w2 _
      have HNS := Lib.hid (show ∀ g, (Value.slice ga ng gc).ownBlock = some g → NoStr w3 g from fun g h => (hns g h).below (own_lt hgo g h).2 hb23)
      clear hns
      have HLT := Lib.hid (show ∀ g, (Value.slice ga ng gc).ownBlock = some g → g < b from fun g h => by rw [hb]; exact (own_lt hgo g h).2)
      have hbx3 := heap_below (heap_below HBX.out hb2) hb23
      have hbW3 := HB.out.trans ((hb2.trans (hb23.mono hb2.size)).mono HB.out.size)
      have z0 : ((w2.alloc (.map #[] 0)).alloc (.cells #[.slice none 0 0, .slice ga ng gc, .map (some w2.heap.size)] 96 (0, 0))).cell? ⟨W.heap.size, 0, none⟩ = some (.slice ak nk ck) := by
        rw [← hb, ← hw3, cell_of_row _ _ 0 _ _ _ (heap_below hbx3 hb34)]; rfl
      have hWb : W.heap.size < b := by have := HWL.out; have := hb2.size; omega
      have hbX : b < X := by omega
      clear e0 e1 e2 CG hgo hb23 hb2
      have HX := Lib.hid hX
      have HXB := Lib.hid hbX
      have HWB := Lib.hid hWb
      have HX0 := Lib.hid hx0
      have HB34 := Lib.hid hb34
      have HGO3 := Lib.hid hgo3
      have HMO3 := Lib.hid hmo3
      have HBX3 := Lib.hid hbx3
      have HB3 := Lib.hid hbW3
      have HW3 := Lib.hid hw3
      have HBB := Lib.hid hb
      have HX2 := Lib.hid hX2
      clear hX hbX hWb hx0 hb34 hgo3 hmo3 hbx3 hbW3 hw3 hX2 HBX HB HWL
      clear hb
      go_wp2_with fail
      rw [HX2.out]
      rw [← HBB.out, ← HW3.out]
      clear z0
      go_loopg [42, 7] nk (fun gk v42 _ wx => ∃ (i : Nat) (V : Value), i ≤ nk ∧ gk = nk - i ∧ v42 = .int .i64 i ∧ wx.heap[X]? = some (.cells #[V, .slice ga ng gc, .map (some b)] 96 (0, 0)) ∧ GrowL EKind (X + 1) 86 2 wx V (y.kinds.take i) ∧ Below w3.heap.size w3 wx)
      case atStart => exact ⟨0, _, Nat.zero_le _, rfl, rfl, by rw [HX.out]; exact HX0.out, GrowL.nil _ _ _ _ _, HB34.out⟩
      case round =>
        obtain ⟨i, V, hi0, g2, rfl, hrx, hgr, hb⟩ := hrel
        have G2 := Lib.hid g2
        have HRX := Lib.hid hrx
        have HGR := Lib.hid hgr
        have HB := Lib.hid hb
        clear g2 hrx hgr hb HX0 HB34
        by_cases hi : i < nk
        · have hzk1 := HZK.out.below KindAt.abides HB3.out
          obtain ⟨x, rfl, _, _⟩ := HZK.out (by rw [← NK.out]; omega)
          obtain ⟨kb, ko, rfl, af, cf, hck0, hnm, hnc, hcm, hfl⟩ := kind_cells hzk1 i (by rw [← NK.out]; exact hi)
          have hck := hck0.below HB.out
          obtain ⟨z, hy⟩ : ∃ z, z = y.kinds[i]'(by rw [← NK.out]; exact hi) := ⟨_, rfl⟩
          have hyf := HKF.out _ (List.getElem_mem (by rw [← NK.out]; exact hi) : y.kinds[i]'(by rw [← NK.out]; exact hi) ∈ y.kinds)
          rw [← hy] at hck hnm hnc hfl hyf
          obtain ⟨nf, hnf⟩ : ∃ nf, nf = z.fields.length := ⟨_, rfl⟩
          obtain ⟨nmv, hnmv⟩ : ∃ nmv, nmv = z.name := ⟨_, rfl⟩
          rw [← hnf, ← hnmv] at hck
          rw [← hnf] at hyf
          have e0 := hck.at 0 (by simp)
          have e1 := hck.at 1 (by simp)
          simp only [List.getElem_cons_zero, List.getElem_cons_succ, Nat.add_zero] at e0 e1
          have hro := new_row wr #[.string nmv, .slice af nf cf] 86
          have q0 := hro.at 0 (by simp)
          have q1 := hro.at 1 (by simp)
          simp only [List.getElem_cons_zero, List.getElem_cons_succ, Nat.zero_add] at q0 q1
          have hbA : Below wr.heap.size wr (wr.alloc (.cells #[.string nmv, .slice af nf cf] 86 (0, 0))) := (Below.refl _ _).alloc (Nat.le_refl _) _
          have hown : ∀ r, V.ownBlock = some r → X + 1 ≤ r ∧ r < wr.heap.size := fun r h => by obtain ⟨css, hcss⟩ := HGR.out; exact own_lt hcss.2.2.1 r h
          have HXN := Lib.hid (show some X ≠ V.ownBlock from fun e => by have := (hown X e.symm).1; omega)
          have HKN := Lib.hid (show some wr.heap.size ≠ V.ownBlock from fun e => by have := (hown _ e.symm).2; omega)
          have HVB := Lib.hid (show ∀ r, V.ownBlock = some r → r < wr.heap.size from fun r h => (hown r h).2)
          have HXS := Lib.hid (show X + 1 ≤ wr.heap.size from lt_of_heap HRX.out)
          have hrxc := heap_below HRX.out hbA
          have HRXC := Lib.hid hrxc
          have XC := Lib.hid (show (wr.alloc (.cells #[.string nmv, .slice af nf cf] 86 (0, 0))).cell? ⟨X, 0, none⟩ = some V by rw [cell_of_row _ _ 0 _ _ _ hrxc]; rfl)
          have Q0 := Lib.hid q0
          have Q1 := Lib.hid q1
          have HKS := Lib.hid (show wr.heap.size ≤ (wr.alloc (.cells #[.string nmv, .slice af nf cf] 86 (0, 0))).heap.size by simp)
          have HBD := Lib.hid (show Below wr.heap.size wr (wr.alloc (.cells #[.string nmv, .slice af nf cf] 86 (0, 0))).drew from hbA.drew)
          have HCA := Lib.hid (fun (w : World) (a2 : Option Addr) (c2 : Nat) => (fun _ => ⟨_, rfl, by simp, fun j u hu => by
            have := new_row w #[.string nmv, .slice a2 nf c2] 86 j u hu
            rw [add_zero_block]
            simpa using this⟩ : CellsAt (w.alloc (.cells #[.string nmv, .slice a2 nf c2] 86 (0, 0))) (some ⟨w.heap.size, 0, none⟩) [.string nmv, .slice a2 nf c2]))
          have HEK := Lib.hid (fun (a2 : Option Addr) (c2 : Nat) (w : World) (p1 : nf ≤ c2) (p2 : c2 ≤ 9223372036854775807) (p3 : Up wr.heap.size (fun w => SlAt 3 FieldAt w a2 z.fields) w) => (fun w2 hs => ⟨a2, c2, by rw [hnmv, hnf], hnm, by rw [← hnf]; exact p1, p2, p3 w2 hs⟩ : Up wr.heap.size (fun w => EKind w [.string nmv, .slice a2 nf c2] z) w))
          have HLE := Lib.hid (show (y.kinds.take i).length + 1 ≤ maxLen ∧ ((y.kinds.take i).length + 1) * 40 ≤ 140737488355328 by
            have : (y.kinds.take i).length = i := by rw [List.length_take, ← NK.out]; omega
            rw [this]; unfold maxLen; omega)
          have HCL := Lib.hid (fun w' (hb : (wr.alloc (.cells #[.string nmv, .slice af nf cf] 86 (0, 0))).grownBy w' V.ownBlock) => clone_flds z.fields af nf cf hnf.symm hyf w' (hfl.below FieldAt.abides (((HB.out.trans (hbA.mono HB.out.size)).grown hb (HB.out.trans (hbA.mono HB.out.size)).size (fun r h => by have := (hown r h).1; rw [← HX.out]; omega)))))
          have HTK := Lib.hid (show y.kinds.take (i + 1) = y.kinds.take i ++ [z] by rw [List.take_add_one, List.getElem?_eq_getElem (by rw [← NK.out]; exact hi), hy]; rfl)
          have HBA := Lib.hid hbA
          clear hck hck0 hro q0 q1 hbA hown hrxc hnf hnmv hyf hfl hnm hnc hzk1 hy
          go_wp2_with fail
          refine wp_region_facts_r rfl 15 (by kernel_rfl) (fun a b => World.grownBy a b V.ownBlock) (gb_drew _ _) (fun _ _ _ h h2 => h.trans h2) (RG 12 V.ownBlock) RG.sub (F_opk X wr.heap.size nf cf af nmv V z (y.kinds.take i)) (F_opk_mono X wr.heap.size nf cf af nmv V z (y.kinds.take i) HVB.out) 12 (fun w => Below wr.heap.size wr w) (HBD.out) (fun i a b hi h ho => ho.trans ((h.1 hi).mono ho.size)) ?_ ?_
          · refine ⟨?_, ?_, ?_, ?_, ?_, ?_, ?_, ?_, ?_, ?_, ?_, ?_, ?_, ?_, ?_, trivial⟩
            · intro vs w' F hb hd hF hl hT hq
              have e := (hF 5).trans (look_out _ 5 _ _ (by kernel_rfl))
              exact one_move _ rfl (by first | exact Or.inl rfl | exact Or.inr rfl) ⟨_, rfl, RG.same _ _ _ _, e⟩
            · intro vs w' F hb hd hF hl hT hq
              have e := (hF 5).trans (look_out _ 5 _ _ (by kernel_rfl))
              exact one_move _ rfl (by first | exact Or.inl rfl | exact Or.inr rfl) ⟨_, rfl, RG.same _ _ _ _, e⟩
            · intro vs w' F hb hd hF hl hT hq
              have e := ((hF 47).trans (look_at _ 47 1 _ _ (by kernel_rfl) (by kernel_rfl) hl)).trans (dep_of (Fact := F_opk X wr.heap.size nf cf af nmv V z (y.kinds.take i)) hd 1 (by kernel_rfl))
              exact one_nilCheck _ rfl rfl _ e ⟨_, rfl, RG.same _ _ _ _, rfl⟩
            · intro vs w' F hb hd hF hl hT hq
              have e := ((hF 48).trans (look_at _ 48 2 _ _ (by kernel_rfl) (by kernel_rfl) hl)).trans (dep_of (Fact := F_opk X wr.heap.size nf cf af nmv V z (y.kinds.take i)) hd 2 (by kernel_rfl))
              exact one_field _ _ _ rfl rfl _ _ e (0) (fun w => by kernel_rfl) ⟨_, rfl, RG.same _ _ _ _, rfl⟩
            · intro vs w' F hb hd hF hl hT hq
              have e := ((hF 49).trans (look_at _ 49 3 _ _ (by kernel_rfl) (by kernel_rfl) hl)).trans (dep_of (Fact := F_opk X wr.heap.size nf cf af nmv V z (y.kinds.take i)) hd 3 (by kernel_rfl))
              exact one_load _ _ rfl rfl _ _ e (World.grownBy.cell hb XC.out HXN.out) (by kernel_rfl) ⟨_, rfl, RG.same _ _ _ _, rfl⟩
            · intro vs w' F hb hd hF hl hT hq
              have e := (hF 7).trans (look_out _ 7 _ _ (by kernel_rfl))
              exact one_field _ _ _ rfl rfl _ _ e (0) (fun w => by kernel_rfl) ⟨_, rfl, RG.same _ _ _ _, rfl⟩
            · intro vs w' F hb hd hF hl hT hq
              have e := ((hF 51).trans (look_at _ 51 5 _ _ (by kernel_rfl) (by kernel_rfl) hl)).trans (dep_of (Fact := F_opk X wr.heap.size nf cf af nmv V z (y.kinds.take i)) hd 5 (by kernel_rfl))
              exact one_load _ _ rfl rfl _ _ e (World.grownBy.cell hb Q0.out HKN.out) (by kernel_rfl) ⟨_, rfl, RG.same _ _ _ _, rfl⟩
            · intro vs w' F hb hd hF hl hT hq
              have e := (hF 7).trans (look_out _ 7 _ _ (by kernel_rfl))
              exact one_field _ _ _ rfl rfl _ _ e (1) (fun w => by kernel_rfl) ⟨_, rfl, RG.same _ _ _ _, rfl⟩
            · intro vs w' F hb hd hF hl hT hq
              have e := ((hF 53).trans (look_at _ 53 7 _ _ (by kernel_rfl) (by kernel_rfl) hl)).trans (dep_of (Fact := F_opk X wr.heap.size nf cf af nmv V z (y.kinds.take i)) hd 7 (by kernel_rfl))
              exact one_load _ _ rfl rfl _ _ e (World.grownBy.cell hb Q1.out HKN.out) (by kernel_rfl) ⟨_, rfl, RG.same _ _ _ _, rfl⟩
            · intro vs w' F hb hd hF hl hT hq
              have e1 := (((hF 54).trans (look_at _ 54 8 _ _ (by kernel_rfl) (by kernel_rfl) hl)).trans (dep_of (Fact := F_opk X wr.heap.size nf cf af nmv V z (y.kinds.take i)) hd 8 (by kernel_rfl)))
              refine one_call _ _ rfl rfl (enters_of Tryz.func50 (by kernel_rfl) rfl) #[.slice af nf cf] (eval1 e1) ?_
              refine (HCL.out w' hb).mono ?_
              rintro e2 w2 ⟨a2, c2, rfl, p1, p2, p3, hb2⟩
              exact ⟨_, rfl, _, rfl, RG.below (by decide) hb2, a2, c2, rfl, p1, p2, p3.lower (Nat.le_trans HKS.out hb.size)⟩
            · intro vs w' F hb hd hF hl hT hq
              obtain ⟨a2, c2, hv2, hr2⟩ := (dep_of (Fact := F_opk X wr.heap.size nf cf af nmv V z (y.kinds.take i)) hd 9 (by kernel_rfl))
              have e1 := (((hF 52).trans (look_at _ 52 6 _ _ (by kernel_rfl) (by kernel_rfl) hl)).trans (dep_of (Fact := F_opk X wr.heap.size nf cf af nmv V z (y.kinds.take i)) hd 6 (by kernel_rfl)))
              have e2 := ((hF 55).trans (look_at _ 55 9 _ _ (by kernel_rfl) (by kernel_rfl) hl)).trans hv2
              exact one_build _ _ rfl rfl #[(0, .string nmv), (1, .slice a2 nf c2)] (parts2 e1 e2) (.agg #[.string nmv, .slice a2 nf c2]) (fun w => by kernel_rfl) ⟨_, rfl, RG.same _ _ _ _, a2, c2, rfl, hr2⟩
            · intro vs w' F hb hd hF hl hT hq
              obtain ⟨a2, c2, hv2, p1, p2, p3⟩ := (dep_of (Fact := F_opk X wr.heap.size nf cf af nmv V z (y.kinds.take i)) hd 10 (by kernel_rfl))
              have ex := ((hF 56).trans (look_at _ 56 10 _ _ (by kernel_rfl) (by kernel_rfl) hl)).trans hv2
              exact rg_slice_kind 22 86 _ rfl rfl nmv a2 nf c2 ex Tryz.underlying22 (by kernel_rfl) ⟨_, rfl, RG.below (by decide) ((Below.refl _ _).alloc (Nat.le_refl _) _), _, a2, c2, rfl, HCA.out _ _ _, Nat.le_trans HKS.out hb.size, HEK.out a2 c2 _ p1 p2 (p3.below ((Below.refl _ _).alloc (Nat.le_refl _) _))⟩
            · intro vs w' F hb hd hF hl hT hq
              obtain ⟨g, a2, c2, hv2, hcl, hg, hup⟩ := (dep_of (Fact := F_opk X wr.heap.size nf cf af nmv V z (y.kinds.take i)) hd 11 (by kernel_rfl))
              have g0 := (((hF 50).trans (look_at _ 50 4 _ _ (by kernel_rfl) (by kernel_rfl) hl)).trans (dep_of (Fact := F_opk X wr.heap.size nf cf af nmv V z (y.kinds.take i)) hd 4 (by kernel_rfl)))
              have g4 := ((hF 57).trans (look_at _ 57 11 _ _ (by kernel_rfl) (by kernel_rfl) hl)).trans hv2
              have hbw := hq rfl
              obtain ⟨css, hcss⟩ := HGR.out
              have hown := own_bel hcss.2.2.1 hbw
              refine wpList_append_cells rfl _ _ 22 rfl (X + 1) 86 (.agg #[.string ByteArray.empty, .slice none 0 0]) 2 40 Tryz.underlying22 (by kernel_rfl) rfl (by decide) V _ css.flatten g0 hown (some ⟨g, 0, none⟩) 1 1 [.string nmv, .slice a2 nf c2] g4 rfl hcl (by simp [Value.oneCell']) HLE.out.1 HLE.out.2 (Nat.le_trans HXS.out hbw.size) ?_
              intro v2 w2 hown2 hg2 hor2
              exact ⟨_, rfl, RG.at_ rfl hg2, GrowL.push2 HGR.out HXS.out hbw _ z rfl (Win.ofUp hup) hcss hown2 hg2 hor2⟩
            · intro vs w' F hb hd hF hl hT hq
              have e := ((hF 46).trans (look_at _ 46 0 _ _ (by kernel_rfl) (by kernel_rfl) hl)).trans (dep_of (Fact := F_opk X wr.heap.size nf cf af nmv V z (y.kinds.take i)) hd 0 (by kernel_rfl))
              exact one_nilCheck _ rfl rfl _ e ⟨_, rfl, RG.same _ _ _ _, rfl⟩
            · intro vs w' F hb hd hF hl hT hq
              have e := ((hF 59).trans (look_at _ 59 13 _ _ (by kernel_rfl) (by kernel_rfl) hl)).trans (dep_of (Fact := F_opk X wr.heap.size nf cf af nmv V z (y.kinds.take i)) hd 13 (by kernel_rfl))
              exact one_field _ _ _ rfl rfl _ _ e (0) (fun w => by kernel_rfl) ⟨_, rfl, RG.same _ _ _ _, rfl⟩
          · intro vs8 W8 hl hb hI
            have i9 : GrowL EKind (X + 1) 86 2 W8 (vs8.getD 12 undef) (y.kinds.take i ++ [z]) := hI 12 (by omega)
            have i10 : vs8.getD 14 undef = .pointer (some ⟨X, 0, none⟩) := hI 14 (by omega)
            obtain ⟨x0, x1, x2, x3, x4, x5, x6, x7, x8, x9, x10, x11, x12, x13, x14, x15, hvs⟩ := list16 hl
            subst hvs
            replace i9 : GrowL EKind (X + 1) 86 2 W8 x12 (y.kinds.take i ++ [z]) := i9
            replace i10 : x14 = .pointer (some ⟨X, 0, none⟩) := i10
            subst i10
            have hrx8 : W8.heap[X]? = some (.cells #[V, .slice ga ng gc, .map (some b)] 96 (0, 0)) := (hb.block X (lt_of_heap HRXC.out) HXN.out).trans HRXC.out
            have c8 : W8.cell? ⟨X, 0, none⟩ = some V := by rw [cell_of_row _ _ 0 _ _ _ hrx8]; rfl
            have f8 : W8.frozen? ⟨X, 0, none⟩ = false := Mem.frozen_of_row hrx8 _
            obtain ⟨a9, c9, hx9, _, _⟩ := GrowL.slice i9
            obtain ⟨n9, hn9⟩ : ∃ n9, n9 = (y.kinds.take i ++ [z]).length := ⟨_, rfl⟩
            rw [← hn9] at hx9
            clear hn9
            subst hx9
            have HI9 := Lib.hid i9
            have HRX8 := Lib.hid hrx8
            have HB8 := Lib.hid ((HB.out.trans (HBA.out.mono HB.out.size)).grown hb (HB.out.trans (HBA.out.mono HB.out.size)).size (fun r h => by obtain ⟨css, hcss⟩ := HGR.out; have := (own_lt hcss.2.2.1 r h).1; rw [← HX.out]; omega))
            clear i9 hI hl hb hrx8 HCL HEK HCA
            simp only [fillAll, Act.put, List.setIfInBounds_toArray, List.set_cons_succ, List.set_cons_zero, List.drop_succ_cons, List.drop_zero]
            go_wp2_with fail
            go_roundg (nk - (i + 1))
            case measure => rw [G2.out]; omega
            case rel => exact ⟨i + 1, _, hi, rfl, by go_num, Mem.heap_set HRX8.out 0 _, by rw [HTK.out]; exact HI9.out.frame (by simp) (fun g g1 g2 => Below.heap_setCell _ _ _ _ (by simp only; omega)), HB8.out.setCell (by rw [← HX.out]; exact Nat.le_refl _) _⟩
        · obtain rfl : nk = i := by omega
          have hgrk : GrowL EKind (X + 1) 86 2 wr V y.kinds := by have h := HGR.out; rw [List.take_of_length_le (by rw [← NK.out]; exact Nat.le_refl _)] at h; exact h
          obtain ⟨ka, kc, hkv, hkc1, hkc2⟩ := GrowL.slice hgrk
          have huk := GrowL.up EKind.at hgrk ka kc hkv
          rw [← NK.out] at hkv hkc1
          subst hkv
          obtain ⟨W2, hW2⟩ : ∃ W2, W2 = wr := ⟨_, rfl⟩
          subst hW2
          have hbr : Below W.heap.size W W2 := HB3.out.trans (HB.out.mono HB3.out.size)
          have HBX2 := Lib.hid (heap_below HBX3.out HB.out)
          have HUK := Lib.hid huk
          have HBR := Lib.hid hbr
          have HKC := Lib.hid (And.intro hkc1 hkc2)
          have HX2L := Lib.hid (lt_of_heap HRX.out)
          have HMO2 := Lib.hid (HMO3.out.below HB.out)
          have HNS2 := Lib.hid (show ∀ g, (Value.slice ga ng gc).ownBlock = some g → NoStr W2 g from fun g h => (HNS.out g h).below (own_lt HGO3.out g h).2 HB.out)
          have HGO2 := Lib.hid (own_below HGO3.out HB.out)
          have z2 := cell_of_row _ _ 2 _ _ _ HBX2.out
          clear hgrk huk hbr hkc1 hkc2 HGR HB G2 HBX3 HMO3 HGO3 HB3 HW3 HBB HX2 HX
          go_wp2_with fail
          clear z2
          go_loopg [65, 9, 69, 10, 11] ni (fun gk v65 _ _ _ _ wx => ∃ (i : Nat) (G : Nat → Option Part), i ≤ ni ∧ gk = ni - i ∧ v65 = .int .i64 i ∧ openGo y.kinds ng (y.items.drop i) G = OG ∧ MapO wx b b i G ∧ W2.grownBy wx (some b))
          case atStart => exact ⟨0, fun _ => none, Nat.zero_le _, rfl, rfl, by rw [HOG.out]; rfl, HMO2.out, World.grownBy.refl _ _⟩
          case round =>
            obtain ⟨i, G, hi0, g2, rfl, hgo, hmap, hb⟩ := hrel
            have G2 := Lib.hid g2
            have HGO := Lib.hid hgo
            have HMAP := Lib.hid hmap
            have HB := Lib.hid hb
            have hWb := HWB.out
            have hbX := HXB.out
            have hbr : Below W.heap.size W wr := HBR.out.grown hb HBR.out.size (fun r h => by injection h with h; omega)
            have hrx : wr.heap[X]? = some (.cells #[.slice ka nk kc, .slice ga ng gc, .map (some b)] 96 (0, 0)) := (hb.block _ HX2L.out (fun e => by injection e with e; omega)).trans HRX.out
            have hbx : wr.heap[W.heap.size]? = some (.cells #[.slice ak nk ck, .slice ag ng cg, .slice ai ni ci] 26 (0, 0)) := (hb.block _ (lt_of_heap HBX2.out) (fun e => by injection e with e; omega)).trans HBX2.out
            have HBW := Lib.hid hbr
            have HRXR := Lib.hid hrx
            have HBXR := Lib.hid hbx
            clear g2 hgo hmap hb hbr hrx hbx hWb hbX
            by_cases hi : i < ni
            · obtain ⟨x, rfl, _, _⟩ := HZI.out (by rw [← NI.out]; omega)
              obtain ⟨xb, xo, rfl, av, cv, hcl, hco⟩ := item_cells (HZI.out.below ItemAt.abides HBW.out) i (by rw [← NI.out]; exact hi)
              have hsm := S4.out _ (List.getElem_mem (by rw [← NI.out]; exact hi) : y.items[i]'(by rw [← NI.out]; exact hi) ∈ y.items)
              have hgo := HGO.out
              rw [List.drop_eq_getElem_cons (by rw [← NI.out]; exact hi), openGo] at hgo
              obtain ⟨it, hitd⟩ : ∃ it, it = y.items[i]'(by rw [← NI.out]; exact hi) := ⟨_, rfl⟩
              rw [← hitd] at hcl hco hsm hgo
              obtain ⟨nv, hnv⟩ : ∃ nv, nv = it.comps.length := ⟨_, rfl⟩
              rw [← hnv] at hcl hsm
              obtain ⟨kn, hkn⟩ : ∃ kn, kn = it.n := ⟨_, rfl⟩
              obtain ⟨kg, hkg⟩ : ∃ kg, kg = it.gen := ⟨_, rfl⟩
              rw [← hkn, ← hkg] at hcl
              obtain ⟨E, hE⟩ : ∃ E, E = fitAllE y.kinds it.comps := ⟨_, rfl⟩
              obtain ⟨MM, hMM⟩ : ∃ M, M = fitAllM y.kinds it.comps := ⟨_, rfl⟩
              rw [← hkn, ← hE, ← hMM] at hgo
              have e0 := hcl.at 0 (by simp)
              have e1 := hcl.at 1 (by simp)
              have e2 := hcl.at 2 (by simp)
              simp only [List.getElem_cons_zero, List.getElem_cons_succ, Nat.add_zero] at e0 e1 e2
              have hro := new_row wr #[.int .i64 kn, .int .i64 kg, .slice av nv cv] 61
              have q0 := hro.at 0 (by simp)
              have q2 := hro.at 2 (by simp)
              simp only [List.getElem_cons_zero, List.getElem_cons_succ, Nat.zero_add] at q0 q2
              have hbA : Below wr.heap.size wr (wr.alloc (.cells #[.int .i64 kn, .int .i64 kg, .slice av nv cv] 61 (0, 0))) := (Below.refl _ _).alloc (Nat.le_refl _) _
              have hrA := heap_below HRXR.out hbA
              have z0 := cell_of_row _ _ 0 _ _ _ (heap_below HBXR.out hbA)
              have CF0 := ref_FittedAll y.kinds it.comps ak av nk ck nv cv NK.out.symm hnv.symm (by omega) hsm.1 hsm.2 (wr.alloc (.cells #[.int .i64 kn, .int .i64 kg, .slice av nv cv] 61 (0, 0))) (HZK.out.below KindAt.abides (bt HBW.out hbA)) (hco.below CompAt.abides hbA)
              unfold FitAllPost at CF0
              rw [← hE, ← hMM] at CF0
              have CF := Lib.hid CF0
              have HGO2 := Lib.hid hgo
              have Q0 := Lib.hid q0
              have HRA := Lib.hid hrA
              have HBA := Lib.hid hbA
              clear hcl hco hsm hgo hitd hnv hkn hkg hE hMM hro hrA hbA CF0
              go_wp2_with fail
              refine CF.out.mono ?_
              rintro e w5 ⟨hres, hb5⟩
              have HA5 := Lib.hid (bt HBA.out hb5)
              have BC0 := Lib.hid (cell_abides Q0.out hb5)
              have hr5 := heap_below HRA.out hb5
              have XC1 := Lib.hid (show w5.cell? ⟨X, 1, none⟩ = some (.slice ga ng gc) by rw [cell_of_row _ _ 1 _ _ _ hr5]; rfl)
              have XC2 := Lib.hid (show w5.cell? ⟨X, 2, none⟩ = some (.map (some b)) by rw [cell_of_row _ _ 2 _ _ _ hr5]; rfl)
              clear q0 q2 z0 e0 e1 e2 hb5 hr5 CF HRA HBA Q0
              rcases hres with ⟨hE, rfl⟩ | ⟨he, bm, nm, rfl, hbm, hmi⟩
              · have hr := HGO2.out
                rw [if_pos (Or.inl hE)] at hr
                have HR := Lib.hid (show RE = 3 by have h := FX.out; rw [← hr] at h; exact h)
                clear hr
                go_wp2_with fail
                refine wp_region_facts_t rfl 19 (by kernel_rfl) (F_opta X wr.heap.size ng gc E kn ga) (F_opta_mono X wr.heap.size ng gc E kn ga) ?_ ?_
                · refine ⟨?_, ?_, ?_, ?_, ?_, ?_, ?_, ?_, ?_, ?_, ?_, ?_, ?_, ?_, ?_, ?_, ?_, ?_, ?_, trivial⟩
                  · intro vs w' F hb hd hF hl hT
                    have e := (hF 11).trans (look_out _ 11 _ _ (by kernel_rfl))
                    exact one_move _ rfl (by first | exact Or.inl rfl | exact Or.inr rfl) ⟨_, rfl, Below.refl _ _, e⟩
                  · intro vs w' F hb hd hF hl hT
                    have e1 := ((hF 77).trans (look_at _ 77 0 _ _ (by kernel_rfl) (by kernel_rfl) hl)).trans (dep_of (Fact := F_opta X wr.heap.size ng gc E kn ga) hd 0 (by kernel_rfl))
                    exact rg_neq _ _ _ _ rfl rfl .i64 (E) (0) true e1 rfl (decide_eq_true (hE)) ⟨_, rfl, Below.refl _ _, rfl⟩
                  · intro vs w' F hb hd hF hl hT
                    have e := ((hF 78).trans (look_at _ 78 1 _ _ (by kernel_rfl) (by kernel_rfl) hl)).trans (dep_of (Fact := F_opta X wr.heap.size ng gc E kn ga) hd 1 (by kernel_rfl))
                    exact one_move _ rfl (by first | exact Or.inl rfl | exact Or.inr rfl) ⟨_, rfl, Below.refl _ _, e⟩
                  · intro vs w' F hb hd hF hl hT
                    have eg := ((hF 79).trans (look_at _ 79 2 _ _ (by kernel_rfl) (by kernel_rfl) hl)).trans (dep_of (Fact := F_opta X wr.heap.size ng gc E kn ga) hd 2 (by kernel_rfl))
                    exact wpList_off rfl (t := 79) (d := true) (by kernel_rfl) eg (by decide) ⟨_, rfl, Below.refl _ _, rfl⟩
                  · intro vs w' F hb hd hF hl hT
                    have eg := ((hF 79).trans (look_at _ 79 2 _ _ (by kernel_rfl) (by kernel_rfl) hl)).trans (dep_of (Fact := F_opta X wr.heap.size ng gc E kn ga) hd 2 (by kernel_rfl))
                    exact wpList_off rfl (t := 79) (d := true) (by kernel_rfl) eg (by decide) ⟨_, rfl, Below.refl _ _, rfl⟩
                  · intro vs w' F hb hd hF hl hT
                    have eg := ((hF 79).trans (look_at _ 79 2 _ _ (by kernel_rfl) (by kernel_rfl) hl)).trans (dep_of (Fact := F_opta X wr.heap.size ng gc E kn ga) hd 2 (by kernel_rfl))
                    exact wpList_off rfl (t := 79) (d := true) (by kernel_rfl) eg (by decide) ⟨_, rfl, Below.refl _ _, rfl⟩
                  · intro vs w' F hb hd hF hl hT
                    have eg := ((hF 79).trans (look_at _ 79 2 _ _ (by kernel_rfl) (by kernel_rfl) hl)).trans (dep_of (Fact := F_opta X wr.heap.size ng gc E kn ga) hd 2 (by kernel_rfl))
                    exact wpList_off rfl (t := 79) (d := true) (by kernel_rfl) eg (by decide) ⟨_, rfl, Below.refl _ _, rfl⟩
                  · intro vs w' F hb hd hF hl hT
                    have ec := ((hF 79).trans (look_at _ 79 2 _ _ (by kernel_rfl) (by kernel_rfl) hl)).trans (dep_of (Fact := F_opta X wr.heap.size ng gc E kn ga) hd 2 (by kernel_rfl))
                    exact one_pick_t _ _ _ rfl rfl _ ec rfl ⟨_, rfl, Below.refl _ _, rfl⟩
                  · intro vs w' F hb hd hF hl hT
                    have e := ((hF 84).trans (look_at _ 84 7 _ _ (by kernel_rfl) (by kernel_rfl) hl)).trans (dep_of (Fact := F_opta X wr.heap.size ng gc E kn ga) hd 7 (by kernel_rfl))
                    exact one_move _ rfl (by first | exact Or.inl rfl | exact Or.inr rfl) ⟨_, rfl, Below.refl _ _, e⟩
                  · intro vs w' F hb hd hF hl hT
                    have eg := ((hF 85).trans (look_at _ 85 8 _ _ (by kernel_rfl) (by kernel_rfl) hl)).trans (dep_of (Fact := F_opta X wr.heap.size ng gc E kn ga) hd 8 (by kernel_rfl))
                    exact wpList_off rfl (t := 85) (d := true) (by kernel_rfl) eg (by decide) ⟨_, rfl, Below.refl _ _, rfl⟩
                  · intro vs w' F hb hd hF hl hT
                    have eg := ((hF 85).trans (look_at _ 85 8 _ _ (by kernel_rfl) (by kernel_rfl) hl)).trans (dep_of (Fact := F_opta X wr.heap.size ng gc E kn ga) hd 8 (by kernel_rfl))
                    exact wpList_off rfl (t := 85) (d := true) (by kernel_rfl) eg (by decide) ⟨_, rfl, Below.refl _ _, rfl⟩
                  · intro vs w' F hb hd hF hl hT
                    have eg := ((hF 85).trans (look_at _ 85 8 _ _ (by kernel_rfl) (by kernel_rfl) hl)).trans (dep_of (Fact := F_opta X wr.heap.size ng gc E kn ga) hd 8 (by kernel_rfl))
                    exact wpList_off rfl (t := 85) (d := true) (by kernel_rfl) eg (by decide) ⟨_, rfl, Below.refl _ _, rfl⟩
                  · intro vs w' F hb hd hF hl hT
                    have eg := ((hF 85).trans (look_at _ 85 8 _ _ (by kernel_rfl) (by kernel_rfl) hl)).trans (dep_of (Fact := F_opta X wr.heap.size ng gc E kn ga) hd 8 (by kernel_rfl))
                    exact wpList_off rfl (t := 85) (d := true) (by kernel_rfl) eg (by decide) ⟨_, rfl, Below.refl _ _, rfl⟩
                  · intro vs w' F hb hd hF hl hT
                    have eg := ((hF 85).trans (look_at _ 85 8 _ _ (by kernel_rfl) (by kernel_rfl) hl)).trans (dep_of (Fact := F_opta X wr.heap.size ng gc E kn ga) hd 8 (by kernel_rfl))
                    exact wpList_off rfl (t := 85) (d := true) (by kernel_rfl) eg (by decide) ⟨_, rfl, Below.refl _ _, rfl⟩
                  · intro vs w' F hb hd hF hl hT
                    have eg := ((hF 85).trans (look_at _ 85 8 _ _ (by kernel_rfl) (by kernel_rfl) hl)).trans (dep_of (Fact := F_opta X wr.heap.size ng gc E kn ga) hd 8 (by kernel_rfl))
                    exact wpList_off rfl (t := 85) (d := true) (by kernel_rfl) eg (by decide) ⟨_, rfl, Below.refl _ _, rfl⟩
                  · intro vs w' F hb hd hF hl hT
                    have eg := ((hF 85).trans (look_at _ 85 8 _ _ (by kernel_rfl) (by kernel_rfl) hl)).trans (dep_of (Fact := F_opta X wr.heap.size ng gc E kn ga) hd 8 (by kernel_rfl))
                    exact wpList_off rfl (t := 85) (d := true) (by kernel_rfl) eg (by decide) ⟨_, rfl, Below.refl _ _, rfl⟩
                  · intro vs w' F hb hd hF hl hT
                    have eg := ((hF 85).trans (look_at _ 85 8 _ _ (by kernel_rfl) (by kernel_rfl) hl)).trans (dep_of (Fact := F_opta X wr.heap.size ng gc E kn ga) hd 8 (by kernel_rfl))
                    exact wpList_off rfl (t := 85) (d := true) (by kernel_rfl) eg (by decide) ⟨_, rfl, Below.refl _ _, rfl⟩
                  · intro vs w' F hb hd hF hl hT
                    have eg := ((hF 85).trans (look_at _ 85 8 _ _ (by kernel_rfl) (by kernel_rfl) hl)).trans (dep_of (Fact := F_opta X wr.heap.size ng gc E kn ga) hd 8 (by kernel_rfl))
                    exact wpList_off rfl (t := 85) (d := true) (by kernel_rfl) eg (by decide) ⟨_, rfl, Below.refl _ _, rfl⟩
                  · intro vs w' F hb hd hF hl hT
                    have ec := ((hF 85).trans (look_at _ 85 8 _ _ (by kernel_rfl) (by kernel_rfl) hl)).trans (dep_of (Fact := F_opta X wr.heap.size ng gc E kn ga) hd 8 (by kernel_rfl))
                    exact one_pick_t _ _ _ rfl rfl _ ec rfl ⟨_, rfl, Below.refl _ _, rfl⟩
                · intro vs8 W8 hl hb hI
                  have hv : vs8.getD 18 undef = .bool true := hI 18 (by omega)
                  obtain ⟨x0, x1, x2, x3, x4, x5, x6, x7, x8, x9, x10, x11, x12, x13, x14, x15, x16, x17, x18, hvs⟩ := list19 hl
                  subst hvs
                  replace hv : x18 = .bool true := hv
                  subst hv
                  clear hI hl
                  simp only [fillAll, Act.put, List.setIfInBounds_toArray, List.set_cons_succ, List.set_cons_zero]
                  show wpList _ _ _ [] _ _
                  go_wp2
                  go_ret2
                  exact ⟨Or.inl ⟨by rw [HR.out]; decide, by rw [HR.out]; rfl⟩, bt HBW.out (bt HA5.out hb)⟩
              · subst he
                by_cases hB : kn < 0
                · have hr := HGO2.out
                  rw [if_pos (Or.inr (Or.inl hB))] at hr
                  have HR := Lib.hid (show RE = 3 by have h := FX.out; rw [← hr] at h; exact h)
                  clear hr hmi hbm
                  go_wp2_with fail
                  refine wp_region_facts_t rfl 19 (by kernel_rfl) (F_optb X wr.heap.size ng gc kn ga) (F_optb_mono X wr.heap.size ng gc kn ga) ?_ ?_
                  · refine ⟨?_, ?_, ?_, ?_, ?_, ?_, ?_, ?_, ?_, ?_, ?_, ?_, ?_, ?_, ?_, ?_, ?_, ?_, ?_, trivial⟩
                    · intro vs w' F hb hd hF hl hT
                      have e := (hF 11).trans (look_out _ 11 _ _ (by kernel_rfl))
                      exact one_move _ rfl (by first | exact Or.inl rfl | exact Or.inr rfl) ⟨_, rfl, Below.refl _ _, e⟩
                    · intro vs w' F hb hd hF hl hT
                      have e1 := ((hF 77).trans (look_at _ 77 0 _ _ (by kernel_rfl) (by kernel_rfl) hl)).trans (dep_of (Fact := F_optb X wr.heap.size ng gc kn ga) hd 0 (by kernel_rfl))
                      exact rg_neq _ _ _ _ rfl rfl .i64 (0) (0) false e1 rfl (decide_eq_false (by omega)) ⟨_, rfl, Below.refl _ _, rfl⟩
                    · intro vs w' F hb hd hF hl hT
                      have e := ((hF 78).trans (look_at _ 78 1 _ _ (by kernel_rfl) (by kernel_rfl) hl)).trans (dep_of (Fact := F_optb X wr.heap.size ng gc kn ga) hd 1 (by kernel_rfl))
                      exact one_move _ rfl (by first | exact Or.inl rfl | exact Or.inr rfl) ⟨_, rfl, Below.refl _ _, e⟩
                    · intro vs w' F hb hd hF hl hT
                      have eg := ((hF 79).trans (look_at _ 79 2 _ _ (by kernel_rfl) (by kernel_rfl) hl)).trans (dep_of (Fact := F_optb X wr.heap.size ng gc kn ga) hd 2 (by kernel_rfl))
                      refine wpList_on rfl (t := 79) (by kernel_rfl) eg ?_
                      have e := (hF 9).trans (look_out _ 9 _ _ (by kernel_rfl))
                      exact one_field _ _ _ rfl rfl _ _ e (0) (fun w => by kernel_rfl) ⟨_, rfl, Below.refl _ _, rfl⟩
                    · intro vs w' F hb hd hF hl hT
                      have eg := ((hF 79).trans (look_at _ 79 2 _ _ (by kernel_rfl) (by kernel_rfl) hl)).trans (dep_of (Fact := F_optb X wr.heap.size ng gc kn ga) hd 2 (by kernel_rfl))
                      refine wpList_on rfl (t := 79) (by kernel_rfl) eg ?_
                      have e := ((hF 80).trans (look_at _ 80 3 _ _ (by kernel_rfl) (by kernel_rfl) hl)).trans (dep_of (Fact := F_optb X wr.heap.size ng gc kn ga) hd 3 (by kernel_rfl))
                      exact one_field _ _ _ rfl rfl _ _ e (0) (fun w => by kernel_rfl) ⟨_, rfl, Below.refl _ _, rfl⟩
                    · intro vs w' F hb hd hF hl hT
                      have eg := ((hF 79).trans (look_at _ 79 2 _ _ (by kernel_rfl) (by kernel_rfl) hl)).trans (dep_of (Fact := F_optb X wr.heap.size ng gc kn ga) hd 2 (by kernel_rfl))
                      refine wpList_on rfl (t := 79) (by kernel_rfl) eg ?_
                      have e := ((hF 81).trans (look_at _ 81 4 _ _ (by kernel_rfl) (by kernel_rfl) hl)).trans (dep_of (Fact := F_optb X wr.heap.size ng gc kn ga) hd 4 (by kernel_rfl))
                      exact one_load _ _ rfl rfl _ _ e (cell_abides BC0.out hb) (by kernel_rfl) ⟨_, rfl, Below.refl _ _, rfl⟩
                    · intro vs w' F hb hd hF hl hT
                      have eg := ((hF 79).trans (look_at _ 79 2 _ _ (by kernel_rfl) (by kernel_rfl) hl)).trans (dep_of (Fact := F_optb X wr.heap.size ng gc kn ga) hd 2 (by kernel_rfl))
                      refine wpList_on rfl (t := 79) (by kernel_rfl) eg ?_
                      have e1 := ((hF 82).trans (look_at _ 82 5 _ _ (by kernel_rfl) (by kernel_rfl) hl)).trans (dep_of (Fact := F_optb X wr.heap.size ng gc kn ga) hd 5 (by kernel_rfl))
                      exact rg_lss _ _ _ _ rfl rfl .i64 (kn) (0) true e1 rfl (decide_eq_true (by omega)) ⟨_, rfl, Below.refl _ _, rfl⟩
                    · intro vs w' F hb hd hF hl hT
                      have ec := ((hF 79).trans (look_at _ 79 2 _ _ (by kernel_rfl) (by kernel_rfl) hl)).trans (dep_of (Fact := F_optb X wr.heap.size ng gc kn ga) hd 2 (by kernel_rfl))
                      have e := ((hF 83).trans (look_at _ 83 6 _ _ (by kernel_rfl) (by kernel_rfl) hl)).trans (dep_of (Fact := F_optb X wr.heap.size ng gc kn ga) hd 6 (by kernel_rfl))
                      exact one_pick_f _ _ _ rfl rfl _ ec e ⟨_, rfl, Below.refl _ _, rfl⟩
                    · intro vs w' F hb hd hF hl hT
                      have e := ((hF 84).trans (look_at _ 84 7 _ _ (by kernel_rfl) (by kernel_rfl) hl)).trans (dep_of (Fact := F_optb X wr.heap.size ng gc kn ga) hd 7 (by kernel_rfl))
                      exact one_move _ rfl (by first | exact Or.inl rfl | exact Or.inr rfl) ⟨_, rfl, Below.refl _ _, e⟩
                    · intro vs w' F hb hd hF hl hT
                      have eg := ((hF 85).trans (look_at _ 85 8 _ _ (by kernel_rfl) (by kernel_rfl) hl)).trans (dep_of (Fact := F_optb X wr.heap.size ng gc kn ga) hd 8 (by kernel_rfl))
                      exact wpList_off rfl (t := 85) (d := true) (by kernel_rfl) eg (by decide) ⟨_, rfl, Below.refl _ _, rfl⟩
                    · intro vs w' F hb hd hF hl hT
                      have eg := ((hF 85).trans (look_at _ 85 8 _ _ (by kernel_rfl) (by kernel_rfl) hl)).trans (dep_of (Fact := F_optb X wr.heap.size ng gc kn ga) hd 8 (by kernel_rfl))
                      exact wpList_off rfl (t := 85) (d := true) (by kernel_rfl) eg (by decide) ⟨_, rfl, Below.refl _ _, rfl⟩
                    · intro vs w' F hb hd hF hl hT
                      have eg := ((hF 85).trans (look_at _ 85 8 _ _ (by kernel_rfl) (by kernel_rfl) hl)).trans (dep_of (Fact := F_optb X wr.heap.size ng gc kn ga) hd 8 (by kernel_rfl))
                      exact wpList_off rfl (t := 85) (d := true) (by kernel_rfl) eg (by decide) ⟨_, rfl, Below.refl _ _, rfl⟩
                    · intro vs w' F hb hd hF hl hT
                      have eg := ((hF 85).trans (look_at _ 85 8 _ _ (by kernel_rfl) (by kernel_rfl) hl)).trans (dep_of (Fact := F_optb X wr.heap.size ng gc kn ga) hd 8 (by kernel_rfl))
                      exact wpList_off rfl (t := 85) (d := true) (by kernel_rfl) eg (by decide) ⟨_, rfl, Below.refl _ _, rfl⟩
                    · intro vs w' F hb hd hF hl hT
                      have eg := ((hF 85).trans (look_at _ 85 8 _ _ (by kernel_rfl) (by kernel_rfl) hl)).trans (dep_of (Fact := F_optb X wr.heap.size ng gc kn ga) hd 8 (by kernel_rfl))
                      exact wpList_off rfl (t := 85) (d := true) (by kernel_rfl) eg (by decide) ⟨_, rfl, Below.refl _ _, rfl⟩
                    · intro vs w' F hb hd hF hl hT
                      have eg := ((hF 85).trans (look_at _ 85 8 _ _ (by kernel_rfl) (by kernel_rfl) hl)).trans (dep_of (Fact := F_optb X wr.heap.size ng gc kn ga) hd 8 (by kernel_rfl))
                      exact wpList_off rfl (t := 85) (d := true) (by kernel_rfl) eg (by decide) ⟨_, rfl, Below.refl _ _, rfl⟩
                    · intro vs w' F hb hd hF hl hT
                      have eg := ((hF 85).trans (look_at _ 85 8 _ _ (by kernel_rfl) (by kernel_rfl) hl)).trans (dep_of (Fact := F_optb X wr.heap.size ng gc kn ga) hd 8 (by kernel_rfl))
                      exact wpList_off rfl (t := 85) (d := true) (by kernel_rfl) eg (by decide) ⟨_, rfl, Below.refl _ _, rfl⟩
                    · intro vs w' F hb hd hF hl hT
                      have eg := ((hF 85).trans (look_at _ 85 8 _ _ (by kernel_rfl) (by kernel_rfl) hl)).trans (dep_of (Fact := F_optb X wr.heap.size ng gc kn ga) hd 8 (by kernel_rfl))
                      exact wpList_off rfl (t := 85) (d := true) (by kernel_rfl) eg (by decide) ⟨_, rfl, Below.refl _ _, rfl⟩
                    · intro vs w' F hb hd hF hl hT
                      have eg := ((hF 85).trans (look_at _ 85 8 _ _ (by kernel_rfl) (by kernel_rfl) hl)).trans (dep_of (Fact := F_optb X wr.heap.size ng gc kn ga) hd 8 (by kernel_rfl))
                      exact wpList_off rfl (t := 85) (d := true) (by kernel_rfl) eg (by decide) ⟨_, rfl, Below.refl _ _, rfl⟩
                    · intro vs w' F hb hd hF hl hT
                      have ec := ((hF 85).trans (look_at _ 85 8 _ _ (by kernel_rfl) (by kernel_rfl) hl)).trans (dep_of (Fact := F_optb X wr.heap.size ng gc kn ga) hd 8 (by kernel_rfl))
                      exact one_pick_t _ _ _ rfl rfl _ ec rfl ⟨_, rfl, Below.refl _ _, rfl⟩
                  · intro vs8 W8 hl hb hI
                    have hv : vs8.getD 18 undef = .bool true := hI 18 (by omega)
                    obtain ⟨x0, x1, x2, x3, x4, x5, x6, x7, x8, x9, x10, x11, x12, x13, x14, x15, x16, x17, x18, hvs⟩ := list19 hl
                    subst hvs
                    replace hv : x18 = .bool true := hv
                    subst hv
                    clear hI hl
                    simp only [fillAll, Act.put, List.setIfInBounds_toArray, List.set_cons_succ, List.set_cons_zero]
                    show wpList _ _ _ [] _ _
                    go_wp2
                    go_ret2
                    exact ⟨Or.inl ⟨by rw [HR.out]; decide, by rw [HR.out]; rfl⟩, bt HBW.out (bt HA5.out hb)⟩
                · by_cases hC : (ng : Int) ≤ kn
                  · have hr := HGO2.out
                    rw [if_pos (Or.inr (Or.inr hC))] at hr
                    have HR := Lib.hid (show RE = 3 by have h := FX.out; rw [← hr] at h; exact h)
                    clear hr hmi hbm
                    go_wp2_with fail
                    refine wp_region_facts_t rfl 19 (by kernel_rfl) (F_optc X wr.heap.size ng gc kn ga) (F_optc_mono X wr.heap.size ng gc kn ga) ?_ ?_
                    · refine ⟨?_, ?_, ?_, ?_, ?_, ?_, ?_, ?_, ?_, ?_, ?_, ?_, ?_, ?_, ?_, ?_, ?_, ?_, ?_, trivial⟩
                      · intro vs w' F hb hd hF hl hT
                        have e := (hF 11).trans (look_out _ 11 _ _ (by kernel_rfl))
                        exact one_move _ rfl (by first | exact Or.inl rfl | exact Or.inr rfl) ⟨_, rfl, Below.refl _ _, e⟩
                      · intro vs w' F hb hd hF hl hT
                        have e1 := ((hF 77).trans (look_at _ 77 0 _ _ (by kernel_rfl) (by kernel_rfl) hl)).trans (dep_of (Fact := F_optc X wr.heap.size ng gc kn ga) hd 0 (by kernel_rfl))
                        exact rg_neq _ _ _ _ rfl rfl .i64 (0) (0) false e1 rfl (decide_eq_false (by omega)) ⟨_, rfl, Below.refl _ _, rfl⟩
                      · intro vs w' F hb hd hF hl hT
                        have e := ((hF 78).trans (look_at _ 78 1 _ _ (by kernel_rfl) (by kernel_rfl) hl)).trans (dep_of (Fact := F_optc X wr.heap.size ng gc kn ga) hd 1 (by kernel_rfl))
                        exact one_move _ rfl (by first | exact Or.inl rfl | exact Or.inr rfl) ⟨_, rfl, Below.refl _ _, e⟩
                      · intro vs w' F hb hd hF hl hT
                        have eg := ((hF 79).trans (look_at _ 79 2 _ _ (by kernel_rfl) (by kernel_rfl) hl)).trans (dep_of (Fact := F_optc X wr.heap.size ng gc kn ga) hd 2 (by kernel_rfl))
                        refine wpList_on rfl (t := 79) (by kernel_rfl) eg ?_
                        have e := (hF 9).trans (look_out _ 9 _ _ (by kernel_rfl))
                        exact one_field _ _ _ rfl rfl _ _ e (0) (fun w => by kernel_rfl) ⟨_, rfl, Below.refl _ _, rfl⟩
                      · intro vs w' F hb hd hF hl hT
                        have eg := ((hF 79).trans (look_at _ 79 2 _ _ (by kernel_rfl) (by kernel_rfl) hl)).trans (dep_of (Fact := F_optc X wr.heap.size ng gc kn ga) hd 2 (by kernel_rfl))
                        refine wpList_on rfl (t := 79) (by kernel_rfl) eg ?_
                        have e := ((hF 80).trans (look_at _ 80 3 _ _ (by kernel_rfl) (by kernel_rfl) hl)).trans (dep_of (Fact := F_optc X wr.heap.size ng gc kn ga) hd 3 (by kernel_rfl))
                        exact one_field _ _ _ rfl rfl _ _ e (0) (fun w => by kernel_rfl) ⟨_, rfl, Below.refl _ _, rfl⟩
                      · intro vs w' F hb hd hF hl hT
                        have eg := ((hF 79).trans (look_at _ 79 2 _ _ (by kernel_rfl) (by kernel_rfl) hl)).trans (dep_of (Fact := F_optc X wr.heap.size ng gc kn ga) hd 2 (by kernel_rfl))
                        refine wpList_on rfl (t := 79) (by kernel_rfl) eg ?_
                        have e := ((hF 81).trans (look_at _ 81 4 _ _ (by kernel_rfl) (by kernel_rfl) hl)).trans (dep_of (Fact := F_optc X wr.heap.size ng gc kn ga) hd 4 (by kernel_rfl))
                        exact one_load _ _ rfl rfl _ _ e (cell_abides BC0.out hb) (by kernel_rfl) ⟨_, rfl, Below.refl _ _, rfl⟩
                      · intro vs w' F hb hd hF hl hT
                        have eg := ((hF 79).trans (look_at _ 79 2 _ _ (by kernel_rfl) (by kernel_rfl) hl)).trans (dep_of (Fact := F_optc X wr.heap.size ng gc kn ga) hd 2 (by kernel_rfl))
                        refine wpList_on rfl (t := 79) (by kernel_rfl) eg ?_
                        have e1 := ((hF 82).trans (look_at _ 82 5 _ _ (by kernel_rfl) (by kernel_rfl) hl)).trans (dep_of (Fact := F_optc X wr.heap.size ng gc kn ga) hd 5 (by kernel_rfl))
                        exact rg_lss _ _ _ _ rfl rfl .i64 (kn) (0) false e1 rfl (decide_eq_false (by omega)) ⟨_, rfl, Below.refl _ _, rfl⟩
                      · intro vs w' F hb hd hF hl hT
                        have ec := ((hF 79).trans (look_at _ 79 2 _ _ (by kernel_rfl) (by kernel_rfl) hl)).trans (dep_of (Fact := F_optc X wr.heap.size ng gc kn ga) hd 2 (by kernel_rfl))
                        have e := ((hF 83).trans (look_at _ 83 6 _ _ (by kernel_rfl) (by kernel_rfl) hl)).trans (dep_of (Fact := F_optc X wr.heap.size ng gc kn ga) hd 6 (by kernel_rfl))
                        exact one_pick_f _ _ _ rfl rfl _ ec e ⟨_, rfl, Below.refl _ _, rfl⟩
                      · intro vs w' F hb hd hF hl hT
                        have e := ((hF 84).trans (look_at _ 84 7 _ _ (by kernel_rfl) (by kernel_rfl) hl)).trans (dep_of (Fact := F_optc X wr.heap.size ng gc kn ga) hd 7 (by kernel_rfl))
                        exact one_move _ rfl (by first | exact Or.inl rfl | exact Or.inr rfl) ⟨_, rfl, Below.refl _ _, e⟩
                      · intro vs w' F hb hd hF hl hT
                        have eg := ((hF 85).trans (look_at _ 85 8 _ _ (by kernel_rfl) (by kernel_rfl) hl)).trans (dep_of (Fact := F_optc X wr.heap.size ng gc kn ga) hd 8 (by kernel_rfl))
                        refine wpList_on rfl (t := 85) (by kernel_rfl) eg ?_
                        have e := (hF 9).trans (look_out _ 9 _ _ (by kernel_rfl))
                        exact one_field _ _ _ rfl rfl _ _ e (0) (fun w => by kernel_rfl) ⟨_, rfl, Below.refl _ _, rfl⟩
                      · intro vs w' F hb hd hF hl hT
                        have eg := ((hF 85).trans (look_at _ 85 8 _ _ (by kernel_rfl) (by kernel_rfl) hl)).trans (dep_of (Fact := F_optc X wr.heap.size ng gc kn ga) hd 8 (by kernel_rfl))
                        refine wpList_on rfl (t := 85) (by kernel_rfl) eg ?_
                        have e := ((hF 86).trans (look_at _ 86 9 _ _ (by kernel_rfl) (by kernel_rfl) hl)).trans (dep_of (Fact := F_optc X wr.heap.size ng gc kn ga) hd 9 (by kernel_rfl))
                        exact one_field _ _ _ rfl rfl _ _ e (0) (fun w => by kernel_rfl) ⟨_, rfl, Below.refl _ _, rfl⟩
                      · intro vs w' F hb hd hF hl hT
                        have eg := ((hF 85).trans (look_at _ 85 8 _ _ (by kernel_rfl) (by kernel_rfl) hl)).trans (dep_of (Fact := F_optc X wr.heap.size ng gc kn ga) hd 8 (by kernel_rfl))
                        refine wpList_on rfl (t := 85) (by kernel_rfl) eg ?_
                        have e := ((hF 87).trans (look_at _ 87 10 _ _ (by kernel_rfl) (by kernel_rfl) hl)).trans (dep_of (Fact := F_optc X wr.heap.size ng gc kn ga) hd 10 (by kernel_rfl))
                        exact one_load _ _ rfl rfl _ _ e (cell_abides BC0.out hb) (by kernel_rfl) ⟨_, rfl, Below.refl _ _, rfl⟩
                      · intro vs w' F hb hd hF hl hT
                        have eg := ((hF 85).trans (look_at _ 85 8 _ _ (by kernel_rfl) (by kernel_rfl) hl)).trans (dep_of (Fact := F_optc X wr.heap.size ng gc kn ga) hd 8 (by kernel_rfl))
                        refine wpList_on rfl (t := 85) (by kernel_rfl) eg ?_
                        have e := (hF 5).trans (look_out _ 5 _ _ (by kernel_rfl))
                        exact one_move _ rfl (by first | exact Or.inl rfl | exact Or.inr rfl) ⟨_, rfl, Below.refl _ _, e⟩
                      · intro vs w' F hb hd hF hl hT
                        have eg := ((hF 85).trans (look_at _ 85 8 _ _ (by kernel_rfl) (by kernel_rfl) hl)).trans (dep_of (Fact := F_optc X wr.heap.size ng gc kn ga) hd 8 (by kernel_rfl))
                        refine wpList_on rfl (t := 85) (by kernel_rfl) eg ?_
                        have e := ((hF 89).trans (look_at _ 89 12 _ _ (by kernel_rfl) (by kernel_rfl) hl)).trans (dep_of (Fact := F_optc X wr.heap.size ng gc kn ga) hd 12 (by kernel_rfl))
                        exact one_nilCheck _ rfl rfl _ e ⟨_, rfl, Below.refl _ _, rfl⟩
                      · intro vs w' F hb hd hF hl hT
                        have eg := ((hF 85).trans (look_at _ 85 8 _ _ (by kernel_rfl) (by kernel_rfl) hl)).trans (dep_of (Fact := F_optc X wr.heap.size ng gc kn ga) hd 8 (by kernel_rfl))
                        refine wpList_on rfl (t := 85) (by kernel_rfl) eg ?_
                        have e := ((hF 90).trans (look_at _ 90 13 _ _ (by kernel_rfl) (by kernel_rfl) hl)).trans (dep_of (Fact := F_optc X wr.heap.size ng gc kn ga) hd 13 (by kernel_rfl))
                        exact one_field _ _ _ rfl rfl _ _ e (1) (fun w => by kernel_rfl) ⟨_, rfl, Below.refl _ _, rfl⟩
                      · intro vs w' F hb hd hF hl hT
                        have eg := ((hF 85).trans (look_at _ 85 8 _ _ (by kernel_rfl) (by kernel_rfl) hl)).trans (dep_of (Fact := F_optc X wr.heap.size ng gc kn ga) hd 8 (by kernel_rfl))
                        refine wpList_on rfl (t := 85) (by kernel_rfl) eg ?_
                        have e := ((hF 91).trans (look_at _ 91 14 _ _ (by kernel_rfl) (by kernel_rfl) hl)).trans (dep_of (Fact := F_optc X wr.heap.size ng gc kn ga) hd 14 (by kernel_rfl))
                        exact one_load _ _ rfl rfl _ _ e (cell_abides XC1.out hb) (by kernel_rfl) ⟨_, rfl, Below.refl _ _, rfl⟩
                      · intro vs w' F hb hd hF hl hT
                        have eg := ((hF 85).trans (look_at _ 85 8 _ _ (by kernel_rfl) (by kernel_rfl) hl)).trans (dep_of (Fact := F_optc X wr.heap.size ng gc kn ga) hd 8 (by kernel_rfl))
                        refine wpList_on rfl (t := 85) (by kernel_rfl) eg ?_
                        have e := ((hF 92).trans (look_at _ 92 15 _ _ (by kernel_rfl) (by kernel_rfl) hl)).trans (dep_of (Fact := F_optc X wr.heap.size ng gc kn ga) hd 15 (by kernel_rfl))
                        exact rg_len _ 23 3 rfl rfl Tryz.underlying23 ga (ng) (gc) e ⟨_, rfl, Below.refl _ _, rfl⟩
                      · intro vs w' F hb hd hF hl hT
                        have eg := ((hF 85).trans (look_at _ 85 8 _ _ (by kernel_rfl) (by kernel_rfl) hl)).trans (dep_of (Fact := F_optc X wr.heap.size ng gc kn ga) hd 8 (by kernel_rfl))
                        refine wpList_on rfl (t := 85) (by kernel_rfl) eg ?_
                        have e1 := ((hF 88).trans (look_at _ 88 11 _ _ (by kernel_rfl) (by kernel_rfl) hl)).trans (dep_of (Fact := F_optc X wr.heap.size ng gc kn ga) hd 11 (by kernel_rfl))
                        have e2 := ((hF 93).trans (look_at _ 93 16 _ _ (by kernel_rfl) (by kernel_rfl) hl)).trans (dep_of (Fact := F_optc X wr.heap.size ng gc kn ga) hd 16 (by kernel_rfl))
                        exact rg_geq _ _ _ _ rfl rfl .i64 (kn) ((ng : Int)) true e1 e2 (decide_eq_true (by omega)) ⟨_, rfl, Below.refl _ _, rfl⟩
                      · intro vs w' F hb hd hF hl hT
                        have ec := ((hF 85).trans (look_at _ 85 8 _ _ (by kernel_rfl) (by kernel_rfl) hl)).trans (dep_of (Fact := F_optc X wr.heap.size ng gc kn ga) hd 8 (by kernel_rfl))
                        have e := ((hF 94).trans (look_at _ 94 17 _ _ (by kernel_rfl) (by kernel_rfl) hl)).trans (dep_of (Fact := F_optc X wr.heap.size ng gc kn ga) hd 17 (by kernel_rfl))
                        exact one_pick_f _ _ _ rfl rfl _ ec e ⟨_, rfl, Below.refl _ _, rfl⟩
                    · intro vs8 W8 hl hb hI
                      have hv : vs8.getD 18 undef = .bool true := hI 18 (by omega)
                      obtain ⟨x0, x1, x2, x3, x4, x5, x6, x7, x8, x9, x10, x11, x12, x13, x14, x15, x16, x17, x18, hvs⟩ := list19 hl
                      subst hvs
                      replace hv : x18 = .bool true := hv
                      subst hv
                      clear hI hl
                      simp only [fillAll, Act.put, List.setIfInBounds_toArray, List.set_cons_succ, List.set_cons_zero]
                      show wpList _ _ _ [] _ _
                      go_wp2
                      go_ret2
                      exact ⟨Or.inl ⟨by rw [HR.out]; decide, by rw [HR.out]; rfl⟩, bt HBW.out (bt HA5.out hb)⟩
                  · obtain ⟨q, rfl⟩ : ∃ q : Nat, kn = (q : Int) := ⟨kn.toNat, by omega⟩
                    have hr := HGO2.out
                    rw [if_neg (fun h => by rcases h with h | h | h; exact h rfl; exact hB h; exact hC h), Int.toNat_natCast] at hr
                    have HR := Lib.hid hr
                    have HMI := Lib.hid hmi
                    have HBM := Lib.hid (show wr.heap.size < bm by rw [World.size_alloc] at hbm; omega)
                    clear hr hmi hbm
                    go_wp2_with fail
                    refine wp_region_facts_t rfl 19 (by kernel_rfl) (F_optd X wr.heap.size ng gc q ga) (F_optd_mono X wr.heap.size ng gc q ga) ?_ ?_
                    · refine ⟨?_, ?_, ?_, ?_, ?_, ?_, ?_, ?_, ?_, ?_, ?_, ?_, ?_, ?_, ?_, ?_, ?_, ?_, ?_, trivial⟩
                      · intro vs w' F hb hd hF hl hT
                        have e := (hF 11).trans (look_out _ 11 _ _ (by kernel_rfl))
                        exact one_move _ rfl (by first | exact Or.inl rfl | exact Or.inr rfl) ⟨_, rfl, Below.refl _ _, e⟩
                      · intro vs w' F hb hd hF hl hT
                        have e1 := ((hF 77).trans (look_at _ 77 0 _ _ (by kernel_rfl) (by kernel_rfl) hl)).trans (dep_of (Fact := F_optd X wr.heap.size ng gc q ga) hd 0 (by kernel_rfl))
                        exact rg_neq _ _ _ _ rfl rfl .i64 (0) (0) false e1 rfl (decide_eq_false (by omega)) ⟨_, rfl, Below.refl _ _, rfl⟩
                      · intro vs w' F hb hd hF hl hT
                        have e := ((hF 78).trans (look_at _ 78 1 _ _ (by kernel_rfl) (by kernel_rfl) hl)).trans (dep_of (Fact := F_optd X wr.heap.size ng gc q ga) hd 1 (by kernel_rfl))
                        exact one_move _ rfl (by first | exact Or.inl rfl | exact Or.inr rfl) ⟨_, rfl, Below.refl _ _, e⟩
                      · intro vs w' F hb hd hF hl hT
                        have eg := ((hF 79).trans (look_at _ 79 2 _ _ (by kernel_rfl) (by kernel_rfl) hl)).trans (dep_of (Fact := F_optd X wr.heap.size ng gc q ga) hd 2 (by kernel_rfl))
                        refine wpList_on rfl (t := 79) (by kernel_rfl) eg ?_
                        have e := (hF 9).trans (look_out _ 9 _ _ (by kernel_rfl))
                        exact one_field _ _ _ rfl rfl _ _ e (0) (fun w => by kernel_rfl) ⟨_, rfl, Below.refl _ _, rfl⟩
                      · intro vs w' F hb hd hF hl hT
                        have eg := ((hF 79).trans (look_at _ 79 2 _ _ (by kernel_rfl) (by kernel_rfl) hl)).trans (dep_of (Fact := F_optd X wr.heap.size ng gc q ga) hd 2 (by kernel_rfl))
                        refine wpList_on rfl (t := 79) (by kernel_rfl) eg ?_
                        have e := ((hF 80).trans (look_at _ 80 3 _ _ (by kernel_rfl) (by kernel_rfl) hl)).trans (dep_of (Fact := F_optd X wr.heap.size ng gc q ga) hd 3 (by kernel_rfl))
                        exact one_field _ _ _ rfl rfl _ _ e (0) (fun w => by kernel_rfl) ⟨_, rfl, Below.refl _ _, rfl⟩
                      · intro vs w' F hb hd hF hl hT
                        have eg := ((hF 79).trans (look_at _ 79 2 _ _ (by kernel_rfl) (by kernel_rfl) hl)).trans (dep_of (Fact := F_optd X wr.heap.size ng gc q ga) hd 2 (by kernel_rfl))
                        refine wpList_on rfl (t := 79) (by kernel_rfl) eg ?_
                        have e := ((hF 81).trans (look_at _ 81 4 _ _ (by kernel_rfl) (by kernel_rfl) hl)).trans (dep_of (Fact := F_optd X wr.heap.size ng gc q ga) hd 4 (by kernel_rfl))
                        exact one_load _ _ rfl rfl _ _ e (cell_abides BC0.out hb) (by kernel_rfl) ⟨_, rfl, Below.refl _ _, rfl⟩
                      · intro vs w' F hb hd hF hl hT
                        have eg := ((hF 79).trans (look_at _ 79 2 _ _ (by kernel_rfl) (by kernel_rfl) hl)).trans (dep_of (Fact := F_optd X wr.heap.size ng gc q ga) hd 2 (by kernel_rfl))
                        refine wpList_on rfl (t := 79) (by kernel_rfl) eg ?_
                        have e1 := ((hF 82).trans (look_at _ 82 5 _ _ (by kernel_rfl) (by kernel_rfl) hl)).trans (dep_of (Fact := F_optd X wr.heap.size ng gc q ga) hd 5 (by kernel_rfl))
                        exact rg_lss _ _ _ _ rfl rfl .i64 ((q : Int)) (0) false e1 rfl (decide_eq_false (by omega)) ⟨_, rfl, Below.refl _ _, rfl⟩
                      · intro vs w' F hb hd hF hl hT
                        have ec := ((hF 79).trans (look_at _ 79 2 _ _ (by kernel_rfl) (by kernel_rfl) hl)).trans (dep_of (Fact := F_optd X wr.heap.size ng gc q ga) hd 2 (by kernel_rfl))
                        have e := ((hF 83).trans (look_at _ 83 6 _ _ (by kernel_rfl) (by kernel_rfl) hl)).trans (dep_of (Fact := F_optd X wr.heap.size ng gc q ga) hd 6 (by kernel_rfl))
                        exact one_pick_f _ _ _ rfl rfl _ ec e ⟨_, rfl, Below.refl _ _, rfl⟩
                      · intro vs w' F hb hd hF hl hT
                        have e := ((hF 84).trans (look_at _ 84 7 _ _ (by kernel_rfl) (by kernel_rfl) hl)).trans (dep_of (Fact := F_optd X wr.heap.size ng gc q ga) hd 7 (by kernel_rfl))
                        exact one_move _ rfl (by first | exact Or.inl rfl | exact Or.inr rfl) ⟨_, rfl, Below.refl _ _, e⟩
                      · intro vs w' F hb hd hF hl hT
                        have eg := ((hF 85).trans (look_at _ 85 8 _ _ (by kernel_rfl) (by kernel_rfl) hl)).trans (dep_of (Fact := F_optd X wr.heap.size ng gc q ga) hd 8 (by kernel_rfl))
                        refine wpList_on rfl (t := 85) (by kernel_rfl) eg ?_
                        have e := (hF 9).trans (look_out _ 9 _ _ (by kernel_rfl))
                        exact one_field _ _ _ rfl rfl _ _ e (0) (fun w => by kernel_rfl) ⟨_, rfl, Below.refl _ _, rfl⟩
                      · intro vs w' F hb hd hF hl hT
                        have eg := ((hF 85).trans (look_at _ 85 8 _ _ (by kernel_rfl) (by kernel_rfl) hl)).trans (dep_of (Fact := F_optd X wr.heap.size ng gc q ga) hd 8 (by kernel_rfl))
                        refine wpList_on rfl (t := 85) (by kernel_rfl) eg ?_
                        have e := ((hF 86).trans (look_at _ 86 9 _ _ (by kernel_rfl) (by kernel_rfl) hl)).trans (dep_of (Fact := F_optd X wr.heap.size ng gc q ga) hd 9 (by kernel_rfl))
                        exact one_field _ _ _ rfl rfl _ _ e (0) (fun w => by kernel_rfl) ⟨_, rfl, Below.refl _ _, rfl⟩
                      · intro vs w' F hb hd hF hl hT
                        have eg := ((hF 85).trans (look_at _ 85 8 _ _ (by kernel_rfl) (by kernel_rfl) hl)).trans (dep_of (Fact := F_optd X wr.heap.size ng gc q ga) hd 8 (by kernel_rfl))
                        refine wpList_on rfl (t := 85) (by kernel_rfl) eg ?_
                        have e := ((hF 87).trans (look_at _ 87 10 _ _ (by kernel_rfl) (by kernel_rfl) hl)).trans (dep_of (Fact := F_optd X wr.heap.size ng gc q ga) hd 10 (by kernel_rfl))
                        exact one_load _ _ rfl rfl _ _ e (cell_abides BC0.out hb) (by kernel_rfl) ⟨_, rfl, Below.refl _ _, rfl⟩
                      · intro vs w' F hb hd hF hl hT
                        have eg := ((hF 85).trans (look_at _ 85 8 _ _ (by kernel_rfl) (by kernel_rfl) hl)).trans (dep_of (Fact := F_optd X wr.heap.size ng gc q ga) hd 8 (by kernel_rfl))
                        refine wpList_on rfl (t := 85) (by kernel_rfl) eg ?_
                        have e := (hF 5).trans (look_out _ 5 _ _ (by kernel_rfl))
                        exact one_move _ rfl (by first | exact Or.inl rfl | exact Or.inr rfl) ⟨_, rfl, Below.refl _ _, e⟩
                      · intro vs w' F hb hd hF hl hT
                        have eg := ((hF 85).trans (look_at _ 85 8 _ _ (by kernel_rfl) (by kernel_rfl) hl)).trans (dep_of (Fact := F_optd X wr.heap.size ng gc q ga) hd 8 (by kernel_rfl))
                        refine wpList_on rfl (t := 85) (by kernel_rfl) eg ?_
                        have e := ((hF 89).trans (look_at _ 89 12 _ _ (by kernel_rfl) (by kernel_rfl) hl)).trans (dep_of (Fact := F_optd X wr.heap.size ng gc q ga) hd 12 (by kernel_rfl))
                        exact one_nilCheck _ rfl rfl _ e ⟨_, rfl, Below.refl _ _, rfl⟩
                      · intro vs w' F hb hd hF hl hT
                        have eg := ((hF 85).trans (look_at _ 85 8 _ _ (by kernel_rfl) (by kernel_rfl) hl)).trans (dep_of (Fact := F_optd X wr.heap.size ng gc q ga) hd 8 (by kernel_rfl))
                        refine wpList_on rfl (t := 85) (by kernel_rfl) eg ?_
                        have e := ((hF 90).trans (look_at _ 90 13 _ _ (by kernel_rfl) (by kernel_rfl) hl)).trans (dep_of (Fact := F_optd X wr.heap.size ng gc q ga) hd 13 (by kernel_rfl))
                        exact one_field _ _ _ rfl rfl _ _ e (1) (fun w => by kernel_rfl) ⟨_, rfl, Below.refl _ _, rfl⟩
                      · intro vs w' F hb hd hF hl hT
                        have eg := ((hF 85).trans (look_at _ 85 8 _ _ (by kernel_rfl) (by kernel_rfl) hl)).trans (dep_of (Fact := F_optd X wr.heap.size ng gc q ga) hd 8 (by kernel_rfl))
                        refine wpList_on rfl (t := 85) (by kernel_rfl) eg ?_
                        have e := ((hF 91).trans (look_at _ 91 14 _ _ (by kernel_rfl) (by kernel_rfl) hl)).trans (dep_of (Fact := F_optd X wr.heap.size ng gc q ga) hd 14 (by kernel_rfl))
                        exact one_load _ _ rfl rfl _ _ e (cell_abides XC1.out hb) (by kernel_rfl) ⟨_, rfl, Below.refl _ _, rfl⟩
                      · intro vs w' F hb hd hF hl hT
                        have eg := ((hF 85).trans (look_at _ 85 8 _ _ (by kernel_rfl) (by kernel_rfl) hl)).trans (dep_of (Fact := F_optd X wr.heap.size ng gc q ga) hd 8 (by kernel_rfl))
                        refine wpList_on rfl (t := 85) (by kernel_rfl) eg ?_
                        have e := ((hF 92).trans (look_at _ 92 15 _ _ (by kernel_rfl) (by kernel_rfl) hl)).trans (dep_of (Fact := F_optd X wr.heap.size ng gc q ga) hd 15 (by kernel_rfl))
                        exact rg_len _ 23 3 rfl rfl Tryz.underlying23 ga (ng) (gc) e ⟨_, rfl, Below.refl _ _, rfl⟩
                      · intro vs w' F hb hd hF hl hT
                        have eg := ((hF 85).trans (look_at _ 85 8 _ _ (by kernel_rfl) (by kernel_rfl) hl)).trans (dep_of (Fact := F_optd X wr.heap.size ng gc q ga) hd 8 (by kernel_rfl))
                        refine wpList_on rfl (t := 85) (by kernel_rfl) eg ?_
                        have e1 := ((hF 88).trans (look_at _ 88 11 _ _ (by kernel_rfl) (by kernel_rfl) hl)).trans (dep_of (Fact := F_optd X wr.heap.size ng gc q ga) hd 11 (by kernel_rfl))
                        have e2 := ((hF 93).trans (look_at _ 93 16 _ _ (by kernel_rfl) (by kernel_rfl) hl)).trans (dep_of (Fact := F_optd X wr.heap.size ng gc q ga) hd 16 (by kernel_rfl))
                        exact rg_geq _ _ _ _ rfl rfl .i64 ((q : Int)) ((ng : Int)) false e1 e2 (decide_eq_false (by omega)) ⟨_, rfl, Below.refl _ _, rfl⟩
                      · intro vs w' F hb hd hF hl hT
                        have ec := ((hF 85).trans (look_at _ 85 8 _ _ (by kernel_rfl) (by kernel_rfl) hl)).trans (dep_of (Fact := F_optd X wr.heap.size ng gc q ga) hd 8 (by kernel_rfl))
                        have e := ((hF 94).trans (look_at _ 94 17 _ _ (by kernel_rfl) (by kernel_rfl) hl)).trans (dep_of (Fact := F_optd X wr.heap.size ng gc q ga) hd 17 (by kernel_rfl))
                        exact one_pick_f _ _ _ rfl rfl _ ec e ⟨_, rfl, Below.refl _ _, rfl⟩
                    · intro vs8 W8 hl hb hI
                      have hv : vs8.getD 18 undef = .bool false := hI 18 (by omega)
                      obtain ⟨x0, x1, x2, x3, x4, x5, x6, x7, x8, x9, x10, x11, x12, x13, x14, x15, x16, x17, x18, hvs⟩ := list19 hl
                      subst hvs
                      replace hv : x18 = .bool false := hv
                      subst hv
                      clear hI hl
                      simp only [fillAll, Act.put, List.setIfInBounds_toArray, List.set_cons_succ, List.set_cons_zero]
                      show wpList _ _ _ [] _ _
                      obtain ⟨W6, hW6⟩ : ∃ W6, W6 = W8 := ⟨_, rfl⟩
                      subst hW6
                      have HB6 := Lib.hid hb
                      replace BC0 := Lib.hid (cell_abides BC0.out hb)
                      replace XC2 := Lib.hid (cell_abides XC2.out hb)
                      clear hb
                      go_wp2_with fail
                      refine wp_region_facts_t rfl 8 (by kernel_rfl) (F_opm X wr.heap.size b bm q) (F_opm_mono X wr.heap.size b bm q) ?_ ?_
                      · refine ⟨?_, ?_, ?_, ?_, ?_, ?_, ?_, ?_, trivial⟩
                        · intro vs w' F hb hd hF hl hT
                          have e := (hF 5).trans (look_out _ 5 _ _ (by kernel_rfl))
                          exact one_move _ rfl (by first | exact Or.inl rfl | exact Or.inr rfl) ⟨_, rfl, Below.refl _ _, e⟩
                        · intro vs w' F hb hd hF hl hT
                          have e := ((hF 96).trans (look_at _ 96 0 _ _ (by kernel_rfl) (by kernel_rfl) hl)).trans (dep_of (Fact := F_opm X wr.heap.size b bm q) hd 0 (by kernel_rfl))
                          exact one_nilCheck _ rfl rfl _ e ⟨_, rfl, Below.refl _ _, rfl⟩
                        · intro vs w' F hb hd hF hl hT
                          have e := ((hF 97).trans (look_at _ 97 1 _ _ (by kernel_rfl) (by kernel_rfl) hl)).trans (dep_of (Fact := F_opm X wr.heap.size b bm q) hd 1 (by kernel_rfl))
                          exact one_field _ _ _ rfl rfl _ _ e (2) (fun w => by kernel_rfl) ⟨_, rfl, Below.refl _ _, rfl⟩
                        · intro vs w' F hb hd hF hl hT
                          have e := ((hF 98).trans (look_at _ 98 2 _ _ (by kernel_rfl) (by kernel_rfl) hl)).trans (dep_of (Fact := F_opm X wr.heap.size b bm q) hd 2 (by kernel_rfl))
                          exact one_load _ _ rfl rfl _ _ e (cell_abides XC2.out hb) (by kernel_rfl) ⟨_, rfl, Below.refl _ _, rfl⟩
                        · intro vs w' F hb hd hF hl hT
                          have e := (hF 9).trans (look_out _ 9 _ _ (by kernel_rfl))
                          exact one_field _ _ _ rfl rfl _ _ e (0) (fun w => by kernel_rfl) ⟨_, rfl, Below.refl _ _, rfl⟩
                        · intro vs w' F hb hd hF hl hT
                          have e := ((hF 100).trans (look_at _ 100 4 _ _ (by kernel_rfl) (by kernel_rfl) hl)).trans (dep_of (Fact := F_opm X wr.heap.size b bm q) hd 4 (by kernel_rfl))
                          exact one_field _ _ _ rfl rfl _ _ e (0) (fun w => by kernel_rfl) ⟨_, rfl, Below.refl _ _, rfl⟩
                        · intro vs w' F hb hd hF hl hT
                          have e := ((hF 101).trans (look_at _ 101 5 _ _ (by kernel_rfl) (by kernel_rfl) hl)).trans (dep_of (Fact := F_opm X wr.heap.size b bm q) hd 5 (by kernel_rfl))
                          exact one_load _ _ rfl rfl _ _ e (cell_abides BC0.out hb) (by kernel_rfl) ⟨_, rfl, Below.refl _ _, rfl⟩
                        · intro vs w' F hb hd hF hl hT
                          have e := (hF 10).trans (look_out _ 10 _ _ (by kernel_rfl))
                          exact one_move _ rfl (by first | exact Or.inl rfl | exact Or.inr rfl) ⟨_, rfl, Below.refl _ _, e⟩
                      · intro vs8 W8 hl hb hI
                        have i3 : vs8.getD 3 undef = .map (some b) := hI 3 (by omega)
                        have i6 : vs8.getD 6 undef = .int .i64 (q : Int) := hI 6 (by omega)
                        have i7 : vs8.getD 7 undef = .map (some bm) := hI 7 (by omega)
                        obtain ⟨x0, x1, x2, x3, x4, x5, x6, x7, x8, hvs⟩ := list9 hl
                        subst hvs
                        replace i3 : x3 = .map (some b) := i3
                        replace i6 : x6 = .int .i64 (q : Int) := i6
                        replace i7 : x7 = .map (some bm) := i7
                        subst i3 i6 i7
                        have hbw8 : Below wr.heap.size wr W8 := bt HA5.out (bt HB6.out hb)
                        have HMI8 := Lib.hid (HMI.out.below (bt HB6.out hb))
                        have HBW8 := Lib.hid hbw8
                        obtain ⟨D, B, hown, hG⟩ := HMAP.out
                        have HG8 := Lib.hid hG
                        have hown8 : OwnV W8 b i D := hown.kept (row := none) (below_gn hbw8 _) (by simp)
                        have hkey := keyN_of (i := q) (by omega)
                        clear hI hl hb hbw8 hG hown
                        simp only [fillAll, Act.put, List.setIfInBounds_toArray, List.set_cons_succ, List.set_cons_zero, List.drop_succ_cons, List.drop_zero]
                        go_wp2_with (at_mapUpdate; go_must (refine wpList_mapUpdate_own _ rfl _ _ _ 94 rfl 3 37 keyInt Tryz.underlying94 RV b i D rfl hown8 (by have : maxLen = 9223372036854775807 := rfl; omega) (.int .i64 (q : Int)) _ (keyN q) rfl rfl hkey (.held _) [] rfl ?_); intro w9 hown9 hg9)
                        have hm9 : MapO w9 b b (i + 1) (updF G q MM) := MapO.put hown8 (fun j => ⟨(HG8.out j).1, (HG8.out j).2.1, fun F hF => by
                          obtain ⟨h1, h0, h2, ⟨m, h3⟩, h4⟩ := (HG8.out j).2.2 F hF
                          exact ⟨h1, h0, h2, ⟨m, h3.below HBW8.out⟩, h4⟩⟩) q MM bm nm HMI8.out (by have := HBM.out; have := HMAP.out.lt; omega) (by have := HBM.out; have := HMAP.out.lt; omega) (fun j F' h e => by
                            obtain ⟨_, _, _, ⟨m, h3⟩, _⟩ := (HG8.out j).2.2 F' h
                            have := h3.lt
                            have := HBM.out
                            omega) hown9 hg9
                        have HM9 := Lib.hid hm9
                        have HB9 := Lib.hid ((gb_below HB.out HBW8.out).trans hg9)
                        clear hm9 hown8 hown9 hg9 hkey
                        go_wp2
                        go_roundg (ni - (i + 1))
                        case measure => rw [G2.out]; omega
                        case rel => exact ⟨i + 1, _, hi, rfl, by go_num, HR.out, HM9.out, HB9.out⟩
            · obtain rfl : ni = i := by omega
              have hgo := HGO.out
              rw [List.drop_of_length_le (by rw [← NI.out]; exact Nat.le_refl _), openGo] at hgo
              have HOGG := Lib.hid hgo.symm
              obtain ⟨W3, hW3⟩ : ∃ W3, W3 = wr := ⟨_, rfl⟩
              subst hW3
              obtain ⟨D2, B2, hown2, _⟩ := HMO2.out
              have hgo3 := own_map HGO2.out hown2 HB.out
              have HNS3 := Lib.hid (show ∀ g, (Value.slice ga ng gc).ownBlock = some g → NoStr W3 g from fun g h i s => by
                rw [World.cell?_of_block (w := W2) (HB.out.block g (own_lt HGO2.out g h).2 (fun e => by have := HLT.out g h; injection e with e; omega))]
                exact HNS2.out g h i s)
              have HK3 := Lib.hid (kinds_gb HUK.out.now (nostr_map hown2) HB.out)
              have HGI3 := Lib.hid (IntsAt.of_own hgo3 NG.out)
              have HGO3 := Lib.hid hgo3
              have c1 := cell_of_row _ _ 1 _ _ _ HRXR.out
              clear hgo hown2 hgo3 HGO HUK HMO2 HGO2 G2
              go_wp2_with fail
              clear c1
              go_loopg [110, 12, 13] ng (fun gk v110 _ _ wx => ∃ i : Nat, i ≤ ng ∧ gk = ng - i ∧ v110 = .int .i64 i ∧ gensO y.gens G i = true ∧ Below W3.heap.size W3 wx)
              case atStart => exact ⟨0, Nat.zero_le _, rfl, rfl, rfl, Below.refl _ _⟩
              case round =>
                obtain ⟨i, hi0, g2, rfl, hgn, hb⟩ := hrel
                have G2 := Lib.hid g2
                have HGN := Lib.hid hgn
                have HB3 := Lib.hid hb
                have c2 := cell_of_row _ _ 2 _ _ _ (heap_below HRXR.out hb)
                clear g2 hgn hb
                by_cases hi : i < ng
                · obtain ⟨x, rfl, _, _⟩ := HGI3.out (by rw [← NG.out]; omega)
                  obtain ⟨xb, xo, rfl, hgc⟩ := ints_cell (HGI3.out.below HB3.out) i (by rw [← NG.out]; exact hi)
                  rw [Nat.mul_one] at hgc
                  obtain ⟨g, hgv⟩ : ∃ g, g = y.gens.getD i 0 := ⟨_, rfl⟩
                  have hs := gensO_succ y.gens G i
                  have hst := fun h => gensO_stays y.gens G (i + 1) h ng hi
                  rw [HGN.out, Bool.true_and, ← hgv] at hs
                  rw [← hgv] at hgc
                  have HS := Lib.hid hs
                  have HRT := Lib.hid (fun (b : Bool) (h1 : gensO y.gens G (i + 1) = b) (h2 : b = false) => show RE = 3 by
                    have h := FX.out
                    rw [HOGG.out] at h
                    replace h : RE = if gensO y.gens G y.gens.length = true ∧ sameB (closeV (openV y G)) y = true then 0 else 3 := h
                    rw [← NG.out, hst (by rw [h1, h2])] at h
                    rw [h, if_neg (by simp)])
                  obtain ⟨ob, hlk, hln, hls⟩ := MapO.look HMAP.out i (by omega)
                  have hlk2 := hlk wr HB3.out
                  have hq := fun wx => run_neq_map_nil (P := Tryz.prog) wx 37 _ _ ob Tryz.underlying37
                  have HLN := Lib.hid hln
                  have HLS := Lib.hid hls
                  clear hs hst hgv hlk hln hls
                  by_cases g1 : g < 0
                  · have HR := Lib.hid (HRT.out _ HS.out (by rw [decide_eq_false (by omega), Bool.false_and]))
                    clear hlk2 hq
                    go_wp2
                    go_ret2
                    exact ⟨Or.inl ⟨by rw [HR.out]; decide, by rw [HR.out]; rfl⟩, bt HBW.out HB3.out⟩
                  · by_cases g3 : 1073741824 < g
                    · have HR := Lib.hid (HRT.out _ HS.out (by rw [decide_eq_false (p := g ≤ 1073741824) (by omega), Bool.false_and, Bool.and_false]))
                      clear hlk2 hq
                      go_wp2
                      go_ret2
                      exact ⟨Or.inl ⟨by rw [HR.out]; decide, by rw [HR.out]; rfl⟩, bt HBW.out HB3.out⟩
                    · have hs := HS.out
                      rw [decide_eq_true (p := 0 ≤ g) (by omega), decide_eq_true (p := g ≤ 1073741824) (by omega), Bool.true_and, Bool.true_and] at hs
                      have HS2 := Lib.hid hs
                      clear hs
                      by_cases g4 : g = 1073741824
                      · cases hG : G i with
                        | none =>
                          obtain rfl := HLN.out hG
                          replace hq : ∀ wx, (binOp .neq 37 (.map none) (.map none)).run Tryz.prog wx = .ok (.bool false) wx := hq
                          have HN := Lib.hid (show gensO y.gens G (i + 1) = true by rw [HS2.out, hG]; simp)
                          subst g4
                          clear hG
                          go_wp2
                          go_roundg (ng - (i + 1))
                          case measure => rw [G2.out]; omega
                          case rel => exact ⟨i + 1, hi, rfl, by go_num, HN.out, HB3.out⟩
                        | some PF =>
                          obtain ⟨bi, m, rfl, _⟩ := HLS.out PF hG
                          replace hq : ∀ wx, (binOp .neq 37 (.map (some bi)) (.map none)).run Tryz.prog wx = .ok (.bool true) wx := hq
                          have HR := Lib.hid (HRT.out _ HS2.out (by rw [hG, g4]; rfl))
                          subst g4
                          clear hG
                          go_wp2
                          go_ret2
                          exact ⟨Or.inl ⟨by rw [HR.out]; decide, by rw [HR.out]; rfl⟩, bt HBW.out HB3.out⟩
                      · have HN := Lib.hid (show gensO y.gens G (i + 1) = true by rw [HS2.out, decide_eq_false g4]; rfl)
                        clear hlk2 hq
                        go_wp2
                        go_roundg (ng - (i + 1))
                        case measure => rw [G2.out]; omega
                        case rel => exact ⟨i + 1, hi, rfl, by go_num, HN.out, HB3.out⟩
                · obtain rfl : ng = i := by omega
                  have hbw := bt HBW.out HB3.out
                  have HFL := Lib.hid (show FlatOwn wr W.heap.size X (openV y G) from ⟨ka, kc, _, b, _, by
                      rw [show (openV y G).kinds.length = nk from NK.out.symm]; exact heap_below HRXR.out HB3.out, HK3.out.below KindAt.abides HB3.out, by
                      rw [show (openV y G).gens.length = ng from NG.out.symm]; exact own_below HGO3.out HB3.out, HMAP.out.below HB3.out, by have := HWB.out; have := HXB.out; omega, by have := HWB.out; omega, s3, fun g h => ⟨HLT.out g h, (HNS3.out g h).below (own_lt HGO3.out g h).2 HB3.out⟩, by rw [show (openV y G).kinds.length = nk from NK.out.symm]; exact HKC.out.1, HKC.out.2⟩)
                  have hSG : SmallG 1048576 G := openGo_small y.kinds ng 1048576 y.items (fun _ => none) G (fun x hx c hc => (S4.out x hx).2 c hc) (fun i F h => by cases h) (by rw [← HOG.out]; exact HOGG.out)
                  have hSW := close_small (f := openV y G) (show y.kinds.length ≤ 1048576 by rw [← NK.out]; exact s1) (show y.gens.length ≤ 1048576 by rw [← NG.out]; exact s2) hSG
                  obtain ⟨CV, hCV⟩ : ∃ CV, CV = closeV (openV y G) := ⟨_, rfl⟩
                  have HCC := Lib.hid (fun w' (hb : Below wr.heap.size wr w') => flat_Close (openV y G) X w' (HFL.out.flat.below2 hb) (show y.kinds.length ≤ 1048576 by rw [← NK.out]; exact s1) HKF.out (show y.gens.length ≤ 1048576 by rw [← NG.out]; exact s2) (fun i F h => hSG i F h))
                  obtain ⟨SB, hSB⟩ : ∃ SB, SB = sameB CV y := ⟨_, rfl⟩
                  rw [← hCV] at HCC hSW
                  have HCS := Lib.hid (fun w' (hb : Below wr.heap.size wr w') u (hu : WorldIn w' u CV) => ref_SameWorld CV y u _ w' hu (HV0.out.below (hbw.trans (hb.mono hbw.size))) hSW HSM.out)
                  rw [← hSB] at HCS
                  have HRR := Lib.hid (show RE = if SB = true then 0 else 3 by
                    have h := FX.out
                    rw [HOGG.out] at h
                    replace h : RE = if gensO y.gens G y.gens.length = true ∧ sameB (closeV (openV y G)) y = true then 0 else 3 := h
                    rw [← NG.out, HGN.out, ← hCV, ← hSB] at h
                    rw [h]
                    simp)
                  have HBXE := Lib.hid (heap_below HBXR.out HB3.out)
                  have HBE := Lib.hid hbw
                  clear hSG hSW hCV hSB hbw c2
                  go_wp2_with fail
                  refine wp_region_facts_t rfl 5 (by kernel_rfl) (F_ops X W.heap.size nk ck ng cg ni ci ak ag ai CV SB) (F_ops_mono X W.heap.size nk ck ng cg ni ci ak ag ai CV SB) ?_ ?_
                  · refine ⟨?_, ?_, ?_, ?_, ?_, trivial⟩
                    · intro vs w' F hb hd hF hl hT
                      have e := (hF 5).trans (look_out _ 5 _ _ (by kernel_rfl))
                      exact one_move _ rfl (by first | exact Or.inl rfl | exact Or.inr rfl) ⟨_, rfl, Below.refl _ _, e⟩
                    · intro vs w' F hb hd hF hl hT
                      have e1 := (((hF 135).trans (look_at _ 135 0 _ _ (by kernel_rfl) (by kernel_rfl) hl)).trans (dep_of (Fact := F_ops X W.heap.size nk ck ng cg ni ci ak ag ai CV SB) hd 0 (by kernel_rfl)))
                      refine one_call _ _ rfl rfl (enters_of Tryz.func52 (by kernel_rfl) rfl) #[.pointer (some ⟨X, 0, none⟩)] (eval1 e1) ?_
                      refine (HCC.out w' hb).mono ?_
                      rintro e2 w2 ⟨⟨u2, rfl, hu⟩, hb2⟩
                      exact ⟨_, rfl, _, rfl, hb2, hu⟩
                    · intro vs w' F hb hd hF hl hT
                      have e := (hF 1).trans (look_out _ 1 _ _ (by kernel_rfl))
                      exact rg_load 26 _ rfl rfl (W.heap.size) (0) [.slice ak nk ck, .slice ag ng cg, .slice ai ni ci] e (CellsK.row (heap_below HBXE.out hb)) _ Tryz.underlying26 rfl (by kernel_rfl) ⟨_, rfl, Below.refl _ _, rfl⟩
                    · intro vs w' F hb hd hF hl hT
                      have hw := (dep_of (Fact := F_ops X W.heap.size nk ck ng cg ni ci ak ag ai CV SB) hd 1 (by kernel_rfl))
                      have e1 := ((hF 136).trans (look_at _ 136 1 _ _ (by kernel_rfl) (by kernel_rfl) hl))
                      have e2 := (((hF 137).trans (look_at _ 137 2 _ _ (by kernel_rfl) (by kernel_rfl) hl)).trans (dep_of (Fact := F_ops X W.heap.size nk ck ng cg ni ci ak ag ai CV SB) hd 2 (by kernel_rfl)))
                      refine one_call _ _ rfl rfl (enters_of Tryz.func51 (by kernel_rfl) rfl) #[vs.getD 1 undef, .agg #[.slice ak nk ck, .slice ag ng cg, .slice ai ni ci]] (eval2 e1 e2) ?_
                      refine (HCS.out w' hb _ hw).mono ?_
                      rintro e2 w2 ⟨rfl, hb2⟩
                      exact ⟨_, rfl, _, rfl, hb2, rfl⟩
                    · intro vs w' F hb hd hF hl hT
                      have e := ((hF 138).trans (look_at _ 138 3 _ _ (by kernel_rfl) (by kernel_rfl) hl)).trans (dep_of (Fact := F_ops X W.heap.size nk ck ng cg ni ci ak ag ai CV SB) hd 3 (by kernel_rfl))
                      exact one_not _ _ rfl rfl _ (!SB) e rfl ⟨_, rfl, Below.refl _ _, rfl⟩
                  · intro vs8 W8 hl hb hI
                    have i4 : vs8.getD 4 undef = .bool (!SB) := hI 4 (by omega)
                    obtain ⟨x0, x1, x2, x3, x4, hvs⟩ := list5 hl
                    subst hvs
                    replace i4 : x4 = .bool (!SB) := i4
                    subst i4
                    have HB9 := Lib.hid hb
                    clear hI hl hb HCC HCS
                    simp only [fillAll, Act.put, List.setIfInBounds_toArray, List.set_cons_succ, List.set_cons_zero]
                    show wpList _ _ _ [] _ _
                    cases SB with
                    | false =>
                      have HR := Lib.hid (show RE = 3 by rw [HRR.out]; rfl)
                      go_wp2
                      go_ret2
                      exact ⟨Or.inl ⟨by rw [HR.out]; decide, by rw [HR.out]; rfl⟩, bt HBE.out HB9.out⟩
                    | true =>
                      have HR := Lib.hid (show RE = 0 by rw [HRR.out]; rfl)
                      go_wp2
                      go_ret2
                      exact ⟨Or.inr ⟨HR.out, X, G, HOGG.out, rfl, HFL.out.below HB9.out⟩, bt HBE.out HB9.out⟩
  · have t0 : (KE != 0) = true := by rw [bne_iff_ne]; exact hke
    have hr := F1.out hke
    have HR := Lib.hid hr
    clear hr
    go_wp2
    go_ret2
    exact ⟨Or.inl ⟨by rw [HR.out]; exact hke, by rw [HR.out]; rfl⟩, HB.out⟩
end Go.Proofs.YtfckbkhnelgjbaaGreatDoor
end
