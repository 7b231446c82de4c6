/- Lemmas for the law TopDigestPlace: TDPlace. No conditions. -/
import Derived.Test.YtncnbfefciobcaaM18
import Derived.Test.YtncnbfefciobcaaM23
import Derived.Test.YtncnbfefciobcaaM24
import Derived.Test.YtncnbfefciobcaaM19
import Derived.Test.YtncnbfefciobcaaM04
import Derived.Deep.DeepCutAuto
/- The law TopDigestPlace: by program (gen_tdplace.py). -/
section
namespace Go.Proofs.Ytncnbfefciobcaa
open Go.ChangeShapes Go.WideShapes Go.ChangeAt Go.RowKit Go.Nm Go.Mem Go.Mk
set_option linter.unusedVariables false
theorem eval5 {F : Act} {x y z u v : Operand} {a b c d e : Value} (hx : F.eval x = a) (hy : F.eval y = b) (hz : F.eval z = c) (hu : F.eval u = d) (hv : F.eval v = e) : #[x, y, z, u, v].map F.eval = #[a, b, c, d, e] := by simp [hx, hy, hz, hu, hv]
theorem ints_cellT {w : World} {a : Option Addr} {l : List Int} (h : IntsAt .u64 w a l) (i : Nat) (hi : i < l.length) : ∃ ab ao, a = some ⟨ab, ao, none⟩ ∧ w.cell? ⟨ab, ao + i * 1, none⟩ = some (.int .u64 (l.getD i 0)) := by
  obtain ⟨x, rfl, _, hc⟩ := h (by omega)
  obtain ⟨xb, xo, sp⟩ := x
  have hsp : sp = none := by
    have f0 := hc 0 (by omega)
    simpa [Addr.add] using World.cell?_spot f0
  subst hsp
  refine ⟨xb, xo, rfl, ?_⟩
  have f := hc i hi
  rw [Nat.mul_one]
  have e : (⟨xb, xo, none⟩ : Addr).add i = ⟨xb, xo + i, none⟩ := by simp [Addr.add]
  rw [e] at f
  exact f
theorem leaf_small {y : WorldV} (h : FineW y) (hw : ∀ t ∈ y.items, (leafI t).length ≤ 100000) : ∀ t ∈ y.items, (leafI t).length ≤ 100000 ∧ t.comps.length ≤ 100000 := fun t ht => ⟨hw t ht, by
  have h1 := hw t ht
  have h2 : t.comps.length ≤ (t.comps.map compI).flatten.length := by
    generalize t.comps = cs
    induction cs with
    | nil => exact Nat.zero_le _
    | cons c r ih =>
      rw [List.map_cons, List.flatten_cons, List.length_append, List.length_cons]
      have : 1 ≤ (compI c).length := by unfold compI; simp
      omega
  unfold leafI at h1
  rw [List.length_append] at h1
  omega⟩
theorem wok_leaf {y : WorldV} (h : WOk y) : ∀ t ∈ y.items, (leafI t).length ≤ 100000 := fun t ht => by
  obtain ⟨hk, _, _, _, _, _, _, hi⟩ := h
  obtain ⟨_, _, _, hc⟩ := hi t ht
  have h5 := hc.1
  have h4 := hk.1
  have key : ∀ cs : List CompV, (∀ c ∈ cs, c.vals.length ≤ 3) → (cs.map compI).flatten.length ≤ 5 * cs.length := by
    intro cs
    induction cs with
    | nil => intro _; exact Nat.le_refl _
    | cons c r ih =>
      intro hh
      have h1 := ih (fun x hx => hh x (List.mem_cons_of_mem _ hx))
      have h2 := hh c (List.mem_cons_self ..)
      rw [List.map_cons, List.flatten_cons, List.length_append, List.length_cons]
      have : (compI c).length = c.vals.length + 2 := by unfold compI; simp
      omega
  have := key t.comps (comp_small' hk hc)
  unfold leafI
  rw [List.length_append]
  simp only [List.length_cons, List.length_nil]
  omega
theorem leaves_in (y : WorldV) (A : List Int) (m : Nat) (hm : y.items.length = m) (h1 : m ≤ 4096) (hb : ∀ t ∈ y.items, (leafI t).length ≤ 100000 ∧ t.comps.length ≤ 100000) (hA : A = y.items.map leafD) (v : Value) (W : World) (hv : WorldIn W v y) : Calls Try.prog 9 #[v] W fun e w' => (∃ a c, e = .returned (.slice a m c) ∧ IntsAt .u64 w' a A) ∧ Below W.heap.size W w' := by
  obtain ⟨ak, ck, ag, cg, ai, ci, rfl, _, _, h3, _, _⟩ := hv
  rw [hm]
  refine (h6_leaves y.items m hm h1 hb _ _ ai ci W h3).mono ?_
  rintro e w' ⟨⟨a, c, rfl, _, _, h⟩, hbb⟩
  exact ⟨⟨a, c, rfl, by rw [hA]; exact h⟩, hbb⟩
theorem list7t {α : Type} {vs : List α} (h : vs.length = 7) : ∃ x0 x1 x2 x3 x4 x5 x6, vs = [x0, x1, x2, x3, x4, x5, x6] := by
  obtain ⟨x0, t0, rfl, h0⟩ := cons_of h
  obtain ⟨x1, t1, rfl, h1⟩ := cons_of h0
  obtain ⟨x2, t2, rfl, h2⟩ := cons_of h1
  obtain ⟨x3, t3, rfl, h3⟩ := cons_of h2
  obtain ⟨x4, t4, rfl, h4⟩ := cons_of h3
  obtain ⟨x5, t5, rfl, h5⟩ := cons_of h4
  obtain ⟨x6, t6, rfl, h6⟩ := cons_of h5
  exact ⟨x0, x1, x2, x3, x4, x5, x6, by rw [List.eq_nil_of_length_eq_zero h6]⟩
def F_td6 (y : WorldV) (b7 nk ck ng cg ni ci dy : Nat) (ak ag ai : Option Addr) (jq : Nat) (v : Value) (w : World) : Prop :=
  match jq with
  | 0 => v = .agg #[.slice ak nk ck, .slice ag ng cg, .slice ai ni ci]
  | 1 => v = .int .u64 (dy : Int)
  | 2 => v = .agg #[.slice ak nk ck, .slice ag ng cg, .slice ai ni ci]
  | 3 => WorldIn w v y
  | 4 => v = .int .u64 (dy : Int)
  | 5 => v = .bool true
  | 6 => v = .bool true
  | _ => True
theorem F_td6_mono (y : WorldV) (b7 nk ck ng cg ni ci dy : Nat) (ak ag ai : Option Addr) : Facts (F_td6 y  b7 nk ck ng cg ni ci dy  ak ag ai ) := ⟨by
  intro jq v w w' h hb
  unfold F_td6 at h ⊢
  split at h
  all_goals first
    | exact h
    | exact h.below hb
    | trivial⟩
theorem list6t {α : Type} {vs : List α} (h : vs.length = 6) : ∃ x0 x1 x2 x3 x4 x5, vs = [x0, x1, x2, x3, x4, x5] := by
  obtain ⟨x0, t0, rfl, h0⟩ := cons_of h
  obtain ⟨x1, t1, rfl, h1⟩ := cons_of h0
  obtain ⟨x2, t2, rfl, h2⟩ := cons_of h1
  obtain ⟨x3, t3, rfl, h3⟩ := cons_of h2
  obtain ⟨x4, t4, rfl, h4⟩ := cons_of h3
  obtain ⟨x5, t5, rfl, h5⟩ := cons_of h4
  exact ⟨x0, x1, x2, x3, x4, x5, by rw [List.eq_nil_of_length_eq_zero h5]⟩
def F_td7 (A B : List Int) (b7 b8 m nk ck ng cg ci nk2 ck2 ng2 cg2 ci2 : Nat) (ak ag ai ak2 ag2 ai2 : Option Addr) (jq : Nat) (v : Value) (w : World) : Prop :=
  match jq with
  | 0 => v = .agg #[.slice ak nk ck, .slice ag ng cg, .slice ai m ci]
  | 1 => ∃ u cc, v = .slice u m cc ∧ IntsAt .u64 w u A
  | 2 => v = .agg #[.slice ak2 nk2 ck2, .slice ag2 ng2 cg2, .slice ai2 m ci2]
  | 3 => ∃ u cc, v = .slice u m cc ∧ IntsAt .u64 w u B
  | 4 => ∃ u cc, v = .slice u m cc ∧ IntsAt .u64 w u A
  | 5 => ∃ u cc, v = .slice u m cc ∧ IntsAt .u64 w u B
  | _ => True
theorem F_td7_mono (A B : List Int) (b7 b8 m nk ck ng cg ci nk2 ck2 ng2 cg2 ci2 : Nat) (ak ag ai ak2 ag2 ai2 : Option Addr) : Facts (F_td7 A B  b7 b8 m nk ck ng cg ci nk2 ck2 ng2 cg2 ci2  ak ag ai ak2 ag2 ai2 ) := ⟨by
  intro jq v w w' h hb
  unfold F_td7 at h ⊢
  split at h
  all_goals first
    | exact h
    | (obtain ⟨u, cc, e, h2⟩ := h; exact ⟨u, cc, e, h2.below hb⟩)
    | trivial⟩
theorem list64t {α : Type} {vs : List α} (h : vs.length = 64) : ∃ x0 x1 x2 x3 x4 x5 x6 x7 x8 x9 x10 x11 x12 x13 x14 x15 x16 x17 x18 x19 x20 x21 x22 x23 x24 x25 x26 x27 x28 x29 x30 x31 x32 x33 x34 x35 x36 x37 x38 x39 x40 x41 x42 x43 x44 x45 x46 x47 x48 x49 x50 x51 x52 x53 x54 x55 x56 x57 x58 x59 x60 x61 x62 x63, vs = [x0, x1, x2, x3, x4, x5, x6, x7, x8, x9, x10, x11, x12, x13, x14, x15, x16, x17, x18, x19, x20, x21, x22, x23, x24, x25, x26, x27, x28, x29, x30, x31, x32, x33, x34, x35, x36, x37, x38, x39, x40, x41, x42, x43, x44, x45, x46, x47, x48, x49, x50, x51, x52, x53, x54, x55, x56, x57, x58, x59, x60, x61, x62, x63] := by
  obtain ⟨x0, t0, rfl, h0⟩ := cons_of h
  obtain ⟨x1, t1, rfl, h1⟩ := cons_of h0
  obtain ⟨x2, t2, rfl, h2⟩ := cons_of h1
  obtain ⟨x3, t3, rfl, h3⟩ := cons_of h2
  obtain ⟨x4, t4, rfl, h4⟩ := cons_of h3
  obtain ⟨x5, t5, rfl, h5⟩ := cons_of h4
  obtain ⟨x6, t6, rfl, h6⟩ := cons_of h5
  obtain ⟨x7, t7, rfl, h7⟩ := cons_of h6
  obtain ⟨x8, t8, rfl, h8⟩ := cons_of h7
  obtain ⟨x9, t9, rfl, h9⟩ := cons_of h8
  obtain ⟨x10, t10, rfl, h10⟩ := cons_of h9
  obtain ⟨x11, t11, rfl, h11⟩ := cons_of h10
  obtain ⟨x12, t12, rfl, h12⟩ := cons_of h11
  obtain ⟨x13, t13, rfl, h13⟩ := cons_of h12
  obtain ⟨x14, t14, rfl, h14⟩ := cons_of h13
  obtain ⟨x15, t15, rfl, h15⟩ := cons_of h14
  obtain ⟨x16, t16, rfl, h16⟩ := cons_of h15
  obtain ⟨x17, t17, rfl, h17⟩ := cons_of h16
  obtain ⟨x18, t18, rfl, h18⟩ := cons_of h17
  obtain ⟨x19, t19, rfl, h19⟩ := cons_of h18
  obtain ⟨x20, t20, rfl, h20⟩ := cons_of h19
  obtain ⟨x21, t21, rfl, h21⟩ := cons_of h20
  obtain ⟨x22, t22, rfl, h22⟩ := cons_of h21
  obtain ⟨x23, t23, rfl, h23⟩ := cons_of h22
  obtain ⟨x24, t24, rfl, h24⟩ := cons_of h23
  obtain ⟨x25, t25, rfl, h25⟩ := cons_of h24
  obtain ⟨x26, t26, rfl, h26⟩ := cons_of h25
  obtain ⟨x27, t27, rfl, h27⟩ := cons_of h26
  obtain ⟨x28, t28, rfl, h28⟩ := cons_of h27
  obtain ⟨x29, t29, rfl, h29⟩ := cons_of h28
  obtain ⟨x30, t30, rfl, h30⟩ := cons_of h29
  obtain ⟨x31, t31, rfl, h31⟩ := cons_of h30
  obtain ⟨x32, t32, rfl, h32⟩ := cons_of h31
  obtain ⟨x33, t33, rfl, h33⟩ := cons_of h32
  obtain ⟨x34, t34, rfl, h34⟩ := cons_of h33
  obtain ⟨x35, t35, rfl, h35⟩ := cons_of h34
  obtain ⟨x36, t36, rfl, h36⟩ := cons_of h35
  obtain ⟨x37, t37, rfl, h37⟩ := cons_of h36
  obtain ⟨x38, t38, rfl, h38⟩ := cons_of h37
  obtain ⟨x39, t39, rfl, h39⟩ := cons_of h38
  obtain ⟨x40, t40, rfl, h40⟩ := cons_of h39
  obtain ⟨x41, t41, rfl, h41⟩ := cons_of h40
  obtain ⟨x42, t42, rfl, h42⟩ := cons_of h41
  obtain ⟨x43, t43, rfl, h43⟩ := cons_of h42
  obtain ⟨x44, t44, rfl, h44⟩ := cons_of h43
  obtain ⟨x45, t45, rfl, h45⟩ := cons_of h44
  obtain ⟨x46, t46, rfl, h46⟩ := cons_of h45
  obtain ⟨x47, t47, rfl, h47⟩ := cons_of h46
  obtain ⟨x48, t48, rfl, h48⟩ := cons_of h47
  obtain ⟨x49, t49, rfl, h49⟩ := cons_of h48
  obtain ⟨x50, t50, rfl, h50⟩ := cons_of h49
  obtain ⟨x51, t51, rfl, h51⟩ := cons_of h50
  obtain ⟨x52, t52, rfl, h52⟩ := cons_of h51
  obtain ⟨x53, t53, rfl, h53⟩ := cons_of h52
  obtain ⟨x54, t54, rfl, h54⟩ := cons_of h53
  obtain ⟨x55, t55, rfl, h55⟩ := cons_of h54
  obtain ⟨x56, t56, rfl, h56⟩ := cons_of h55
  obtain ⟨x57, t57, rfl, h57⟩ := cons_of h56
  obtain ⟨x58, t58, rfl, h58⟩ := cons_of h57
  obtain ⟨x59, t59, rfl, h59⟩ := cons_of h58
  obtain ⟨x60, t60, rfl, h60⟩ := cons_of h59
  obtain ⟨x61, t61, rfl, h61⟩ := cons_of h60
  obtain ⟨x62, t62, rfl, h62⟩ := cons_of h61
  obtain ⟨x63, t63, rfl, h63⟩ := cons_of h62
  exact ⟨x0, x1, x2, x3, x4, x5, x6, x7, x8, x9, x10, x11, x12, x13, x14, x15, x16, x17, x18, x19, x20, x21, x22, x23, x24, x25, x26, x27, x28, x29, x30, x31, x32, x33, x34, x35, x36, x37, x38, x39, x40, x41, x42, x43, x44, x45, x46, x47, x48, x49, x50, x51, x52, x53, x54, x55, x56, x57, x58, x59, x60, x61, x62, x63, by rw [List.eq_nil_of_length_eq_zero h63]⟩
def F_td12 (b7 b8 at_ m ab ao bb2 bo ca cb pn pc nk ck ng cg ci nk2 ck2 ng2 cg2 ci2 ra rb x x' dy dz : Nat) (ak ag ai ak2 ag2 ai2 pa : Option Addr) (jq : Nat) (v : Value) (w : World) : Prop :=
  match jq with
  | 0 => v = .agg #[.slice ak2 nk2 ck2, .slice ag2 ng2 cg2, .slice ai2 m ci2]
  | 1 => v = .int .i64 0
  | 2 => v = .bool true
  | 3 => v = .bool true
  | 4 => v = .agg #[.slice ak nk ck, .slice ag ng cg, .slice ai m ci]
  | 5 => v = .int .u64 (dy : Int)
  | 6 => v = .agg #[.slice ak2 nk2 ck2, .slice ag2 ng2 cg2, .slice ai2 m ci2]
  | 7 => v = .int .u64 (dz : Int)
  | 8 => v = .bool true
  | 9 => v = .bool true
  | 10 => v = .bool true
  | 11 => v = .agg #[.slice ak nk ck, .slice ag ng cg, .slice ai m ci]
  | 12 => v = .agg #[.slice ak2 nk2 ck2, .slice ag2 ng2 cg2, .slice ai2 m ci2]
  | 13 => v = .bool false
  | 14 => v = .bool true
  | 15 => v = .bool true
  | 16 => v = .bool true
  | 17 => v = .int .i64 (at_ : Int)
  | 18 => v = .int .i64 (at_ : Int)
  | 19 => v = .bool true
  | 20 => v = .bool true
  | 21 => v = .bool true
  | 22 => v = .int .i64 0
  | 23 => v = .bool true
  | 24 => v = .bool true
  | 25 => v = .bool true
  | 26 => v = .int .i64 0
  | 27 => v = .bool true
  | 28 => v = .bool true
  | 29 => v = .bool true
  | 30 => v = .int .i64 0
  | 31 => v = .bool true
  | 32 => v = .bool true
  | 33 => v = .bool true
  | 34 => v = .int .u64 (ra : Int)
  | 35 => v = .int .u64 (rb : Int)
  | 36 => v = .bool true
  | 37 => v = .bool true
  | 38 => v = .bool true
  | 39 => v = .int .u64 (ra : Int)
  | 40 => v = .slice (some ⟨ab, ao, none⟩) m ca
  | 41 => v = .int .i64 (m : Int)
  | 42 => v = .int .i64 (at_ : Int)
  | 43 => v = .slice (some ⟨ab, ao, none⟩) m ca
  | 44 => v = .int .i64 (at_ : Int)
  | 45 => v = .pointer (some ⟨ab, ao + at_ * 1, none⟩)
  | 46 => v = .int .u64 (x : Int)
  | 47 => v = .slice pa pn pc
  | 48 => v = .bool true
  | 49 => v = .bool true
  | 50 => v = .bool true
  | 51 => v = .int .u64 (ra : Int)
  | 52 => v = .slice (some ⟨ab, ao, none⟩) m ca
  | 53 => v = .int .i64 (m : Int)
  | 54 => v = .int .i64 (at_ : Int)
  | 55 => v = .slice (some ⟨bb2, bo, none⟩) m cb
  | 56 => v = .int .i64 (at_ : Int)
  | 57 => v = .pointer (some ⟨bb2, bo + at_ * 1, none⟩)
  | 58 => v = .int .u64 (x' : Int)
  | 59 => v = .slice pa pn pc
  | 60 => v = .bool false
  | 61 => v = .bool true
  | 62 => v = .bool true
  | 63 => v = .bool true
  | _ => True
theorem F_td12_mono (b7 b8 at_ m ab ao bb2 bo ca cb pn pc nk ck ng cg ci nk2 ck2 ng2 cg2 ci2 ra rb x x' dy dz : Nat) (ak ag ai ak2 ag2 ai2 pa : Option Addr) : Facts (F_td12 b7 b8 at_ m ab ao bb2 bo ca cb pn pc nk ck ng cg ci nk2 ck2 ng2 cg2 ci2 ra rb x x' dy dz  ak ag ai ak2 ag2 ai2 pa ) := ⟨by
  intro jq v w w' h hb
  unfold F_td12 at h ⊢
  split at h
  all_goals first
    | exact h
    | trivial⟩
set_option maxHeartbeats 8000000 in
set_option maxRecDepth 100000 in
theorem walk_TopDigestPlace (l : List Int) (a : Option Addr) (n c : Nat) (hn : l.length = n) (hc : n ≤ c) (hm : c ≤ 9223372036854775807) (i0 b : Int) (W : World) (hi : IntsAt .i64 W a l) (hbk : ∀ x, a = some x → x.block < W.heap.size) : Calls Try.prog 3 #[.slice a n c, .int .i64 i0, .int .i64 b] W fun e w' => e = .returned (.bool true) ∧ Below W.heap.size W w' := by
  have HI := Lib.hid hi
  have HBK := Lib.hid hbk
  have HN := Lib.hid (And.intro hn (And.intro hc hm))
  have C0 := Lib.hid (h6_begun W)
  clear hi hbk hn hc hm
  go_enter Try.func3, Try.ntmps3
  go_wp2_with fail
  refine C0.out.mono ?_
  rintro e w1 ⟨rfl, hb1⟩
  have HB1 := Lib.hid hb1
  have C1 := Lib.hid (tm_World l a n c HN.out.1 HN.out.2.1 HN.out.2.2 w1 (HI.out.below hb1) (fun x hx => Nat.lt_of_lt_of_le (HBK.out x hx) hb1.size))
  clear hb1 C0
  go_wp2_with fail
  refine C1.out.mono ?_
  rintro e w2 ⟨y, v, rfl, hv, hy, hb2⟩
  have hv0 := hv
  obtain ⟨ak, ck, ag, cg, ai, ci, rfl, hzk, hzg, hzi, hck, hckm⟩ := hv
  obtain ⟨nk, hnk⟩ : ∃ x, x = y.kinds.length := ⟨_, rfl⟩
  obtain ⟨ng, hng⟩ : ∃ x, x = y.gens.length := ⟨_, rfl⟩
  obtain ⟨ni, hni⟩ : ∃ x, x = y.items.length := ⟨_, rfl⟩
  rw [← hnk, ← hng, ← hni] at hv0 ⊢
  rw [← hnk] at hck
  have hba := (Below.refl w2.heap.size w2).alloc (Nat.le_refl _) (.cells #[.slice ak nk ck, .slice ag ng cg, .slice ai ni ci] 27)
  have hr7 := heap_alloc_new w2 (.cells #[.slice ak nk ck, .slice ag ng cg, .slice ai ni ci] 27)
  obtain ⟨w3, hw3⟩ : ∃ w, w = w2.alloc (.cells #[.slice ak nk ck, .slice ag ng cg, .slice ai ni ci] 27) := ⟨_, rfl⟩
  obtain ⟨b7, hb7⟩ : ∃ x, x = w2.heap.size := ⟨_, rfl⟩
  rw [← hw3] at hba hr7
  rw [← hb7] at hr7
  have q0 := cell_of_row _ _ 0 _ _ _ hr7
  have q1 := cell_of_row _ _ 1 _ _ _ hr7
  have q2 := cell_of_row _ _ 2 _ _ _ hr7
  have CC := Lib.hid (h6_changed y hy i0 b ak ag ai nk ck ng cg ni ci hnk.symm hng.symm hni.symm hck hckm w3 (hzk.below KindAt.abides hba) (hzg.below hba) (hzi.below ItemAt.abides hba))
  have HW3 := Lib.hid (And.intro hw3 hb7)
  have HR7 := Lib.hid hr7
  have HY := Lib.hid hy
  have HV3 := Lib.hid (hv0.below hba)
  have HB3 := Lib.hid (bt (bt HB1.out hb2) hba)
  have HNI := Lib.hid hni
  clear hzk hzg hzi hck hckm hnk hng hni hba hr7 hw3 hb7 hv0 hy hb2 C1 HB1
  go_wp2_with (rw [← HW3.out.1, ← HW3.out.2])
  try rw [← HW3.out.1, ← HW3.out.2]
  refine CC.out.mono ?_
  rintro e w4 ⟨hcase, hb4⟩
  have HR74 := Lib.hid (heap_below HR7.out hb4)
  have HV4 := Lib.hid (HV3.out.below hb4)
  have HB4 := Lib.hid (bt HB3.out hb4)
  clear q0 q1 q2 CC hb4 HW3 HR7 HV3 HB3
  rcases hcase with ⟨h0, rfl⟩ | ⟨hpos, v', rfl, hv'⟩
  · have hba := (Below.refl w4.heap.size w4).alloc (Nat.le_refl _) (.cells #[.slice none 0 0, .slice none 0 0, .slice none 0 0] 27)
    obtain ⟨w5, hw5⟩ : ∃ w, w = w4.alloc (.cells #[.slice none 0 0, .slice none 0 0, .slice none 0 0] 27) := ⟨_, rfl⟩
    rw [← hw5] at hba
    have HW5 := Lib.hid hw5
    have HR75 := Lib.hid (heap_below HR74.out hba)
    have HV5 := Lib.hid (HV4.out.below hba)
    have HB5 := Lib.hid (bt HB4.out hba)
    obtain ⟨dy, hdy⟩ : ∃ d, d = dig (intsW y) := ⟨_, rfl⟩
    have CD := Lib.hid (fun w' (hb : Below w5.heap.size w5 w') => world_Digest y _ w' (HV5.out.below hb) HY.out.fine (by have := HY.out.fine.tot; omega))
    rw [← hdy] at CD
    have HDY := Lib.hid hdy
    have CP := Lib.hid (fun w' (hb : Below w5.heap.size w5 w') => world_Copy y _ w' (HV5.out.below hb) HY.out.small (fun k hk => (HY.out.fine.k k hk).2.1))
    clear hba hw5 h0 hdy HR74 HV4 HB4
    go_upto_region 6 with fail
    rw [← HW5.out]
    refine wp_region_facts_t rfl 7 (by kernel_rfl) (F_td6 y b7 nk ck ng cg ni ci dy ak ag ai) (F_td6_mono y b7 nk ck ng cg ni ci dy ak ag ai) ?_ ?_
    · refine ⟨?_, ?_, ?_, ?_, ?_, ?_, ?_, trivial⟩
      · intro vs w' F hb hd hF hl hT
        have e := (hF 7).trans (look_out _ 7 _ _ (by kernel_rfl))
        exact rg_load 27 _ rfl rfl (b7) (0) [.slice ak nk ck, .slice ag ng cg, .slice ai ni ci] e (CellsK.row (heap_below HR75.out hb)) _ Try.underlying27 rfl (by kernel_rfl) ⟨_, rfl, Below.refl _ _, rfl⟩
      · intro vs w' F hb hd hF hl hT
        have ea0 := ((hF 35).trans (look_at _ 35 0 _ _ (by kernel_rfl) (by kernel_rfl) hl)).trans (dep_of (Fact := F_td6 y b7 nk ck ng cg ni ci dy ak ag ai) hd 0 (by kernel_rfl))
        refine one_call _ _ rfl rfl (enters_of Try.func7 (by kernel_rfl) rfl) #[.agg #[.slice ak nk ck, .slice ag ng cg, .slice ai ni ci]] (eval1 ea0) ?_
        refine (CD.out w' hb).mono ?_
        rintro e2 w2 ⟨rfl, hb2⟩
        exact ⟨_, rfl, _, rfl, hb2, rfl⟩
      · intro vs w' F hb hd hF hl hT
        have e := (hF 7).trans (look_out _ 7 _ _ (by kernel_rfl))
        exact rg_load 27 _ rfl rfl (b7) (0) [.slice ak nk ck, .slice ag ng cg, .slice ai ni ci] e (CellsK.row (heap_below HR75.out hb)) _ Try.underlying27 rfl (by kernel_rfl) ⟨_, rfl, Below.refl _ _, rfl⟩
      · intro vs w' F hb hd hF hl hT
        have e := (((hF 37).trans (look_at _ 37 2 _ _ (by kernel_rfl) (by kernel_rfl) hl)).trans (dep_of (Fact := F_td6 y b7 nk ck ng cg ni ci dy ak ag ai) hd 2 (by kernel_rfl)))
        refine one_call _ _ rfl rfl (enters_of Try.func8 (by kernel_rfl) rfl) #[.agg #[.slice ak nk ck, .slice ag ng cg, .slice ai ni ci]] (eval1 e) ?_
        refine (CP.out w' hb).mono ?_
        intro e2 w2 h2
        obtain ⟨⟨u, rfl, hu⟩, hb2⟩ := h2.world (by have := HY.out.small.1; omega)
        exact ⟨_, rfl, _, rfl, hb2, hu⟩
      · intro vs w' F hb hd hF hl hT
        have hu := (dep_of (Fact := F_td6 y b7 nk ck ng cg ni ci dy ak ag ai) hd 3 (by kernel_rfl))
        have e := ((hF 38).trans (look_at _ 38 3 _ _ (by kernel_rfl) (by kernel_rfl) hl))
        refine one_call _ _ rfl rfl (enters_of Try.func7 (by kernel_rfl) rfl) #[_] (eval1 e) ?_
        refine (world_Digest y _ w' hu HY.out.fine (by have := HY.out.fine.tot; omega)).mono ?_
        rintro e2 w2 ⟨rfl, hb2⟩
        exact ⟨_, rfl, _, rfl, hb2, (congrArg (fun d : Nat => Value.int .u64 (d : Int)) HDY.out).symm⟩
      · intro vs w' F hb hd hF hl hT
        have e1 := ((hF 36).trans (look_at _ 36 1 _ _ (by kernel_rfl) (by kernel_rfl) hl)).trans (dep_of (Fact := F_td6 y b7 nk ck ng cg ni ci dy ak ag ai) hd 1 (by kernel_rfl))
        have e2 := ((hF 39).trans (look_at _ 39 4 _ _ (by kernel_rfl) (by kernel_rfl) hl)).trans (dep_of (Fact := F_td6 y b7 nk ck ng cg ni ci dy ak ag ai) hd 4 (by kernel_rfl))
        exact rg_eql _ _ _ _ rfl rfl .u64 ((dy : Int)) ((dy : Int)) true e1 e2 (decide_eq_true (by omega)) ⟨_, rfl, Below.refl _ _, rfl⟩
      · intro vs w' F hb hd hF hl hT
        have e := ((hF 40).trans (look_at _ 40 5 _ _ (by kernel_rfl) (by kernel_rfl) hl)).trans (dep_of (Fact := F_td6 y b7 nk ck ng cg ni ci dy ak ag ai) hd 5 (by kernel_rfl))
        exact one_move _ rfl (by first | exact Or.inl rfl | exact Or.inr rfl) ⟨_, rfl, Below.refl _ _, e⟩
    · intro vs8 W8 hl hb hI
      have i6 : vs8.getD 6 undef = .bool true := hI 6 (by omega)
      obtain ⟨x0, x1, x2, x3, x4, x5, x6, hvs⟩ := list7t hl
      subst hvs
      replace i6 : x6 = .bool true := i6
      subst i6
      have HB9 := Lib.hid hb
      clear hI hl hb
      simp only [fillAll, Act.put, List.setIfInBounds_toArray, List.set_cons_succ, List.set_cons_zero]
      show wpList _ _ _ [] _ _
      go_wp2
      go_ret
      exact ⟨rfl, bt HB5.out HB9.out⟩
  · have hv0 := hv'
    obtain ⟨ak2, ck2, ag2, cg2, ai2, ci2, rfl, -, -, -, -, -⟩ := hv'
    obtain ⟨I0, hI0⟩ : ∃ x, x = i0 % (totI y.items : Int) := ⟨_, rfl⟩
    have hp1 := Int.emod_nonneg i0 (show (totI y.items : Int) ≠ 0 by omega)
    have hp2 := Int.emod_lt_of_pos i0 (show 0 < (totI y.items : Int) by omega)
    rw [← hI0] at hp1 hp2 hv0 ⊢
    obtain ⟨m, A, B, ra, rb, x, x', hT⟩ := tdp HY.out b I0 hp1 hp2
    obtain ⟨z, hz⟩ : ∃ z : WorldV, z = ⟨y.kinds, y.gens, chI b y.kinds I0 y.items⟩ := ⟨_, rfl⟩
    obtain ⟨at_, hat⟩ : ∃ x, x = atI y.items I0 0 := ⟨_, rfl⟩
    rw [← hz, ← hat] at hT
    rw [← hat]
    rw [← hz] at hv0
    obtain ⟨nk2, hnk2⟩ : ∃ x, x = z.kinds.length := ⟨_, rfl⟩
    obtain ⟨ng2, hng2⟩ : ∃ x, x = z.gens.length := ⟨_, rfl⟩
    obtain ⟨ni2, hni2⟩ : ∃ x, x = z.items.length := ⟨_, rfl⟩
    have hlf : ∀ t ∈ z.items, (leafI t).length ≤ 100000 := wok_leaf hT.wz
    have hks : (⟨y.kinds, y.gens, chI b y.kinds I0 y.items⟩ : WorldV).kinds.length = nk2 := by rw [hnk2, hz]
    have hgs : (⟨y.kinds, y.gens, chI b y.kinds I0 y.items⟩ : WorldV).gens.length = ng2 := by rw [hng2, hz]
    have his : (⟨y.kinds, y.gens, chI b y.kinds I0 y.items⟩ : WorldV).items.length = ni2 := by rw [hni2, hz]
    rw [← hnk2, ← hng2, ← hni2] at hv0
    rw [hks, hgs, his]
    have hmi : ni = m := by rw [HNI.out, ← hT.al, hT.an, List.length_map]
    have hmi2 : ni2 = m := by rw [hni2, ← hT.bl, hT.bn, List.length_map]
    have hba := (Below.refl w4.heap.size w4).alloc (Nat.le_refl _) (.cells #[.slice ak2 nk2 ck2, .slice ag2 ng2 cg2, .slice ai2 ni2 ci2] 27)
    have hr8 := heap_alloc_new w4 (.cells #[.slice ak2 nk2 ck2, .slice ag2 ng2 cg2, .slice ai2 ni2 ci2] 27)
    obtain ⟨w5, hw5⟩ : ∃ w, w = w4.alloc (.cells #[.slice ak2 nk2 ck2, .slice ag2 ng2 cg2, .slice ai2 ni2 ci2] 27) := ⟨_, rfl⟩
    obtain ⟨b8, hb8⟩ : ∃ x, x = w4.heap.size := ⟨_, rfl⟩
    rw [← hw5] at hba hr8
    rw [← hb8] at hr8
    have HW5 := Lib.hid (And.intro hw5 hb8)
    have HR75 := Lib.hid (heap_below HR74.out hba)
    have HR85 := Lib.hid hr8
    have HV5 := Lib.hid (HV4.out.below hba)
    have HZ5 := Lib.hid (hv0.below hba)
    have HB5 := Lib.hid (bt HB4.out hba)
    have HT := Lib.hid hT
    have CLA := Lib.hid (fun w' (hb : Below w5.heap.size w5 w') => leaves_in y A ni HNI.out.symm (by have := HT.out.n8; omega) (leaf_small HT.out.fy (wok_leaf HY.out)) HT.out.an _ w' (HV5.out.below hb))
    have CLB := Lib.hid (fun w' (hb : Below w5.heap.size w5 w') => leaves_in z B ni2 hni2.symm (by have := HT.out.n8; omega) (leaf_small HT.out.fz hlf) HT.out.bn _ w' (HZ5.out.below hb))
    rw [hmi] at CLA HR75 HV5 ⊢
    rw [hmi2] at CLB HR85 HZ5 HW5 ⊢
    clear hv0 hI0 hp1 hp2 hT hz hat hnk2 hng2 hni2 hlf hks hgs his hmi hmi2 hba hr8 hw5 hb8 hpos HR74 HV4 HB4
    go_upto_region 7 with fail
    rw [← HW5.out.1, ← HW5.out.2]
    refine wp_region_facts_t rfl 6 (by kernel_rfl) (F_td7 A B b7 b8 m nk ck ng cg ci nk2 ck2 ng2 cg2 ci2 ak ag ai ak2 ag2 ai2) (F_td7_mono A B b7 b8 m nk ck ng cg ci nk2 ck2 ng2 cg2 ci2 ak ag ai ak2 ag2 ai2) ?_ ?_
    · refine ⟨?_, ?_, ?_, ?_, ?_, ?_, trivial⟩
      · intro vs w' F hb hd hF hl hT
        have e := (hF 7).trans (look_out _ 7 _ _ (by kernel_rfl))
        exact rg_load 27 _ rfl rfl (b7) (0) [.slice ak nk ck, .slice ag ng cg, .slice ai m ci] e (CellsK.row (heap_below HR75.out hb)) _ Try.underlying27 rfl (by kernel_rfl) ⟨_, rfl, Below.refl _ _, rfl⟩
      · intro vs w' F hb hd hF hl hT
        have e := (((hF 41).trans (look_at _ 41 0 _ _ (by kernel_rfl) (by kernel_rfl) hl)).trans (dep_of (Fact := F_td7 A B b7 b8 m nk ck ng cg ci nk2 ck2 ng2 cg2 ci2 ak ag ai ak2 ag2 ai2) hd 0 (by kernel_rfl)))
        refine one_call _ _ rfl rfl (enters_of Try.func9 (by kernel_rfl) rfl) #[.agg #[.slice ak nk ck, .slice ag ng cg, .slice ai m ci]] (eval1 e) ?_
        refine (CLA.out w' hb).mono ?_
        rintro e2 w2 ⟨⟨u, cc, rfl, hu⟩, hb2⟩
        exact ⟨_, rfl, _, rfl, hb2, u, cc, rfl, hu⟩
      · intro vs w' F hb hd hF hl hT
        have e := (hF 8).trans (look_out _ 8 _ _ (by kernel_rfl))
        exact rg_load 27 _ rfl rfl (b8) (0) [.slice ak2 nk2 ck2, .slice ag2 ng2 cg2, .slice ai2 m ci2] e (CellsK.row (heap_below HR85.out hb)) _ Try.underlying27 rfl (by kernel_rfl) ⟨_, rfl, Below.refl _ _, rfl⟩
      · intro vs w' F hb hd hF hl hT
        have e := (((hF 43).trans (look_at _ 43 2 _ _ (by kernel_rfl) (by kernel_rfl) hl)).trans (dep_of (Fact := F_td7 A B b7 b8 m nk ck ng cg ci nk2 ck2 ng2 cg2 ci2 ak ag ai ak2 ag2 ai2) hd 2 (by kernel_rfl)))
        refine one_call _ _ rfl rfl (enters_of Try.func9 (by kernel_rfl) rfl) #[.agg #[.slice ak2 nk2 ck2, .slice ag2 ng2 cg2, .slice ai2 m ci2]] (eval1 e) ?_
        refine (CLB.out w' hb).mono ?_
        rintro e2 w2 ⟨⟨u, cc, rfl, hu⟩, hb2⟩
        exact ⟨_, rfl, _, rfl, hb2, u, cc, rfl, hu⟩
      · intro vs w' F hb hd hF hl hT
        obtain ⟨u, cc, hu, hi⟩ := (dep_of (Fact := F_td7 A B b7 b8 m nk ck ng cg ci nk2 ck2 ng2 cg2 ci2 ak ag ai ak2 ag2 ai2) hd 1 (by kernel_rfl))
        exact one_move _ rfl (by first | exact Or.inl rfl | exact Or.inr rfl) ⟨_, rfl, Below.refl _ _, u, cc, (((hF 42).trans (look_at _ 42 1 _ _ (by kernel_rfl) (by kernel_rfl) hl))).trans hu, hi⟩
      · intro vs w' F hb hd hF hl hT
        obtain ⟨u, cc, hu, hi⟩ := (dep_of (Fact := F_td7 A B b7 b8 m nk ck ng cg ci nk2 ck2 ng2 cg2 ci2 ak ag ai ak2 ag2 ai2) hd 3 (by kernel_rfl))
        exact one_move _ rfl (by first | exact Or.inl rfl | exact Or.inr rfl) ⟨_, rfl, Below.refl _ _, u, cc, (((hF 44).trans (look_at _ 44 3 _ _ (by kernel_rfl) (by kernel_rfl) hl))).trans hu, hi⟩
    · intro vs8 W8 hl hb hI
      have i4 : ∃ u cc, vs8.getD 4 undef = .slice u m cc ∧ IntsAt .u64 W8 u A := hI 4 (by omega)
      have i5 : ∃ u cc, vs8.getD 5 undef = .slice u m cc ∧ IntsAt .u64 W8 u B := hI 5 (by omega)
      obtain ⟨x0, x1, x2, x3, x4, x5, hvs⟩ := list6t hl
      subst hvs
      obtain ⟨aa, ca, i4, hia⟩ := i4
      obtain ⟨bb, cb, i5, hib⟩ := i5
      replace i4 : x4 = .slice aa m ca := i4
      replace i5 : x5 = .slice bb m cb := i5
      subst i4 i5
      have HT' := HT.out
      have HB8 := Lib.hid hb
      have HIA := Lib.hid hia
      have HIB := Lib.hid hib
      have CN := Lib.hid (merkle_Narrow A B aa bb m m ca cb HT'.al HT'.bl (by have := HT'.lt; omega) (by have := HT'.n8; omega) HT'.ua HT'.ub W8 hia hib)
      rw [HT'.nw] at CN
      obtain ⟨nq, hnq⟩ : ∃ q, q = (narrow (fill A B) (fill B A)).2 := ⟨_, rfl⟩
      rw [← hnq] at CN
      clear hI hl hb hia hib hnq HT' CLA CLB
      simp only [fillAll, Act.put, List.setIfInBounds_toArray, List.set_cons_succ, List.set_cons_zero]
      show wpList _ _ _ [] _ _
      go_wp2_with fail
      refine CN.out.mono ?_
      rintro e w9 ⟨rfl, hb9⟩
      have HB9 := Lib.hid hb9
      have CR := Lib.hid (merkle_Root A aa m ca HT.out.al (by have := HT.out.lt; omega) (by have := HT.out.n8; omega) HT.out.ua w9 (HIA.out.below hb9))
      rw [HT.out.ta] at CR
      clear hb9 CN
      go_wp2_with fail
      refine CR.out.mono ?_
      rintro e w10 ⟨rfl, hb10⟩
      have HB10 := Lib.hid (bt HB9.out hb10)
      have CR2 := Lib.hid (merkle_Root B bb m cb HT.out.bl (by have := HT.out.lt; omega) (by have := HT.out.n8; omega) HT.out.ub w10 (HIB.out.below (bt HB9.out hb10)))
      rw [HT.out.tb] at CR2
      clear hb10 CR HB9
      go_wp2_with fail
      refine CR2.out.mono ?_
      rintro e w11 ⟨rfl, hb11⟩
      have HB11 := Lib.hid (bt HB10.out hb11)
      have CPR := Lib.hid (merkle_ProofC A aa m ca at_ HT.out.al (by have := HT.out.n8; omega) HT.out.lt HT.out.ua w11 (HIA.out.below (bt HB10.out hb11)))
      clear hb11 CR2 HB10
      go_wp2_with fail
      refine CPR.out.mono ?_
      rintro e w12 ⟨pa, pc, rfl, hpc, hpm, hip, hb12⟩
      obtain ⟨pr, hpr⟩ : ∃ p, p = prov tieI A at_ := ⟨_, rfl⟩
      rw [← hpr] at hpc hip ⊢
      obtain ⟨pn, hpn⟩ : ∃ x, x = pr.length := ⟨_, rfl⟩
      rw [← hpn] at hpc ⊢
      have hb5 : Below w5.heap.size w5 w12 := bt (bt HB8.out HB11.out) hb12
      have hb8' : Below W8.heap.size W8 w12 := bt HB11.out hb12
      have v1 := HT.out.v1
      have v2 := HT.out.v2
      have up := HT.out.up
      rw [← hpr] at v1 v2 up
      obtain ⟨ab, ao, haa, hca⟩ := ints_cellT (HIA.out.below hb8') at_ (by rw [HT.out.al]; exact HT.out.lt)
      obtain ⟨bb2, bo, hbb, hcb⟩ := ints_cellT (HIB.out.below hb8') at_ (by rw [HT.out.bl]; exact HT.out.lt)
      rw [HT.out.xa] at hca
      rw [HT.out.xb] at hcb
      subst haa hbb
      have CV1 := Lib.hid (fun w' (hb : Below w12.heap.size w12 w') => (merkle_Verify ra x m at_ pr pa pc (by have := HT.out.lt; omega) (by have := HT.out.n8; omega) HT.out.lt HT.out.ral HT.out.xl (by omega) hpm up w' (hip.below hb)).mono (fun e w2 h => (⟨by rw [h.1, v1]; simp, by rw [← h.2]; exact Below.refl _ _⟩ : e = .returned (.bool true) ∧ Below w'.heap.size w' w2)))
      have CV2 := Lib.hid (fun w' (hb : Below w12.heap.size w12 w') => (merkle_Verify ra x' m at_ pr pa pc (by have := HT.out.lt; omega) (by have := HT.out.n8; omega) HT.out.lt HT.out.ral HT.out.xl' (by omega) hpm up w' (hip.below hb)).mono (fun e w2 h => (⟨by rw [h.1, decide_eq_false v2], by rw [← h.2]; exact Below.refl _ _⟩ : e = .returned (.bool false) ∧ Below w'.heap.size w' w2)))
      rw [← hpn] at CV1 CV2
      have HR7e := Lib.hid (heap_below HR75.out hb5)
      have HR8e := Lib.hid (heap_below HR85.out hb5)
      have HVe := Lib.hid (HV5.out.below hb5)
      have HZe := Lib.hid (HZ5.out.below hb5)
      have HBe := Lib.hid (bt HB5.out hb5)
      have HCA := Lib.hid hca
      have HCB := Lib.hid hcb
      obtain ⟨dy, hdy⟩ : ∃ d, d = dig (intsW y) := ⟨_, rfl⟩
      obtain ⟨dz, hdz⟩ : ∃ d, d = dig (intsW z) := ⟨_, rfl⟩
      have CDY := Lib.hid (fun w' (hb : Below w12.heap.size w12 w') => world_Digest y _ w' (HVe.out.below hb) HT.out.fy (by have := HT.out.fy.tot; omega))
      have CDZ := Lib.hid (fun w' (hb : Below w12.heap.size w12 w') => world_Digest z _ w' (HZe.out.below hb) HT.out.fz (by have := HT.out.fz.tot; omega))
      have CCK := Lib.hid (fun w' (hb : Below w12.heap.size w12 w') => world_Check z _ w' (HZe.out.below hb) HT.out.sz)
      have CSM := Lib.hid (fun w' (hb : Below w12.heap.size w12 w') => world_Same y z _ _ w' (HVe.out.below hb) (HZe.out.below hb) HT.out.sy HT.out.sz)
      rw [← hdy] at CDY
      rw [← hdz] at CDZ
      rw [HT.out.chk] at CCK
      rw [HT.out.sm] at CSM
      have HDG := Lib.hid (show (dy : Int) ≠ (dz : Int) by rw [hdy, hdz]; have := HT.out.dg; omega)
      have HRR := Lib.hid (show (ra : Int) ≠ (rb : Int) by have := HT.out.rr; omega)
      have HLT := Lib.hid HT.out.lt
      clear hpc hpm hip hb12 hpr hpn hb5 hb8' v1 v2 up hca hcb hdy hdz CPR HB11 HB8 HIA HIB HT HR75 HR85 HV5 HZ5 HB5
      go_upto_region 12 with fail
      refine wp_region_facts_t rfl 64 (by kernel_rfl) (F_td12 b7 b8 at_ m ab ao bb2 bo ca cb pn pc nk ck ng cg ci nk2 ck2 ng2 cg2 ci2 ra rb x x' dy dz ak ag ai ak2 ag2 ai2 pa) (F_td12_mono b7 b8 at_ m ab ao bb2 bo ca cb pn pc nk ck ng cg ci nk2 ck2 ng2 cg2 ci2 ra rb x x' dy dz ak ag ai ak2 ag2 ai2 pa) ?_ ?_
      · refine ⟨?_, ?_, ?_, ?_, ?_, ?_, ?_, ?_, ?_, ?_, ?_, ?_, ?_, ?_, ?_, ?_, ?_, ?_, ?_, ?_, ?_, ?_, ?_, ?_, ?_, ?_, ?_, ?_, ?_, ?_, ?_, ?_, ?_, ?_, ?_, ?_, ?_, ?_, ?_, ?_, ?_, ?_, ?_, ?_, ?_, ?_, ?_, ?_, ?_, ?_, ?_, ?_, ?_, ?_, ?_, ?_, ?_, ?_, ?_, ?_, ?_, ?_, ?_, ?_, trivial⟩
        · intro vs w' F hb hd hF hl hT
          have e := (hF 8).trans (look_out _ 8 _ _ (by kernel_rfl))
          exact rg_load 27 _ rfl rfl (b8) (0) [.slice ak2 nk2 ck2, .slice ag2 ng2 cg2, .slice ai2 m ci2] e (CellsK.row (heap_below HR8e.out hb)) _ Try.underlying27 rfl (by kernel_rfl) ⟨_, rfl, Below.refl _ _, rfl⟩
        · intro vs w' F hb hd hF hl hT
          have ea0 := ((hF 67).trans (look_at _ 67 0 _ _ (by kernel_rfl) (by kernel_rfl) hl)).trans (dep_of (Fact := F_td12 b7 b8 at_ m ab ao bb2 bo ca cb pn pc nk ck ng cg ci nk2 ck2 ng2 cg2 ci2 ra rb x x' dy dz ak ag ai ak2 ag2 ai2 pa) hd 0 (by kernel_rfl))
          refine one_call _ _ rfl rfl (enters_of Try.func13 (by kernel_rfl) rfl) #[.agg #[.slice ak2 nk2 ck2, .slice ag2 ng2 cg2, .slice ai2 m ci2]] (eval1 ea0) ?_
          refine (CCK.out w' hb).mono ?_
          rintro e2 w2 ⟨rfl, hb2⟩
          exact ⟨_, rfl, _, rfl, hb2, rfl⟩
        · intro vs w' F hb hd hF hl hT
          have e1 := ((hF 68).trans (look_at _ 68 1 _ _ (by kernel_rfl) (by kernel_rfl) hl)).trans (dep_of (Fact := F_td12 b7 b8 at_ m ab ao bb2 bo ca cb pn pc nk ck ng cg ci nk2 ck2 ng2 cg2 ci2 ra rb x x' dy dz ak ag ai ak2 ag2 ai2 pa) hd 1 (by kernel_rfl))
          exact rg_eql _ _ _ _ rfl rfl .i64 (0) (0) true e1 rfl (decide_eq_true (by omega)) ⟨_, rfl, Below.refl _ _, rfl⟩
        · intro vs w' F hb hd hF hl hT
          have e := ((hF 69).trans (look_at _ 69 2 _ _ (by kernel_rfl) (by kernel_rfl) hl)).trans (dep_of (Fact := F_td12 b7 b8 at_ m ab ao bb2 bo ca cb pn pc nk ck ng cg ci nk2 ck2 ng2 cg2 ci2 ra rb x x' dy dz ak ag ai ak2 ag2 ai2 pa) hd 2 (by kernel_rfl))
          exact one_move _ rfl (by first | exact Or.inl rfl | exact Or.inr rfl) ⟨_, rfl, Below.refl _ _, e⟩
        · intro vs w' F hb hd hF hl hT
          have eg := ((hF 70).trans (look_at _ 70 3 _ _ (by kernel_rfl) (by kernel_rfl) hl)).trans (dep_of (Fact := F_td12 b7 b8 at_ m ab ao bb2 bo ca cb pn pc nk ck ng cg ci nk2 ck2 ng2 cg2 ci2 ra rb x x' dy dz ak ag ai ak2 ag2 ai2 pa) hd 3 (by kernel_rfl))
          refine wpList_on rfl (t := 70) (by kernel_rfl) eg ?_
          have e := (hF 7).trans (look_out _ 7 _ _ (by kernel_rfl))
          exact rg_load 27 _ rfl rfl (b7) (0) [.slice ak nk ck, .slice ag ng cg, .slice ai m ci] e (CellsK.row (heap_below HR7e.out hb)) _ Try.underlying27 rfl (by kernel_rfl) ⟨_, rfl, Below.refl _ _, rfl⟩
        · intro vs w' F hb hd hF hl hT
          have eg := ((hF 70).trans (look_at _ 70 3 _ _ (by kernel_rfl) (by kernel_rfl) hl)).trans (dep_of (Fact := F_td12 b7 b8 at_ m ab ao bb2 bo ca cb pn pc nk ck ng cg ci nk2 ck2 ng2 cg2 ci2 ra rb x x' dy dz ak ag ai ak2 ag2 ai2 pa) hd 3 (by kernel_rfl))
          refine wpList_on rfl (t := 70) (by kernel_rfl) eg ?_
          have ea0 := ((hF 71).trans (look_at _ 71 4 _ _ (by kernel_rfl) (by kernel_rfl) hl)).trans (dep_of (Fact := F_td12 b7 b8 at_ m ab ao bb2 bo ca cb pn pc nk ck ng cg ci nk2 ck2 ng2 cg2 ci2 ra rb x x' dy dz ak ag ai ak2 ag2 ai2 pa) hd 4 (by kernel_rfl))
          refine one_call _ _ rfl rfl (enters_of Try.func7 (by kernel_rfl) rfl) #[.agg #[.slice ak nk ck, .slice ag ng cg, .slice ai m ci]] (eval1 ea0) ?_
          refine (CDY.out w' hb).mono ?_
          rintro e2 w2 ⟨rfl, hb2⟩
          exact ⟨_, rfl, _, rfl, hb2, rfl⟩
        · intro vs w' F hb hd hF hl hT
          have eg := ((hF 70).trans (look_at _ 70 3 _ _ (by kernel_rfl) (by kernel_rfl) hl)).trans (dep_of (Fact := F_td12 b7 b8 at_ m ab ao bb2 bo ca cb pn pc nk ck ng cg ci nk2 ck2 ng2 cg2 ci2 ra rb x x' dy dz ak ag ai ak2 ag2 ai2 pa) hd 3 (by kernel_rfl))
          refine wpList_on rfl (t := 70) (by kernel_rfl) eg ?_
          have e := (hF 8).trans (look_out _ 8 _ _ (by kernel_rfl))
          exact rg_load 27 _ rfl rfl (b8) (0) [.slice ak2 nk2 ck2, .slice ag2 ng2 cg2, .slice ai2 m ci2] e (CellsK.row (heap_below HR8e.out hb)) _ Try.underlying27 rfl (by kernel_rfl) ⟨_, rfl, Below.refl _ _, rfl⟩
        · intro vs w' F hb hd hF hl hT
          have eg := ((hF 70).trans (look_at _ 70 3 _ _ (by kernel_rfl) (by kernel_rfl) hl)).trans (dep_of (Fact := F_td12 b7 b8 at_ m ab ao bb2 bo ca cb pn pc nk ck ng cg ci nk2 ck2 ng2 cg2 ci2 ra rb x x' dy dz ak ag ai ak2 ag2 ai2 pa) hd 3 (by kernel_rfl))
          refine wpList_on rfl (t := 70) (by kernel_rfl) eg ?_
          have ea0 := ((hF 73).trans (look_at _ 73 6 _ _ (by kernel_rfl) (by kernel_rfl) hl)).trans (dep_of (Fact := F_td12 b7 b8 at_ m ab ao bb2 bo ca cb pn pc nk ck ng cg ci nk2 ck2 ng2 cg2 ci2 ra rb x x' dy dz ak ag ai ak2 ag2 ai2 pa) hd 6 (by kernel_rfl))
          refine one_call _ _ rfl rfl (enters_of Try.func7 (by kernel_rfl) rfl) #[.agg #[.slice ak2 nk2 ck2, .slice ag2 ng2 cg2, .slice ai2 m ci2]] (eval1 ea0) ?_
          refine (CDZ.out w' hb).mono ?_
          rintro e2 w2 ⟨rfl, hb2⟩
          exact ⟨_, rfl, _, rfl, hb2, rfl⟩
        · intro vs w' F hb hd hF hl hT
          have eg := ((hF 70).trans (look_at _ 70 3 _ _ (by kernel_rfl) (by kernel_rfl) hl)).trans (dep_of (Fact := F_td12 b7 b8 at_ m ab ao bb2 bo ca cb pn pc nk ck ng cg ci nk2 ck2 ng2 cg2 ci2 ra rb x x' dy dz ak ag ai ak2 ag2 ai2 pa) hd 3 (by kernel_rfl))
          refine wpList_on rfl (t := 70) (by kernel_rfl) eg ?_
          have e1 := ((hF 72).trans (look_at _ 72 5 _ _ (by kernel_rfl) (by kernel_rfl) hl)).trans (dep_of (Fact := F_td12 b7 b8 at_ m ab ao bb2 bo ca cb pn pc nk ck ng cg ci nk2 ck2 ng2 cg2 ci2 ra rb x x' dy dz ak ag ai ak2 ag2 ai2 pa) hd 5 (by kernel_rfl))
          have e2 := ((hF 74).trans (look_at _ 74 7 _ _ (by kernel_rfl) (by kernel_rfl) hl)).trans (dep_of (Fact := F_td12 b7 b8 at_ m ab ao bb2 bo ca cb pn pc nk ck ng cg ci nk2 ck2 ng2 cg2 ci2 ra rb x x' dy dz ak ag ai ak2 ag2 ai2 pa) hd 7 (by kernel_rfl))
          exact rg_neq _ _ _ _ rfl rfl .u64 ((dy : Int)) ((dz : Int)) true e1 e2 (decide_eq_true (HDG.out)) ⟨_, rfl, Below.refl _ _, rfl⟩
        · intro vs w' F hb hd hF hl hT
          have ec := ((hF 70).trans (look_at _ 70 3 _ _ (by kernel_rfl) (by kernel_rfl) hl)).trans (dep_of (Fact := F_td12 b7 b8 at_ m ab ao bb2 bo ca cb pn pc nk ck ng cg ci nk2 ck2 ng2 cg2 ci2 ra rb x x' dy dz ak ag ai ak2 ag2 ai2 pa) hd 3 (by kernel_rfl))
          have e := ((hF 75).trans (look_at _ 75 8 _ _ (by kernel_rfl) (by kernel_rfl) hl)).trans (dep_of (Fact := F_td12 b7 b8 at_ m ab ao bb2 bo ca cb pn pc nk ck ng cg ci nk2 ck2 ng2 cg2 ci2 ra rb x x' dy dz ak ag ai ak2 ag2 ai2 pa) hd 8 (by kernel_rfl))
          exact one_pick_t _ _ _ rfl rfl _ ec e ⟨_, rfl, Below.refl _ _, rfl⟩
        · intro vs w' F hb hd hF hl hT
          have e := ((hF 76).trans (look_at _ 76 9 _ _ (by kernel_rfl) (by kernel_rfl) hl)).trans (dep_of (Fact := F_td12 b7 b8 at_ m ab ao bb2 bo ca cb pn pc nk ck ng cg ci nk2 ck2 ng2 cg2 ci2 ra rb x x' dy dz ak ag ai ak2 ag2 ai2 pa) hd 9 (by kernel_rfl))
          exact one_move _ rfl (by first | exact Or.inl rfl | exact Or.inr rfl) ⟨_, rfl, Below.refl _ _, e⟩
        · intro vs w' F hb hd hF hl hT
          have eg := ((hF 77).trans (look_at _ 77 10 _ _ (by kernel_rfl) (by kernel_rfl) hl)).trans (dep_of (Fact := F_td12 b7 b8 at_ m ab ao bb2 bo ca cb pn pc nk ck ng cg ci nk2 ck2 ng2 cg2 ci2 ra rb x x' dy dz ak ag ai ak2 ag2 ai2 pa) hd 10 (by kernel_rfl))
          refine wpList_on rfl (t := 77) (by kernel_rfl) eg ?_
          have e := (hF 7).trans (look_out _ 7 _ _ (by kernel_rfl))
          exact rg_load 27 _ rfl rfl (b7) (0) [.slice ak nk ck, .slice ag ng cg, .slice ai m ci] e (CellsK.row (heap_below HR7e.out hb)) _ Try.underlying27 rfl (by kernel_rfl) ⟨_, rfl, Below.refl _ _, rfl⟩
        · intro vs w' F hb hd hF hl hT
          have eg := ((hF 77).trans (look_at _ 77 10 _ _ (by kernel_rfl) (by kernel_rfl) hl)).trans (dep_of (Fact := F_td12 b7 b8 at_ m ab ao bb2 bo ca cb pn pc nk ck ng cg ci nk2 ck2 ng2 cg2 ci2 ra rb x x' dy dz ak ag ai ak2 ag2 ai2 pa) hd 10 (by kernel_rfl))
          refine wpList_on rfl (t := 77) (by kernel_rfl) eg ?_
          have e := (hF 8).trans (look_out _ 8 _ _ (by kernel_rfl))
          exact rg_load 27 _ rfl rfl (b8) (0) [.slice ak2 nk2 ck2, .slice ag2 ng2 cg2, .slice ai2 m ci2] e (CellsK.row (heap_below HR8e.out hb)) _ Try.underlying27 rfl (by kernel_rfl) ⟨_, rfl, Below.refl _ _, rfl⟩
        · intro vs w' F hb hd hF hl hT
          have eg := ((hF 77).trans (look_at _ 77 10 _ _ (by kernel_rfl) (by kernel_rfl) hl)).trans (dep_of (Fact := F_td12 b7 b8 at_ m ab ao bb2 bo ca cb pn pc nk ck ng cg ci nk2 ck2 ng2 cg2 ci2 ra rb x x' dy dz ak ag ai ak2 ag2 ai2 pa) hd 10 (by kernel_rfl))
          refine wpList_on rfl (t := 77) (by kernel_rfl) eg ?_
          have ea0 := ((hF 78).trans (look_at _ 78 11 _ _ (by kernel_rfl) (by kernel_rfl) hl)).trans (dep_of (Fact := F_td12 b7 b8 at_ m ab ao bb2 bo ca cb pn pc nk ck ng cg ci nk2 ck2 ng2 cg2 ci2 ra rb x x' dy dz ak ag ai ak2 ag2 ai2 pa) hd 11 (by kernel_rfl))
          have ea1 := ((hF 79).trans (look_at _ 79 12 _ _ (by kernel_rfl) (by kernel_rfl) hl)).trans (dep_of (Fact := F_td12 b7 b8 at_ m ab ao bb2 bo ca cb pn pc nk ck ng cg ci nk2 ck2 ng2 cg2 ci2 ra rb x x' dy dz ak ag ai ak2 ag2 ai2 pa) hd 12 (by kernel_rfl))
          refine one_call _ _ rfl rfl (enters_of Try.func14 (by kernel_rfl) rfl) #[.agg #[.slice ak nk ck, .slice ag ng cg, .slice ai m ci], .agg #[.slice ak2 nk2 ck2, .slice ag2 ng2 cg2, .slice ai2 m ci2]] (eval2 ea0 ea1) ?_
          refine (CSM.out w' hb).mono ?_
          rintro e2 w2 ⟨rfl, hb2⟩
          exact ⟨_, rfl, _, rfl, hb2, rfl⟩
        · intro vs w' F hb hd hF hl hT
          have eg := ((hF 77).trans (look_at _ 77 10 _ _ (by kernel_rfl) (by kernel_rfl) hl)).trans (dep_of (Fact := F_td12 b7 b8 at_ m ab ao bb2 bo ca cb pn pc nk ck ng cg ci nk2 ck2 ng2 cg2 ci2 ra rb x x' dy dz ak ag ai ak2 ag2 ai2 pa) hd 10 (by kernel_rfl))
          refine wpList_on rfl (t := 77) (by kernel_rfl) eg ?_
          have e := ((hF 80).trans (look_at _ 80 13 _ _ (by kernel_rfl) (by kernel_rfl) hl)).trans (dep_of (Fact := F_td12 b7 b8 at_ m ab ao bb2 bo ca cb pn pc nk ck ng cg ci nk2 ck2 ng2 cg2 ci2 ra rb x x' dy dz ak ag ai ak2 ag2 ai2 pa) hd 13 (by kernel_rfl))
          exact one_not _ _ rfl rfl _ true e rfl ⟨_, rfl, Below.refl _ _, rfl⟩
        · intro vs w' F hb hd hF hl hT
          have ec := ((hF 77).trans (look_at _ 77 10 _ _ (by kernel_rfl) (by kernel_rfl) hl)).trans (dep_of (Fact := F_td12 b7 b8 at_ m ab ao bb2 bo ca cb pn pc nk ck ng cg ci nk2 ck2 ng2 cg2 ci2 ra rb x x' dy dz ak ag ai ak2 ag2 ai2 pa) hd 10 (by kernel_rfl))
          have e := ((hF 81).trans (look_at _ 81 14 _ _ (by kernel_rfl) (by kernel_rfl) hl)).trans (dep_of (Fact := F_td12 b7 b8 at_ m ab ao bb2 bo ca cb pn pc nk ck ng cg ci nk2 ck2 ng2 cg2 ci2 ra rb x x' dy dz ak ag ai ak2 ag2 ai2 pa) hd 14 (by kernel_rfl))
          exact one_pick_t _ _ _ rfl rfl _ ec e ⟨_, rfl, Below.refl _ _, rfl⟩
        · intro vs w' F hb hd hF hl hT
          have e := ((hF 82).trans (look_at _ 82 15 _ _ (by kernel_rfl) (by kernel_rfl) hl)).trans (dep_of (Fact := F_td12 b7 b8 at_ m ab ao bb2 bo ca cb pn pc nk ck ng cg ci nk2 ck2 ng2 cg2 ci2 ra rb x x' dy dz ak ag ai ak2 ag2 ai2 pa) hd 15 (by kernel_rfl))
          exact one_move _ rfl (by first | exact Or.inl rfl | exact Or.inr rfl) ⟨_, rfl, Below.refl _ _, e⟩
        · intro vs w' F hb hd hF hl hT
          have eg := ((hF 83).trans (look_at _ 83 16 _ _ (by kernel_rfl) (by kernel_rfl) hl)).trans (dep_of (Fact := F_td12 b7 b8 at_ m ab ao bb2 bo ca cb pn pc nk ck ng cg ci nk2 ck2 ng2 cg2 ci2 ra rb x x' dy dz ak ag ai ak2 ag2 ai2 pa) hd 16 (by kernel_rfl))
          refine wpList_on rfl (t := 83) (by kernel_rfl) eg ?_
          have e := (hF 13).trans (look_out _ 13 _ _ (by kernel_rfl))
          exact one_move _ rfl (by first | exact Or.inl rfl | exact Or.inr rfl) ⟨_, rfl, Below.refl _ _, e⟩
        · intro vs w' F hb hd hF hl hT
          have eg := ((hF 83).trans (look_at _ 83 16 _ _ (by kernel_rfl) (by kernel_rfl) hl)).trans (dep_of (Fact := F_td12 b7 b8 at_ m ab ao bb2 bo ca cb pn pc nk ck ng cg ci nk2 ck2 ng2 cg2 ci2 ra rb x x' dy dz ak ag ai ak2 ag2 ai2 pa) hd 16 (by kernel_rfl))
          refine wpList_on rfl (t := 83) (by kernel_rfl) eg ?_
          have e := (hF 9).trans (look_out _ 9 _ _ (by kernel_rfl))
          exact one_move _ rfl (by first | exact Or.inl rfl | exact Or.inr rfl) ⟨_, rfl, Below.refl _ _, e⟩
        · intro vs w' F hb hd hF hl hT
          have eg := ((hF 83).trans (look_at _ 83 16 _ _ (by kernel_rfl) (by kernel_rfl) hl)).trans (dep_of (Fact := F_td12 b7 b8 at_ m ab ao bb2 bo ca cb pn pc nk ck ng cg ci nk2 ck2 ng2 cg2 ci2 ra rb x x' dy dz ak ag ai ak2 ag2 ai2 pa) hd 16 (by kernel_rfl))
          refine wpList_on rfl (t := 83) (by kernel_rfl) eg ?_
          have e1 := ((hF 84).trans (look_at _ 84 17 _ _ (by kernel_rfl) (by kernel_rfl) hl)).trans (dep_of (Fact := F_td12 b7 b8 at_ m ab ao bb2 bo ca cb pn pc nk ck ng cg ci nk2 ck2 ng2 cg2 ci2 ra rb x x' dy dz ak ag ai ak2 ag2 ai2 pa) hd 17 (by kernel_rfl))
          have e2 := ((hF 85).trans (look_at _ 85 18 _ _ (by kernel_rfl) (by kernel_rfl) hl)).trans (dep_of (Fact := F_td12 b7 b8 at_ m ab ao bb2 bo ca cb pn pc nk ck ng cg ci nk2 ck2 ng2 cg2 ci2 ra rb x x' dy dz ak ag ai ak2 ag2 ai2 pa) hd 18 (by kernel_rfl))
          exact rg_eql _ _ _ _ rfl rfl .i64 ((at_ : Int)) ((at_ : Int)) true e1 e2 (decide_eq_true (by omega)) ⟨_, rfl, Below.refl _ _, rfl⟩
        · intro vs w' F hb hd hF hl hT
          have ec := ((hF 83).trans (look_at _ 83 16 _ _ (by kernel_rfl) (by kernel_rfl) hl)).trans (dep_of (Fact := F_td12 b7 b8 at_ m ab ao bb2 bo ca cb pn pc nk ck ng cg ci nk2 ck2 ng2 cg2 ci2 ra rb x x' dy dz ak ag ai ak2 ag2 ai2 pa) hd 16 (by kernel_rfl))
          have e := ((hF 86).trans (look_at _ 86 19 _ _ (by kernel_rfl) (by kernel_rfl) hl)).trans (dep_of (Fact := F_td12 b7 b8 at_ m ab ao bb2 bo ca cb pn pc nk ck ng cg ci nk2 ck2 ng2 cg2 ci2 ra rb x x' dy dz ak ag ai ak2 ag2 ai2 pa) hd 19 (by kernel_rfl))
          exact one_pick_t _ _ _ rfl rfl _ ec e ⟨_, rfl, Below.refl _ _, rfl⟩
        · intro vs w' F hb hd hF hl hT
          have e := ((hF 87).trans (look_at _ 87 20 _ _ (by kernel_rfl) (by kernel_rfl) hl)).trans (dep_of (Fact := F_td12 b7 b8 at_ m ab ao bb2 bo ca cb pn pc nk ck ng cg ci nk2 ck2 ng2 cg2 ci2 ra rb x x' dy dz ak ag ai ak2 ag2 ai2 pa) hd 20 (by kernel_rfl))
          exact one_move _ rfl (by first | exact Or.inl rfl | exact Or.inr rfl) ⟨_, rfl, Below.refl _ _, e⟩
        · intro vs w' F hb hd hF hl hT
          have eg := ((hF 88).trans (look_at _ 88 21 _ _ (by kernel_rfl) (by kernel_rfl) hl)).trans (dep_of (Fact := F_td12 b7 b8 at_ m ab ao bb2 bo ca cb pn pc nk ck ng cg ci nk2 ck2 ng2 cg2 ci2 ra rb x x' dy dz ak ag ai ak2 ag2 ai2 pa) hd 21 (by kernel_rfl))
          refine wpList_on rfl (t := 88) (by kernel_rfl) eg ?_
          have e := (hF 16).trans (look_out _ 16 _ _ (by kernel_rfl))
          exact one_move _ rfl (by first | exact Or.inl rfl | exact Or.inr rfl) ⟨_, rfl, Below.refl _ _, e⟩
        · intro vs w' F hb hd hF hl hT
          have eg := ((hF 88).trans (look_at _ 88 21 _ _ (by kernel_rfl) (by kernel_rfl) hl)).trans (dep_of (Fact := F_td12 b7 b8 at_ m ab ao bb2 bo ca cb pn pc nk ck ng cg ci nk2 ck2 ng2 cg2 ci2 ra rb x x' dy dz ak ag ai ak2 ag2 ai2 pa) hd 21 (by kernel_rfl))
          refine wpList_on rfl (t := 88) (by kernel_rfl) eg ?_
          have e1 := ((hF 89).trans (look_at _ 89 22 _ _ (by kernel_rfl) (by kernel_rfl) hl)).trans (dep_of (Fact := F_td12 b7 b8 at_ m ab ao bb2 bo ca cb pn pc nk ck ng cg ci nk2 ck2 ng2 cg2 ci2 ra rb x x' dy dz ak ag ai ak2 ag2 ai2 pa) hd 22 (by kernel_rfl))
          exact rg_eql _ _ _ _ rfl rfl .i64 (0) (0) true e1 rfl (decide_eq_true (by omega)) ⟨_, rfl, Below.refl _ _, rfl⟩
        · intro vs w' F hb hd hF hl hT
          have ec := ((hF 88).trans (look_at _ 88 21 _ _ (by kernel_rfl) (by kernel_rfl) hl)).trans (dep_of (Fact := F_td12 b7 b8 at_ m ab ao bb2 bo ca cb pn pc nk ck ng cg ci nk2 ck2 ng2 cg2 ci2 ra rb x x' dy dz ak ag ai ak2 ag2 ai2 pa) hd 21 (by kernel_rfl))
          have e := ((hF 90).trans (look_at _ 90 23 _ _ (by kernel_rfl) (by kernel_rfl) hl)).trans (dep_of (Fact := F_td12 b7 b8 at_ m ab ao bb2 bo ca cb pn pc nk ck ng cg ci nk2 ck2 ng2 cg2 ci2 ra rb x x' dy dz ak ag ai ak2 ag2 ai2 pa) hd 23 (by kernel_rfl))
          exact one_pick_t _ _ _ rfl rfl _ ec e ⟨_, rfl, Below.refl _ _, rfl⟩
        · intro vs w' F hb hd hF hl hT
          have e := ((hF 91).trans (look_at _ 91 24 _ _ (by kernel_rfl) (by kernel_rfl) hl)).trans (dep_of (Fact := F_td12 b7 b8 at_ m ab ao bb2 bo ca cb pn pc nk ck ng cg ci nk2 ck2 ng2 cg2 ci2 ra rb x x' dy dz ak ag ai ak2 ag2 ai2 pa) hd 24 (by kernel_rfl))
          exact one_move _ rfl (by first | exact Or.inl rfl | exact Or.inr rfl) ⟨_, rfl, Below.refl _ _, e⟩
        · intro vs w' F hb hd hF hl hT
          have eg := ((hF 92).trans (look_at _ 92 25 _ _ (by kernel_rfl) (by kernel_rfl) hl)).trans (dep_of (Fact := F_td12 b7 b8 at_ m ab ao bb2 bo ca cb pn pc nk ck ng cg ci nk2 ck2 ng2 cg2 ci2 ra rb x x' dy dz ak ag ai ak2 ag2 ai2 pa) hd 25 (by kernel_rfl))
          refine wpList_on rfl (t := 92) (by kernel_rfl) eg ?_
          have e := (hF 18).trans (look_out _ 18 _ _ (by kernel_rfl))
          exact one_move _ rfl (by first | exact Or.inl rfl | exact Or.inr rfl) ⟨_, rfl, Below.refl _ _, e⟩
        · intro vs w' F hb hd hF hl hT
          have eg := ((hF 92).trans (look_at _ 92 25 _ _ (by kernel_rfl) (by kernel_rfl) hl)).trans (dep_of (Fact := F_td12 b7 b8 at_ m ab ao bb2 bo ca cb pn pc nk ck ng cg ci nk2 ck2 ng2 cg2 ci2 ra rb x x' dy dz ak ag ai ak2 ag2 ai2 pa) hd 25 (by kernel_rfl))
          refine wpList_on rfl (t := 92) (by kernel_rfl) eg ?_
          have e1 := ((hF 93).trans (look_at _ 93 26 _ _ (by kernel_rfl) (by kernel_rfl) hl)).trans (dep_of (Fact := F_td12 b7 b8 at_ m ab ao bb2 bo ca cb pn pc nk ck ng cg ci nk2 ck2 ng2 cg2 ci2 ra rb x x' dy dz ak ag ai ak2 ag2 ai2 pa) hd 26 (by kernel_rfl))
          exact rg_eql _ _ _ _ rfl rfl .i64 (0) (0) true e1 rfl (decide_eq_true (by omega)) ⟨_, rfl, Below.refl _ _, rfl⟩
        · intro vs w' F hb hd hF hl hT
          have ec := ((hF 92).trans (look_at _ 92 25 _ _ (by kernel_rfl) (by kernel_rfl) hl)).trans (dep_of (Fact := F_td12 b7 b8 at_ m ab ao bb2 bo ca cb pn pc nk ck ng cg ci nk2 ck2 ng2 cg2 ci2 ra rb x x' dy dz ak ag ai ak2 ag2 ai2 pa) hd 25 (by kernel_rfl))
          have e := ((hF 94).trans (look_at _ 94 27 _ _ (by kernel_rfl) (by kernel_rfl) hl)).trans (dep_of (Fact := F_td12 b7 b8 at_ m ab ao bb2 bo ca cb pn pc nk ck ng cg ci nk2 ck2 ng2 cg2 ci2 ra rb x x' dy dz ak ag ai ak2 ag2 ai2 pa) hd 27 (by kernel_rfl))
          exact one_pick_t _ _ _ rfl rfl _ ec e ⟨_, rfl, Below.refl _ _, rfl⟩
        · intro vs w' F hb hd hF hl hT
          have e := ((hF 95).trans (look_at _ 95 28 _ _ (by kernel_rfl) (by kernel_rfl) hl)).trans (dep_of (Fact := F_td12 b7 b8 at_ m ab ao bb2 bo ca cb pn pc nk ck ng cg ci nk2 ck2 ng2 cg2 ci2 ra rb x x' dy dz ak ag ai ak2 ag2 ai2 pa) hd 28 (by kernel_rfl))
          exact one_move _ rfl (by first | exact Or.inl rfl | exact Or.inr rfl) ⟨_, rfl, Below.refl _ _, e⟩
        · intro vs w' F hb hd hF hl hT
          have eg := ((hF 96).trans (look_at _ 96 29 _ _ (by kernel_rfl) (by kernel_rfl) hl)).trans (dep_of (Fact := F_td12 b7 b8 at_ m ab ao bb2 bo ca cb pn pc nk ck ng cg ci nk2 ck2 ng2 cg2 ci2 ra rb x x' dy dz ak ag ai ak2 ag2 ai2 pa) hd 29 (by kernel_rfl))
          refine wpList_on rfl (t := 96) (by kernel_rfl) eg ?_
          have e := (hF 20).trans (look_out _ 20 _ _ (by kernel_rfl))
          exact one_move _ rfl (by first | exact Or.inl rfl | exact Or.inr rfl) ⟨_, rfl, Below.refl _ _, e⟩
        · intro vs w' F hb hd hF hl hT
          have eg := ((hF 96).trans (look_at _ 96 29 _ _ (by kernel_rfl) (by kernel_rfl) hl)).trans (dep_of (Fact := F_td12 b7 b8 at_ m ab ao bb2 bo ca cb pn pc nk ck ng cg ci nk2 ck2 ng2 cg2 ci2 ra rb x x' dy dz ak ag ai ak2 ag2 ai2 pa) hd 29 (by kernel_rfl))
          refine wpList_on rfl (t := 96) (by kernel_rfl) eg ?_
          have e1 := ((hF 97).trans (look_at _ 97 30 _ _ (by kernel_rfl) (by kernel_rfl) hl)).trans (dep_of (Fact := F_td12 b7 b8 at_ m ab ao bb2 bo ca cb pn pc nk ck ng cg ci nk2 ck2 ng2 cg2 ci2 ra rb x x' dy dz ak ag ai ak2 ag2 ai2 pa) hd 30 (by kernel_rfl))
          exact rg_eql _ _ _ _ rfl rfl .i64 (0) (0) true e1 rfl (decide_eq_true (by omega)) ⟨_, rfl, Below.refl _ _, rfl⟩
        · intro vs w' F hb hd hF hl hT
          have ec := ((hF 96).trans (look_at _ 96 29 _ _ (by kernel_rfl) (by kernel_rfl) hl)).trans (dep_of (Fact := F_td12 b7 b8 at_ m ab ao bb2 bo ca cb pn pc nk ck ng cg ci nk2 ck2 ng2 cg2 ci2 ra rb x x' dy dz ak ag ai ak2 ag2 ai2 pa) hd 29 (by kernel_rfl))
          have e := ((hF 98).trans (look_at _ 98 31 _ _ (by kernel_rfl) (by kernel_rfl) hl)).trans (dep_of (Fact := F_td12 b7 b8 at_ m ab ao bb2 bo ca cb pn pc nk ck ng cg ci nk2 ck2 ng2 cg2 ci2 ra rb x x' dy dz ak ag ai ak2 ag2 ai2 pa) hd 31 (by kernel_rfl))
          exact one_pick_t _ _ _ rfl rfl _ ec e ⟨_, rfl, Below.refl _ _, rfl⟩
        · intro vs w' F hb hd hF hl hT
          have e := ((hF 99).trans (look_at _ 99 32 _ _ (by kernel_rfl) (by kernel_rfl) hl)).trans (dep_of (Fact := F_td12 b7 b8 at_ m ab ao bb2 bo ca cb pn pc nk ck ng cg ci nk2 ck2 ng2 cg2 ci2 ra rb x x' dy dz ak ag ai ak2 ag2 ai2 pa) hd 32 (by kernel_rfl))
          exact one_move _ rfl (by first | exact Or.inl rfl | exact Or.inr rfl) ⟨_, rfl, Below.refl _ _, e⟩
        · intro vs w' F hb hd hF hl hT
          have eg := ((hF 100).trans (look_at _ 100 33 _ _ (by kernel_rfl) (by kernel_rfl) hl)).trans (dep_of (Fact := F_td12 b7 b8 at_ m ab ao bb2 bo ca cb pn pc nk ck ng cg ci nk2 ck2 ng2 cg2 ci2 ra rb x x' dy dz ak ag ai ak2 ag2 ai2 pa) hd 33 (by kernel_rfl))
          refine wpList_on rfl (t := 100) (by kernel_rfl) eg ?_
          have e := (hF 15).trans (look_out _ 15 _ _ (by kernel_rfl))
          exact one_move _ rfl (by first | exact Or.inl rfl | exact Or.inr rfl) ⟨_, rfl, Below.refl _ _, e⟩
        · intro vs w' F hb hd hF hl hT
          have eg := ((hF 100).trans (look_at _ 100 33 _ _ (by kernel_rfl) (by kernel_rfl) hl)).trans (dep_of (Fact := F_td12 b7 b8 at_ m ab ao bb2 bo ca cb pn pc nk ck ng cg ci nk2 ck2 ng2 cg2 ci2 ra rb x x' dy dz ak ag ai ak2 ag2 ai2 pa) hd 33 (by kernel_rfl))
          refine wpList_on rfl (t := 100) (by kernel_rfl) eg ?_
          have e := (hF 17).trans (look_out _ 17 _ _ (by kernel_rfl))
          exact one_move _ rfl (by first | exact Or.inl rfl | exact Or.inr rfl) ⟨_, rfl, Below.refl _ _, e⟩
        · intro vs w' F hb hd hF hl hT
          have eg := ((hF 100).trans (look_at _ 100 33 _ _ (by kernel_rfl) (by kernel_rfl) hl)).trans (dep_of (Fact := F_td12 b7 b8 at_ m ab ao bb2 bo ca cb pn pc nk ck ng cg ci nk2 ck2 ng2 cg2 ci2 ra rb x x' dy dz ak ag ai ak2 ag2 ai2 pa) hd 33 (by kernel_rfl))
          refine wpList_on rfl (t := 100) (by kernel_rfl) eg ?_
          have e1 := ((hF 101).trans (look_at _ 101 34 _ _ (by kernel_rfl) (by kernel_rfl) hl)).trans (dep_of (Fact := F_td12 b7 b8 at_ m ab ao bb2 bo ca cb pn pc nk ck ng cg ci nk2 ck2 ng2 cg2 ci2 ra rb x x' dy dz ak ag ai ak2 ag2 ai2 pa) hd 34 (by kernel_rfl))
          have e2 := ((hF 102).trans (look_at _ 102 35 _ _ (by kernel_rfl) (by kernel_rfl) hl)).trans (dep_of (Fact := F_td12 b7 b8 at_ m ab ao bb2 bo ca cb pn pc nk ck ng cg ci nk2 ck2 ng2 cg2 ci2 ra rb x x' dy dz ak ag ai ak2 ag2 ai2 pa) hd 35 (by kernel_rfl))
          exact rg_neq _ _ _ _ rfl rfl .u64 ((ra : Int)) ((rb : Int)) true e1 e2 (decide_eq_true (HRR.out)) ⟨_, rfl, Below.refl _ _, rfl⟩
        · intro vs w' F hb hd hF hl hT
          have ec := ((hF 100).trans (look_at _ 100 33 _ _ (by kernel_rfl) (by kernel_rfl) hl)).trans (dep_of (Fact := F_td12 b7 b8 at_ m ab ao bb2 bo ca cb pn pc nk ck ng cg ci nk2 ck2 ng2 cg2 ci2 ra rb x x' dy dz ak ag ai ak2 ag2 ai2 pa) hd 33 (by kernel_rfl))
          have e := ((hF 103).trans (look_at _ 103 36 _ _ (by kernel_rfl) (by kernel_rfl) hl)).trans (dep_of (Fact := F_td12 b7 b8 at_ m ab ao bb2 bo ca cb pn pc nk ck ng cg ci nk2 ck2 ng2 cg2 ci2 ra rb x x' dy dz ak ag ai ak2 ag2 ai2 pa) hd 36 (by kernel_rfl))
          exact one_pick_t _ _ _ rfl rfl _ ec e ⟨_, rfl, Below.refl _ _, rfl⟩
        · intro vs w' F hb hd hF hl hT
          have e := ((hF 104).trans (look_at _ 104 37 _ _ (by kernel_rfl) (by kernel_rfl) hl)).trans (dep_of (Fact := F_td12 b7 b8 at_ m ab ao bb2 bo ca cb pn pc nk ck ng cg ci nk2 ck2 ng2 cg2 ci2 ra rb x x' dy dz ak ag ai ak2 ag2 ai2 pa) hd 37 (by kernel_rfl))
          exact one_move _ rfl (by first | exact Or.inl rfl | exact Or.inr rfl) ⟨_, rfl, Below.refl _ _, e⟩
        · intro vs w' F hb hd hF hl hT
          have eg := ((hF 105).trans (look_at _ 105 38 _ _ (by kernel_rfl) (by kernel_rfl) hl)).trans (dep_of (Fact := F_td12 b7 b8 at_ m ab ao bb2 bo ca cb pn pc nk ck ng cg ci nk2 ck2 ng2 cg2 ci2 ra rb x x' dy dz ak ag ai ak2 ag2 ai2 pa) hd 38 (by kernel_rfl))
          refine wpList_on rfl (t := 105) (by kernel_rfl) eg ?_
          have e := (hF 15).trans (look_out _ 15 _ _ (by kernel_rfl))
          exact one_move _ rfl (by first | exact Or.inl rfl | exact Or.inr rfl) ⟨_, rfl, Below.refl _ _, e⟩
        · intro vs w' F hb hd hF hl hT
          have eg := ((hF 105).trans (look_at _ 105 38 _ _ (by kernel_rfl) (by kernel_rfl) hl)).trans (dep_of (Fact := F_td12 b7 b8 at_ m ab ao bb2 bo ca cb pn pc nk ck ng cg ci nk2 ck2 ng2 cg2 ci2 ra rb x x' dy dz ak ag ai ak2 ag2 ai2 pa) hd 38 (by kernel_rfl))
          refine wpList_on rfl (t := 105) (by kernel_rfl) eg ?_
          have e := (hF 11).trans (look_out _ 11 _ _ (by kernel_rfl))
          exact one_move _ rfl (by first | exact Or.inl rfl | exact Or.inr rfl) ⟨_, rfl, Below.refl _ _, e⟩
        · intro vs w' F hb hd hF hl hT
          have eg := ((hF 105).trans (look_at _ 105 38 _ _ (by kernel_rfl) (by kernel_rfl) hl)).trans (dep_of (Fact := F_td12 b7 b8 at_ m ab ao bb2 bo ca cb pn pc nk ck ng cg ci nk2 ck2 ng2 cg2 ci2 ra rb x x' dy dz ak ag ai ak2 ag2 ai2 pa) hd 38 (by kernel_rfl))
          refine wpList_on rfl (t := 105) (by kernel_rfl) eg ?_
          have e := ((hF 107).trans (look_at _ 107 40 _ _ (by kernel_rfl) (by kernel_rfl) hl)).trans (dep_of (Fact := F_td12 b7 b8 at_ m ab ao bb2 bo ca cb pn pc nk ck ng cg ci nk2 ck2 ng2 cg2 ci2 ra rb x x' dy dz ak ag ai ak2 ag2 ai2 pa) hd 40 (by kernel_rfl))
          exact rg_len _ 34 31 rfl rfl Try.underlying34 (some ⟨ab, ao, none⟩) (m) (ca) e ⟨_, rfl, Below.refl _ _, rfl⟩
        · intro vs w' F hb hd hF hl hT
          have eg := ((hF 105).trans (look_at _ 105 38 _ _ (by kernel_rfl) (by kernel_rfl) hl)).trans (dep_of (Fact := F_td12 b7 b8 at_ m ab ao bb2 bo ca cb pn pc nk ck ng cg ci nk2 ck2 ng2 cg2 ci2 ra rb x x' dy dz ak ag ai ak2 ag2 ai2 pa) hd 38 (by kernel_rfl))
          refine wpList_on rfl (t := 105) (by kernel_rfl) eg ?_
          have e := (hF 9).trans (look_out _ 9 _ _ (by kernel_rfl))
          exact one_move _ rfl (by first | exact Or.inl rfl | exact Or.inr rfl) ⟨_, rfl, Below.refl _ _, e⟩
        · intro vs w' F hb hd hF hl hT
          have eg := ((hF 105).trans (look_at _ 105 38 _ _ (by kernel_rfl) (by kernel_rfl) hl)).trans (dep_of (Fact := F_td12 b7 b8 at_ m ab ao bb2 bo ca cb pn pc nk ck ng cg ci nk2 ck2 ng2 cg2 ci2 ra rb x x' dy dz ak ag ai ak2 ag2 ai2 pa) hd 38 (by kernel_rfl))
          refine wpList_on rfl (t := 105) (by kernel_rfl) eg ?_
          have e := (hF 11).trans (look_out _ 11 _ _ (by kernel_rfl))
          exact one_move _ rfl (by first | exact Or.inl rfl | exact Or.inr rfl) ⟨_, rfl, Below.refl _ _, e⟩
        · intro vs w' F hb hd hF hl hT
          have eg := ((hF 105).trans (look_at _ 105 38 _ _ (by kernel_rfl) (by kernel_rfl) hl)).trans (dep_of (Fact := F_td12 b7 b8 at_ m ab ao bb2 bo ca cb pn pc nk ck ng cg ci nk2 ck2 ng2 cg2 ci2 ra rb x x' dy dz ak ag ai ak2 ag2 ai2 pa) hd 38 (by kernel_rfl))
          refine wpList_on rfl (t := 105) (by kernel_rfl) eg ?_
          have e := (hF 9).trans (look_out _ 9 _ _ (by kernel_rfl))
          exact one_move _ rfl (by first | exact Or.inl rfl | exact Or.inr rfl) ⟨_, rfl, Below.refl _ _, e⟩
        · intro vs w' F hb hd hF hl hT
          have eg := ((hF 105).trans (look_at _ 105 38 _ _ (by kernel_rfl) (by kernel_rfl) hl)).trans (dep_of (Fact := F_td12 b7 b8 at_ m ab ao bb2 bo ca cb pn pc nk ck ng cg ci nk2 ck2 ng2 cg2 ci2 ra rb x x' dy dz ak ag ai ak2 ag2 ai2 pa) hd 38 (by kernel_rfl))
          refine wpList_on rfl (t := 105) (by kernel_rfl) eg ?_
          have ex := ((hF 110).trans (look_at _ 110 43 _ _ (by kernel_rfl) (by kernel_rfl) hl)).trans (dep_of (Fact := F_td12 b7 b8 at_ m ab ao bb2 bo ca cb pn pc nk ck ng cg ci nk2 ck2 ng2 cg2 ci2 ra rb x x' dy dz ak ag ai ak2 ag2 ai2 pa) hd 43 (by kernel_rfl))
          have ey := ((hF 111).trans (look_at _ 111 44 _ _ (by kernel_rfl) (by kernel_rfl) hl)).trans (dep_of (Fact := F_td12 b7 b8 at_ m ab ao bb2 bo ca cb pn pc nk ck ng cg ci nk2 ck2 ng2 cg2 ci2 ra rb x x' dy dz ak ag ai ak2 ag2 ai2 pa) hd 44 (by kernel_rfl))
          exact one_index 34 _ _ rfl rfl (.slice (some ⟨ab, ao, none⟩) m ca) (.int .i64 (at_ : Int)) (.pointer (some ⟨ab, ao + at_ * 1, none⟩)) ex ey (fun w => rg_idx Try.underlying34 (show (Try.prog.info? 31).map (·.size) = some 1 by kernel_rfl) (ab) (ao) (m) (ca) (at_) (HLT.out) w) ⟨_, rfl, Below.refl _ _, rfl⟩
        · intro vs w' F hb hd hF hl hT
          have eg := ((hF 105).trans (look_at _ 105 38 _ _ (by kernel_rfl) (by kernel_rfl) hl)).trans (dep_of (Fact := F_td12 b7 b8 at_ m ab ao bb2 bo ca cb pn pc nk ck ng cg ci nk2 ck2 ng2 cg2 ci2 ra rb x x' dy dz ak ag ai ak2 ag2 ai2 pa) hd 38 (by kernel_rfl))
          refine wpList_on rfl (t := 105) (by kernel_rfl) eg ?_
          have e := ((hF 112).trans (look_at _ 112 45 _ _ (by kernel_rfl) (by kernel_rfl) hl)).trans (dep_of (Fact := F_td12 b7 b8 at_ m ab ao bb2 bo ca cb pn pc nk ck ng cg ci nk2 ck2 ng2 cg2 ci2 ra rb x x' dy dz ak ag ai ak2 ag2 ai2 pa) hd 45 (by kernel_rfl))
          exact one_load _ _ rfl rfl _ _ e (cell_abides HCA.out hb) (by kernel_rfl) ⟨_, rfl, Below.refl _ _, rfl⟩
        · intro vs w' F hb hd hF hl hT
          have eg := ((hF 105).trans (look_at _ 105 38 _ _ (by kernel_rfl) (by kernel_rfl) hl)).trans (dep_of (Fact := F_td12 b7 b8 at_ m ab ao bb2 bo ca cb pn pc nk ck ng cg ci nk2 ck2 ng2 cg2 ci2 ra rb x x' dy dz ak ag ai ak2 ag2 ai2 pa) hd 38 (by kernel_rfl))
          refine wpList_on rfl (t := 105) (by kernel_rfl) eg ?_
          have e := (hF 19).trans (look_out _ 19 _ _ (by kernel_rfl))
          exact one_move _ rfl (by first | exact Or.inl rfl | exact Or.inr rfl) ⟨_, rfl, Below.refl _ _, e⟩
        · intro vs w' F hb hd hF hl hT
          have eg := ((hF 105).trans (look_at _ 105 38 _ _ (by kernel_rfl) (by kernel_rfl) hl)).trans (dep_of (Fact := F_td12 b7 b8 at_ m ab ao bb2 bo ca cb pn pc nk ck ng cg ci nk2 ck2 ng2 cg2 ci2 ra rb x x' dy dz ak ag ai ak2 ag2 ai2 pa) hd 38 (by kernel_rfl))
          refine wpList_on rfl (t := 105) (by kernel_rfl) eg ?_
          have ea0 := ((hF 106).trans (look_at _ 106 39 _ _ (by kernel_rfl) (by kernel_rfl) hl)).trans (dep_of (Fact := F_td12 b7 b8 at_ m ab ao bb2 bo ca cb pn pc nk ck ng cg ci nk2 ck2 ng2 cg2 ci2 ra rb x x' dy dz ak ag ai ak2 ag2 ai2 pa) hd 39 (by kernel_rfl))
          have ea1 := ((hF 108).trans (look_at _ 108 41 _ _ (by kernel_rfl) (by kernel_rfl) hl)).trans (dep_of (Fact := F_td12 b7 b8 at_ m ab ao bb2 bo ca cb pn pc nk ck ng cg ci nk2 ck2 ng2 cg2 ci2 ra rb x x' dy dz ak ag ai ak2 ag2 ai2 pa) hd 41 (by kernel_rfl))
          have ea2 := ((hF 109).trans (look_at _ 109 42 _ _ (by kernel_rfl) (by kernel_rfl) hl)).trans (dep_of (Fact := F_td12 b7 b8 at_ m ab ao bb2 bo ca cb pn pc nk ck ng cg ci nk2 ck2 ng2 cg2 ci2 ra rb x x' dy dz ak ag ai ak2 ag2 ai2 pa) hd 42 (by kernel_rfl))
          have ea3 := ((hF 113).trans (look_at _ 113 46 _ _ (by kernel_rfl) (by kernel_rfl) hl)).trans (dep_of (Fact := F_td12 b7 b8 at_ m ab ao bb2 bo ca cb pn pc nk ck ng cg ci nk2 ck2 ng2 cg2 ci2 ra rb x x' dy dz ak ag ai ak2 ag2 ai2 pa) hd 46 (by kernel_rfl))
          have ea4 := ((hF 114).trans (look_at _ 114 47 _ _ (by kernel_rfl) (by kernel_rfl) hl)).trans (dep_of (Fact := F_td12 b7 b8 at_ m ab ao bb2 bo ca cb pn pc nk ck ng cg ci nk2 ck2 ng2 cg2 ci2 ra rb x x' dy dz ak ag ai ak2 ag2 ai2 pa) hd 47 (by kernel_rfl))
          refine one_call _ _ rfl rfl (enters_of Try.func15 (by kernel_rfl) rfl) #[.int .u64 (ra : Int), .int .i64 (m : Int), .int .i64 (at_ : Int), .int .u64 (x : Int), .slice pa pn pc] (eval5 ea0 ea1 ea2 ea3 ea4) ?_
          refine (CV1.out w' hb).mono ?_
          rintro e2 w2 ⟨rfl, hb2⟩
          exact ⟨_, rfl, _, rfl, hb2, rfl⟩
        · intro vs w' F hb hd hF hl hT
          have ec := ((hF 105).trans (look_at _ 105 38 _ _ (by kernel_rfl) (by kernel_rfl) hl)).trans (dep_of (Fact := F_td12 b7 b8 at_ m ab ao bb2 bo ca cb pn pc nk ck ng cg ci nk2 ck2 ng2 cg2 ci2 ra rb x x' dy dz ak ag ai ak2 ag2 ai2 pa) hd 38 (by kernel_rfl))
          have e := ((hF 115).trans (look_at _ 115 48 _ _ (by kernel_rfl) (by kernel_rfl) hl)).trans (dep_of (Fact := F_td12 b7 b8 at_ m ab ao bb2 bo ca cb pn pc nk ck ng cg ci nk2 ck2 ng2 cg2 ci2 ra rb x x' dy dz ak ag ai ak2 ag2 ai2 pa) hd 48 (by kernel_rfl))
          exact one_pick_t _ _ _ rfl rfl _ ec e ⟨_, rfl, Below.refl _ _, rfl⟩
        · intro vs w' F hb hd hF hl hT
          have e := ((hF 116).trans (look_at _ 116 49 _ _ (by kernel_rfl) (by kernel_rfl) hl)).trans (dep_of (Fact := F_td12 b7 b8 at_ m ab ao bb2 bo ca cb pn pc nk ck ng cg ci nk2 ck2 ng2 cg2 ci2 ra rb x x' dy dz ak ag ai ak2 ag2 ai2 pa) hd 49 (by kernel_rfl))
          exact one_move _ rfl (by first | exact Or.inl rfl | exact Or.inr rfl) ⟨_, rfl, Below.refl _ _, e⟩
        · intro vs w' F hb hd hF hl hT
          have eg := ((hF 117).trans (look_at _ 117 50 _ _ (by kernel_rfl) (by kernel_rfl) hl)).trans (dep_of (Fact := F_td12 b7 b8 at_ m ab ao bb2 bo ca cb pn pc nk ck ng cg ci nk2 ck2 ng2 cg2 ci2 ra rb x x' dy dz ak ag ai ak2 ag2 ai2 pa) hd 50 (by kernel_rfl))
          refine wpList_on rfl (t := 117) (by kernel_rfl) eg ?_
          have e := (hF 15).trans (look_out _ 15 _ _ (by kernel_rfl))
          exact one_move _ rfl (by first | exact Or.inl rfl | exact Or.inr rfl) ⟨_, rfl, Below.refl _ _, e⟩
        · intro vs w' F hb hd hF hl hT
          have eg := ((hF 117).trans (look_at _ 117 50 _ _ (by kernel_rfl) (by kernel_rfl) hl)).trans (dep_of (Fact := F_td12 b7 b8 at_ m ab ao bb2 bo ca cb pn pc nk ck ng cg ci nk2 ck2 ng2 cg2 ci2 ra rb x x' dy dz ak ag ai ak2 ag2 ai2 pa) hd 50 (by kernel_rfl))
          refine wpList_on rfl (t := 117) (by kernel_rfl) eg ?_
          have e := (hF 11).trans (look_out _ 11 _ _ (by kernel_rfl))
          exact one_move _ rfl (by first | exact Or.inl rfl | exact Or.inr rfl) ⟨_, rfl, Below.refl _ _, e⟩
        · intro vs w' F hb hd hF hl hT
          have eg := ((hF 117).trans (look_at _ 117 50 _ _ (by kernel_rfl) (by kernel_rfl) hl)).trans (dep_of (Fact := F_td12 b7 b8 at_ m ab ao bb2 bo ca cb pn pc nk ck ng cg ci nk2 ck2 ng2 cg2 ci2 ra rb x x' dy dz ak ag ai ak2 ag2 ai2 pa) hd 50 (by kernel_rfl))
          refine wpList_on rfl (t := 117) (by kernel_rfl) eg ?_
          have e := ((hF 119).trans (look_at _ 119 52 _ _ (by kernel_rfl) (by kernel_rfl) hl)).trans (dep_of (Fact := F_td12 b7 b8 at_ m ab ao bb2 bo ca cb pn pc nk ck ng cg ci nk2 ck2 ng2 cg2 ci2 ra rb x x' dy dz ak ag ai ak2 ag2 ai2 pa) hd 52 (by kernel_rfl))
          exact rg_len _ 34 31 rfl rfl Try.underlying34 (some ⟨ab, ao, none⟩) (m) (ca) e ⟨_, rfl, Below.refl _ _, rfl⟩
        · intro vs w' F hb hd hF hl hT
          have eg := ((hF 117).trans (look_at _ 117 50 _ _ (by kernel_rfl) (by kernel_rfl) hl)).trans (dep_of (Fact := F_td12 b7 b8 at_ m ab ao bb2 bo ca cb pn pc nk ck ng cg ci nk2 ck2 ng2 cg2 ci2 ra rb x x' dy dz ak ag ai ak2 ag2 ai2 pa) hd 50 (by kernel_rfl))
          refine wpList_on rfl (t := 117) (by kernel_rfl) eg ?_
          have e := (hF 9).trans (look_out _ 9 _ _ (by kernel_rfl))
          exact one_move _ rfl (by first | exact Or.inl rfl | exact Or.inr rfl) ⟨_, rfl, Below.refl _ _, e⟩
        · intro vs w' F hb hd hF hl hT
          have eg := ((hF 117).trans (look_at _ 117 50 _ _ (by kernel_rfl) (by kernel_rfl) hl)).trans (dep_of (Fact := F_td12 b7 b8 at_ m ab ao bb2 bo ca cb pn pc nk ck ng cg ci nk2 ck2 ng2 cg2 ci2 ra rb x x' dy dz ak ag ai ak2 ag2 ai2 pa) hd 50 (by kernel_rfl))
          refine wpList_on rfl (t := 117) (by kernel_rfl) eg ?_
          have e := (hF 12).trans (look_out _ 12 _ _ (by kernel_rfl))
          exact one_move _ rfl (by first | exact Or.inl rfl | exact Or.inr rfl) ⟨_, rfl, Below.refl _ _, e⟩
        · intro vs w' F hb hd hF hl hT
          have eg := ((hF 117).trans (look_at _ 117 50 _ _ (by kernel_rfl) (by kernel_rfl) hl)).trans (dep_of (Fact := F_td12 b7 b8 at_ m ab ao bb2 bo ca cb pn pc nk ck ng cg ci nk2 ck2 ng2 cg2 ci2 ra rb x x' dy dz ak ag ai ak2 ag2 ai2 pa) hd 50 (by kernel_rfl))
          refine wpList_on rfl (t := 117) (by kernel_rfl) eg ?_
          have e := (hF 9).trans (look_out _ 9 _ _ (by kernel_rfl))
          exact one_move _ rfl (by first | exact Or.inl rfl | exact Or.inr rfl) ⟨_, rfl, Below.refl _ _, e⟩
        · intro vs w' F hb hd hF hl hT
          have eg := ((hF 117).trans (look_at _ 117 50 _ _ (by kernel_rfl) (by kernel_rfl) hl)).trans (dep_of (Fact := F_td12 b7 b8 at_ m ab ao bb2 bo ca cb pn pc nk ck ng cg ci nk2 ck2 ng2 cg2 ci2 ra rb x x' dy dz ak ag ai ak2 ag2 ai2 pa) hd 50 (by kernel_rfl))
          refine wpList_on rfl (t := 117) (by kernel_rfl) eg ?_
          have ex := ((hF 122).trans (look_at _ 122 55 _ _ (by kernel_rfl) (by kernel_rfl) hl)).trans (dep_of (Fact := F_td12 b7 b8 at_ m ab ao bb2 bo ca cb pn pc nk ck ng cg ci nk2 ck2 ng2 cg2 ci2 ra rb x x' dy dz ak ag ai ak2 ag2 ai2 pa) hd 55 (by kernel_rfl))
          have ey := ((hF 123).trans (look_at _ 123 56 _ _ (by kernel_rfl) (by kernel_rfl) hl)).trans (dep_of (Fact := F_td12 b7 b8 at_ m ab ao bb2 bo ca cb pn pc nk ck ng cg ci nk2 ck2 ng2 cg2 ci2 ra rb x x' dy dz ak ag ai ak2 ag2 ai2 pa) hd 56 (by kernel_rfl))
          exact one_index 34 _ _ rfl rfl (.slice (some ⟨bb2, bo, none⟩) m cb) (.int .i64 (at_ : Int)) (.pointer (some ⟨bb2, bo + at_ * 1, none⟩)) ex ey (fun w => rg_idx Try.underlying34 (show (Try.prog.info? 31).map (·.size) = some 1 by kernel_rfl) (bb2) (bo) (m) (cb) (at_) (HLT.out) w) ⟨_, rfl, Below.refl _ _, rfl⟩
        · intro vs w' F hb hd hF hl hT
          have eg := ((hF 117).trans (look_at _ 117 50 _ _ (by kernel_rfl) (by kernel_rfl) hl)).trans (dep_of (Fact := F_td12 b7 b8 at_ m ab ao bb2 bo ca cb pn pc nk ck ng cg ci nk2 ck2 ng2 cg2 ci2 ra rb x x' dy dz ak ag ai ak2 ag2 ai2 pa) hd 50 (by kernel_rfl))
          refine wpList_on rfl (t := 117) (by kernel_rfl) eg ?_
          have e := ((hF 124).trans (look_at _ 124 57 _ _ (by kernel_rfl) (by kernel_rfl) hl)).trans (dep_of (Fact := F_td12 b7 b8 at_ m ab ao bb2 bo ca cb pn pc nk ck ng cg ci nk2 ck2 ng2 cg2 ci2 ra rb x x' dy dz ak ag ai ak2 ag2 ai2 pa) hd 57 (by kernel_rfl))
          exact one_load _ _ rfl rfl _ _ e (cell_abides HCB.out hb) (by kernel_rfl) ⟨_, rfl, Below.refl _ _, rfl⟩
        · intro vs w' F hb hd hF hl hT
          have eg := ((hF 117).trans (look_at _ 117 50 _ _ (by kernel_rfl) (by kernel_rfl) hl)).trans (dep_of (Fact := F_td12 b7 b8 at_ m ab ao bb2 bo ca cb pn pc nk ck ng cg ci nk2 ck2 ng2 cg2 ci2 ra rb x x' dy dz ak ag ai ak2 ag2 ai2 pa) hd 50 (by kernel_rfl))
          refine wpList_on rfl (t := 117) (by kernel_rfl) eg ?_
          have e := (hF 19).trans (look_out _ 19 _ _ (by kernel_rfl))
          exact one_move _ rfl (by first | exact Or.inl rfl | exact Or.inr rfl) ⟨_, rfl, Below.refl _ _, e⟩
        · intro vs w' F hb hd hF hl hT
          have eg := ((hF 117).trans (look_at _ 117 50 _ _ (by kernel_rfl) (by kernel_rfl) hl)).trans (dep_of (Fact := F_td12 b7 b8 at_ m ab ao bb2 bo ca cb pn pc nk ck ng cg ci nk2 ck2 ng2 cg2 ci2 ra rb x x' dy dz ak ag ai ak2 ag2 ai2 pa) hd 50 (by kernel_rfl))
          refine wpList_on rfl (t := 117) (by kernel_rfl) eg ?_
          have ea0 := ((hF 118).trans (look_at _ 118 51 _ _ (by kernel_rfl) (by kernel_rfl) hl)).trans (dep_of (Fact := F_td12 b7 b8 at_ m ab ao bb2 bo ca cb pn pc nk ck ng cg ci nk2 ck2 ng2 cg2 ci2 ra rb x x' dy dz ak ag ai ak2 ag2 ai2 pa) hd 51 (by kernel_rfl))
          have ea1 := ((hF 120).trans (look_at _ 120 53 _ _ (by kernel_rfl) (by kernel_rfl) hl)).trans (dep_of (Fact := F_td12 b7 b8 at_ m ab ao bb2 bo ca cb pn pc nk ck ng cg ci nk2 ck2 ng2 cg2 ci2 ra rb x x' dy dz ak ag ai ak2 ag2 ai2 pa) hd 53 (by kernel_rfl))
          have ea2 := ((hF 121).trans (look_at _ 121 54 _ _ (by kernel_rfl) (by kernel_rfl) hl)).trans (dep_of (Fact := F_td12 b7 b8 at_ m ab ao bb2 bo ca cb pn pc nk ck ng cg ci nk2 ck2 ng2 cg2 ci2 ra rb x x' dy dz ak ag ai ak2 ag2 ai2 pa) hd 54 (by kernel_rfl))
          have ea3 := ((hF 125).trans (look_at _ 125 58 _ _ (by kernel_rfl) (by kernel_rfl) hl)).trans (dep_of (Fact := F_td12 b7 b8 at_ m ab ao bb2 bo ca cb pn pc nk ck ng cg ci nk2 ck2 ng2 cg2 ci2 ra rb x x' dy dz ak ag ai ak2 ag2 ai2 pa) hd 58 (by kernel_rfl))
          have ea4 := ((hF 126).trans (look_at _ 126 59 _ _ (by kernel_rfl) (by kernel_rfl) hl)).trans (dep_of (Fact := F_td12 b7 b8 at_ m ab ao bb2 bo ca cb pn pc nk ck ng cg ci nk2 ck2 ng2 cg2 ci2 ra rb x x' dy dz ak ag ai ak2 ag2 ai2 pa) hd 59 (by kernel_rfl))
          refine one_call _ _ rfl rfl (enters_of Try.func15 (by kernel_rfl) rfl) #[.int .u64 (ra : Int), .int .i64 (m : Int), .int .i64 (at_ : Int), .int .u64 (x' : Int), .slice pa pn pc] (eval5 ea0 ea1 ea2 ea3 ea4) ?_
          refine (CV2.out w' hb).mono ?_
          rintro e2 w2 ⟨rfl, hb2⟩
          exact ⟨_, rfl, _, rfl, hb2, rfl⟩
        · intro vs w' F hb hd hF hl hT
          have eg := ((hF 117).trans (look_at _ 117 50 _ _ (by kernel_rfl) (by kernel_rfl) hl)).trans (dep_of (Fact := F_td12 b7 b8 at_ m ab ao bb2 bo ca cb pn pc nk ck ng cg ci nk2 ck2 ng2 cg2 ci2 ra rb x x' dy dz ak ag ai ak2 ag2 ai2 pa) hd 50 (by kernel_rfl))
          refine wpList_on rfl (t := 117) (by kernel_rfl) eg ?_
          have e := ((hF 127).trans (look_at _ 127 60 _ _ (by kernel_rfl) (by kernel_rfl) hl)).trans (dep_of (Fact := F_td12 b7 b8 at_ m ab ao bb2 bo ca cb pn pc nk ck ng cg ci nk2 ck2 ng2 cg2 ci2 ra rb x x' dy dz ak ag ai ak2 ag2 ai2 pa) hd 60 (by kernel_rfl))
          exact one_not _ _ rfl rfl _ true e rfl ⟨_, rfl, Below.refl _ _, rfl⟩
        · intro vs w' F hb hd hF hl hT
          have ec := ((hF 117).trans (look_at _ 117 50 _ _ (by kernel_rfl) (by kernel_rfl) hl)).trans (dep_of (Fact := F_td12 b7 b8 at_ m ab ao bb2 bo ca cb pn pc nk ck ng cg ci nk2 ck2 ng2 cg2 ci2 ra rb x x' dy dz ak ag ai ak2 ag2 ai2 pa) hd 50 (by kernel_rfl))
          have e := ((hF 128).trans (look_at _ 128 61 _ _ (by kernel_rfl) (by kernel_rfl) hl)).trans (dep_of (Fact := F_td12 b7 b8 at_ m ab ao bb2 bo ca cb pn pc nk ck ng cg ci nk2 ck2 ng2 cg2 ci2 ra rb x x' dy dz ak ag ai ak2 ag2 ai2 pa) hd 61 (by kernel_rfl))
          exact one_pick_t _ _ _ rfl rfl _ ec e ⟨_, rfl, Below.refl _ _, rfl⟩
        · intro vs w' F hb hd hF hl hT
          have e := ((hF 129).trans (look_at _ 129 62 _ _ (by kernel_rfl) (by kernel_rfl) hl)).trans (dep_of (Fact := F_td12 b7 b8 at_ m ab ao bb2 bo ca cb pn pc nk ck ng cg ci nk2 ck2 ng2 cg2 ci2 ra rb x x' dy dz ak ag ai ak2 ag2 ai2 pa) hd 62 (by kernel_rfl))
          exact one_move _ rfl (by first | exact Or.inl rfl | exact Or.inr rfl) ⟨_, rfl, Below.refl _ _, e⟩
      · intro vs8 W8 hl hb hI
        have i63 : vs8.getD 63 undef = .bool true := hI 63 (by omega)
        obtain ⟨x0, x1, x2, x3, x4, x5, x6, x7, x8, x9, x10, x11, x12, x13, x14, x15, x16, x17, x18, x19, x20, x21, x22, x23, x24, x25, x26, x27, x28, x29, x30, x31, x32, x33, x34, x35, x36, x37, x38, x39, x40, x41, x42, x43, x44, x45, x46, x47, x48, x49, x50, x51, x52, x53, x54, x55, x56, x57, x58, x59, x60, x61, x62, x63, hvs⟩ := list64t hl
        subst hvs
        replace i63 : x63 = .bool true := i63
        subst i63
        have HB9 := Lib.hid hb
        clear hI hl hb
        simp only [fillAll, Act.put, List.setIfInBounds_toArray, List.set_cons_succ, List.set_cons_zero]
        show wpList _ _ _ [] _ _
        go_wp2
        go_ret
        exact ⟨rfl, bt HBe.out HB9.out⟩
end Go.Proofs.Ytncnbfefciobcaa
end
