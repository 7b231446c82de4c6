/- KindSays. -/
import Derived.Test.YtenfegdhbbdinaaDoorKindTwo
import Derived.Test.YtenfegdhbbdinaaDoorKindSame
import Derived.Test.YtenfegdhbbdinaaDoorKindIdx
import Derived.Test.YtenfegdhbbdinaaDoorKindWid
import Derived.Test.YtenfegdhbbdinaaDoorKindHold
import Derived.Test.YtenfegdhbbdinaaDoorKindDef
import Derived.Test.YtenfegdhbbdinaaDoorKindCopy
import Derived.Test.YtenfegdhbbdinaaDoorKindCheck
import Derived.Test.YtenfegdhbbdinaaDoorKindFitEq
import Derived.Test.YtenfegdhbbdinaaDoorKeep
import Derived.Test.YtenfegdhbbdinaaDoorRegTail
import Derived.Test.YtenfegdhbbdinaaDoorRegApp
import Derived.Test.YtenfegdhbbdinaaDoorKindsCells
import Derived.Test.YtenfegdhbbdinaaDoorKindFitd
import Derived.Deep.LoopGhost
namespace Go.Proofs.YtenfegdhbbdinaaDoor
open Go.ChangeShapes Go.WideShapes Go.ChangeAt Go.RowKit Go.Nm Go.Mem
set_option linter.unusedVariables false
theorem inf_kind4 : (Tryd.prog.info? 25).map (fun i => (i.zero, i.size)) = some (some (.agg #[.string ByteArray.empty, .slice none 0 0]), 2) := by kernel_rfl
theorem list43 {α : Type} {vs : List α} (h : vs.length = 43) : ∃ x0 x1 x2 x3 x4 x5 x6 x7 x8 x9 x10 x11 x12 x13 x14 x15 x16 x17 x18 x19 x20 x21 x22 x23 x24 x25 x26 x27 x28 x29 x30 x31 x32 x33 x34 x35 x36 x37 x38 x39 x40 x41 x42, vs = [x0, x1, x2, x3, x4, x5, x6, x7, x8, x9, x10, x11, x12, x13, x14, x15, x16, x17, x18, x19, x20, x21, x22, x23, x24, x25, x26, x27, x28, x29, x30, x31, x32, x33, x34, x35, x36, x37, x38, x39, x40, x41, x42] := by
  obtain ⟨x0, t0, rfl, h0⟩ := cons_of h
  obtain ⟨x1, t1, rfl, h1⟩ := cons_of h0
  obtain ⟨x2, t2, rfl, h2⟩ := cons_of h1
  obtain ⟨x3, t3, rfl, h3⟩ := cons_of h2
  obtain ⟨x4, t4, rfl, h4⟩ := cons_of h3
  obtain ⟨x5, t5, rfl, h5⟩ := cons_of h4
  obtain ⟨x6, t6, rfl, h6⟩ := cons_of h5
  obtain ⟨x7, t7, rfl, h7⟩ := cons_of h6
  obtain ⟨x8, t8, rfl, h8⟩ := cons_of h7
  obtain ⟨x9, t9, rfl, h9⟩ := cons_of h8
  obtain ⟨x10, t10, rfl, h10⟩ := cons_of h9
  obtain ⟨x11, t11, rfl, h11⟩ := cons_of h10
  obtain ⟨x12, t12, rfl, h12⟩ := cons_of h11
  obtain ⟨x13, t13, rfl, h13⟩ := cons_of h12
  obtain ⟨x14, t14, rfl, h14⟩ := cons_of h13
  obtain ⟨x15, t15, rfl, h15⟩ := cons_of h14
  obtain ⟨x16, t16, rfl, h16⟩ := cons_of h15
  obtain ⟨x17, t17, rfl, h17⟩ := cons_of h16
  obtain ⟨x18, t18, rfl, h18⟩ := cons_of h17
  obtain ⟨x19, t19, rfl, h19⟩ := cons_of h18
  obtain ⟨x20, t20, rfl, h20⟩ := cons_of h19
  obtain ⟨x21, t21, rfl, h21⟩ := cons_of h20
  obtain ⟨x22, t22, rfl, h22⟩ := cons_of h21
  obtain ⟨x23, t23, rfl, h23⟩ := cons_of h22
  obtain ⟨x24, t24, rfl, h24⟩ := cons_of h23
  obtain ⟨x25, t25, rfl, h25⟩ := cons_of h24
  obtain ⟨x26, t26, rfl, h26⟩ := cons_of h25
  obtain ⟨x27, t27, rfl, h27⟩ := cons_of h26
  obtain ⟨x28, t28, rfl, h28⟩ := cons_of h27
  obtain ⟨x29, t29, rfl, h29⟩ := cons_of h28
  obtain ⟨x30, t30, rfl, h30⟩ := cons_of h29
  obtain ⟨x31, t31, rfl, h31⟩ := cons_of h30
  obtain ⟨x32, t32, rfl, h32⟩ := cons_of h31
  obtain ⟨x33, t33, rfl, h33⟩ := cons_of h32
  obtain ⟨x34, t34, rfl, h34⟩ := cons_of h33
  obtain ⟨x35, t35, rfl, h35⟩ := cons_of h34
  obtain ⟨x36, t36, rfl, h36⟩ := cons_of h35
  obtain ⟨x37, t37, rfl, h37⟩ := cons_of h36
  obtain ⟨x38, t38, rfl, h38⟩ := cons_of h37
  obtain ⟨x39, t39, rfl, h39⟩ := cons_of h38
  obtain ⟨x40, t40, rfl, h40⟩ := cons_of h39
  obtain ⟨x41, t41, rfl, h41⟩ := cons_of h40
  obtain ⟨x42, t42, rfl, h42⟩ := cons_of h41
  exact ⟨x0, x1, x2, x3, x4, x5, x6, x7, x8, x9, x10, x11, x12, x13, x14, x15, x16, x17, x18, x19, x20, x21, x22, x23, x24, x25, x26, x27, x28, x29, x30, x31, x32, x33, x34, x35, x36, x37, x38, x39, x40, x41, x42, by rw [List.eq_nil_of_length_eq_zero h42]⟩
def F_k6 (BK : Nat) (k : KindV) (ak : Option Addr) (nk ck : Nat) (av : Option Addr) (m cv : Nat) (al : Option Addr) (nl cl : Nat) (s : ByteArray) (u u2 : Value) (hh nb e0 : Bool) (E K1 K2 : Int) (j : Nat) (v : Value) (w : World) : Prop :=
  match j with
  | 0 => v = .int .i64 E
  | 1 => v = .int .i64 E
  | 2 => v = .bool false
  | 3 => v = .bool false
  | 4 => v = u
  | 5 => v = u2
  | 6 => v = .bool true
  | 7 => v = .bool false
  | 8 => v = .bool false
  | 9 => v = .bool false
  | 10 => v = .agg #[.string k.name, .slice ak nk ck]
  | 11 => v = .slice av m cv
  | 12 => v = .bool hh
  | 13 => v = .int .i64 E
  | 14 => v = .bool e0
  | 15 => v = .bool e0
  | 16 => e0 = true → v = u2
  | 17 => e0 = true → v = .slice av m cv
  | 18 => e0 = true → v = .bool hh
  | 19 => v = .bool hh
  | 20 => v = .bool false
  | 21 => v = .bool false
  | 22 => v = .bool false
  | 23 => v = .string s
  | 24 => v = .bool nb
  | 25 => v = .string s
  | 26 => v = .bool nb
  | 27 => v = .bool false
  | 28 => v = .bool false
  | 29 => v = .bool false
  | 30 => v = .agg #[.string k.name, .slice ak nk ck]
  | 31 => v = .int .i64 K1
  | 32 => v = .agg #[.string k.name, .slice ak nk ck]
  | 33 => v = .int .i64 K1
  | 34 => v = .bool false
  | 35 => v = .bool false
  | 36 => v = .bool false
  | 37 => v = .slice al nl cl
  | 38 => v = .int .i64 K2
  | 39 => v = .slice al nl cl
  | 40 => v = .int .i64 K2
  | 41 => v = .bool false
  | 42 => v = .bool false
  | _ => True
theorem F_k6_mono (BK : Nat) (k : KindV) (ak : Option Addr) (nk ck : Nat) (av : Option Addr) (m cv : Nat) (al : Option Addr) (nl cl : Nat) (s : ByteArray) (u u2 : Value) (hh nb e0 : Bool) (E K1 K2 : Int) : Facts (F_k6 BK k ak nk ck av m cv al nl cl s u u2 hh nb e0 E K1 K2) := ⟨by
  intro j v w w' h hb
  unfold F_k6 at h ⊢
  split at h
  all_goals first
    | exact h
    | trivial⟩
def F_k8 (BK : Nat) (k : KindV) (ak : Option Addr) (nk ck : Nat) (j : Nat) (v : Value) (w : World) : Prop :=
  match j with
  | 0 => v = .agg #[.string k.name, .slice ak nk ck]
  | 1 => v = .pointer (some ⟨BK, 1, none⟩)
  | 2 => v = .slice ak nk ck
  | 3 => v = .int .i64 nk
  | 4 => ∃ A, v = .slice (some ⟨A, 0, none⟩) nk nk ∧ IntsAt .i64 w (some ⟨A, 0, none⟩) (List.replicate nk 0)
  | 5 => FitT k (List.replicate nk 0) v w
  | 6 => FitT k (List.replicate nk 0) v w
  | 7 => FitS k (List.replicate nk 0) v w
  | 8 => True
  | 9 => FitS k (List.replicate nk 0) v w
  | 10 => True
  | _ => True
theorem F_k8_mono (BK : Nat) (k : KindV) (ak : Option Addr) (nk ck : Nat) : Facts (F_k8 BK k ak nk ck) := ⟨by
  intro j v w w' h hb
  unfold F_k8 at h ⊢
  split at h
  all_goals first
    | exact h
    | exact FitS.below h hb
    | exact FitT.below h hb
    | (obtain ⟨A, e, hi⟩ := h; exact ⟨A, e, hi.below hb⟩)
    | trivial⟩
def F_k20 (BK : Nat) (k : KindV) (ak : Option Addr) (nk ck : Nat) (l : List KindV) (al : Option Addr) (nl cl : Nat) (s : ByteArray) (FK FF : Int) (j : Nat) (v : Value) (w : World) : Prop :=
  match j with
  | 0 => v = .slice al nl cl
  | 1 => v = .string s
  | 2 => v = .int .i64 FK
  | 3 => v = .slice al nl cl
  | 4 => v = .func (.func 18) #[] #[.pointer (some ⟨BK + 1, 0, none⟩)]
  | 5 => v = .int .i64 FK
  | 6 => v = .bool true
  | 7 => v = .bool true
  | 8 => v = .agg #[.string k.name, .slice ak nk ck]
  | 9 => v = .string s
  | 10 => v = .int .i64 FF
  | 11 => v = .int .i64 FF
  | 12 => v = .bool true
  | 13 => v = .bool true
  | 14 => v = .bool true
  | 15 => v = .slice al nl cl
  | 16 => ∃ a c, v = .slice a nl c ∧ SlAt 2 KindAt w a l
  | 17 => v = .slice al nl cl
  | 18 => v = .bool true
  | 19 => v = .bool true
  | 20 => v = .bool true
  | 21 => v = .slice al nl cl
  | 22 => v = .agg #[.string k.name, .slice ak nk ck]
  | 23 => ∃ X, v = .slice (some ⟨X, 0, none⟩) 1 1 ∧ w.cell? ⟨X, 0, none⟩ = some (.string k.name) ∧ w.cell? ⟨X, 1, none⟩ = some (.slice ak nk ck)
  | 24 => v = .slice al nl cl
  | 25 => ∃ a c, v = .slice a (1 + nl) c
  | 26 => v = .bool false
  | 27 => v = .slice al nl cl
  | 28 => v = .agg #[.string k.name, .slice ak nk ck]
  | 29 => ∃ X, v = .slice (some ⟨X, 0, none⟩) 1 1 ∧ w.cell? ⟨X, 0, none⟩ = some (.string k.name) ∧ w.cell? ⟨X, 1, none⟩ = some (.slice ak nk ck)
  | 30 => v = .slice al nl cl
  | 31 => ∃ a c, v = .slice a (1 + nl) c
  | 32 => v = .bool false
  | 33 => v = .bool true
  | 34 => v = .bool true
  | 35 => v = .bool true
  | 36 => v = .slice al nl cl
  | 37 => v = .slice al nl cl
  | 38 => v = .bool true
  | 39 => v = .bool true
  | 40 => v = .bool true
  | _ => True
theorem F_k20_mono (BK : Nat) (k : KindV) (ak : Option Addr) (nk ck : Nat) (l : List KindV) (al : Option Addr) (nl cl : Nat) (s : ByteArray) (FK FF : Int) : Facts (F_k20 BK k ak nk ck l al nl cl s FK FF) := ⟨by
  intro j v w w' h hb
  unfold F_k20 at h ⊢
  split at h
  all_goals first
    | exact h
    | (obtain ⟨a, c, e, hs⟩ := h; exact ⟨a, c, e, hs.below KindAt.abides hb⟩)
    | (obtain ⟨X, e, h0, h1⟩ := h; exact ⟨X, e, cell_abides h0 hb, cell_abides h1 hb⟩)
    | trivial⟩
theorem list41 {α : Type} {vs : List α} (h : vs.length = 41) : ∃ x0 x1 x2 x3 x4 x5 x6 x7 x8 x9 x10 x11 x12 x13 x14 x15 x16 x17 x18 x19 x20 x21 x22 x23 x24 x25 x26 x27 x28 x29 x30 x31 x32 x33 x34 x35 x36 x37 x38 x39 x40, vs = [x0, x1, x2, x3, x4, x5, x6, x7, x8, x9, x10, x11, x12, x13, x14, x15, x16, x17, x18, x19, x20, x21, x22, x23, x24, x25, x26, x27, x28, x29, x30, x31, x32, x33, x34, x35, x36, x37, x38, x39, x40] := by
  obtain ⟨x0, t0, rfl, h0⟩ := cons_of h
  obtain ⟨x1, t1, rfl, h1⟩ := cons_of h0
  obtain ⟨x2, t2, rfl, h2⟩ := cons_of h1
  obtain ⟨x3, t3, rfl, h3⟩ := cons_of h2
  obtain ⟨x4, t4, rfl, h4⟩ := cons_of h3
  obtain ⟨x5, t5, rfl, h5⟩ := cons_of h4
  obtain ⟨x6, t6, rfl, h6⟩ := cons_of h5
  obtain ⟨x7, t7, rfl, h7⟩ := cons_of h6
  obtain ⟨x8, t8, rfl, h8⟩ := cons_of h7
  obtain ⟨x9, t9, rfl, h9⟩ := cons_of h8
  obtain ⟨x10, t10, rfl, h10⟩ := cons_of h9
  obtain ⟨x11, t11, rfl, h11⟩ := cons_of h10
  obtain ⟨x12, t12, rfl, h12⟩ := cons_of h11
  obtain ⟨x13, t13, rfl, h13⟩ := cons_of h12
  obtain ⟨x14, t14, rfl, h14⟩ := cons_of h13
  obtain ⟨x15, t15, rfl, h15⟩ := cons_of h14
  obtain ⟨x16, t16, rfl, h16⟩ := cons_of h15
  obtain ⟨x17, t17, rfl, h17⟩ := cons_of h16
  obtain ⟨x18, t18, rfl, h18⟩ := cons_of h17
  obtain ⟨x19, t19, rfl, h19⟩ := cons_of h18
  obtain ⟨x20, t20, rfl, h20⟩ := cons_of h19
  obtain ⟨x21, t21, rfl, h21⟩ := cons_of h20
  obtain ⟨x22, t22, rfl, h22⟩ := cons_of h21
  obtain ⟨x23, t23, rfl, h23⟩ := cons_of h22
  obtain ⟨x24, t24, rfl, h24⟩ := cons_of h23
  obtain ⟨x25, t25, rfl, h25⟩ := cons_of h24
  obtain ⟨x26, t26, rfl, h26⟩ := cons_of h25
  obtain ⟨x27, t27, rfl, h27⟩ := cons_of h26
  obtain ⟨x28, t28, rfl, h28⟩ := cons_of h27
  obtain ⟨x29, t29, rfl, h29⟩ := cons_of h28
  obtain ⟨x30, t30, rfl, h30⟩ := cons_of h29
  obtain ⟨x31, t31, rfl, h31⟩ := cons_of h30
  obtain ⟨x32, t32, rfl, h32⟩ := cons_of h31
  obtain ⟨x33, t33, rfl, h33⟩ := cons_of h32
  obtain ⟨x34, t34, rfl, h34⟩ := cons_of h33
  obtain ⟨x35, t35, rfl, h35⟩ := cons_of h34
  obtain ⟨x36, t36, rfl, h36⟩ := cons_of h35
  obtain ⟨x37, t37, rfl, h37⟩ := cons_of h36
  obtain ⟨x38, t38, rfl, h38⟩ := cons_of h37
  obtain ⟨x39, t39, rfl, h39⟩ := cons_of h38
  obtain ⟨x40, t40, rfl, h40⟩ := cons_of h39
  exact ⟨x0, x1, x2, x3, x4, x5, x6, x7, x8, x9, x10, x11, x12, x13, x14, x15, x16, x17, x18, x19, x20, x21, x22, x23, x24, x25, x26, x27, x28, x29, x30, x31, x32, x33, x34, x35, x36, x37, x38, x39, x40, by rw [List.eq_nil_of_length_eq_zero h40]⟩

set_option maxHeartbeats 8000000 in
set_option maxRecDepth 100000 in
theorem walk_KindSays (l : List KindV) (al : Option Addr) (nl cl : Nat) (k : KindV) (ak : Option Addr) (nk ck : Nat) (vals : List Int) (av : Option Addr) (m cv : Nat) (s : ByteArray)
    (hnl : l.length = nl) (hnl2 : nl ≤ 3518437208780) (hlc : nl ≤ cl) (hcl : cl ≤ 9223372036854775807) (hlv : ∀ y ∈ l, y.fields.length ≤ 4398046510976) (hnk : k.fields.length = nk) (hnk2 : nk ≤ 4398046510976) (hkc : nk ≤ ck) (hck : ck ≤ 9223372036854775807) (hkn : k.name.size ≤ 9223372036854775807)
    (hm : vals.length = m) (hm2 : m ≤ 17592186044000) (hs : s.size ≤ 9223372036854775807) (W : World) (hzl : SlAt 2 KindAt W al l) (hzk : SlAt 3 FieldAt W ak k.fields) (hv : IntsAt .i64 W av vals) :
    Calls Tryd.prog 3 #[.slice al nl cl, .agg #[.string k.name, .slice ak nk ck], .slice av m cv, .string s] W fun e w' => e = .returned (.bool true) ∧ Below W.heap.size W w' := by
  obtain ⟨W0, hW0⟩ : ∃ W0, W0 = (W.alloc (.cells #[.string k.name, .slice ak nk ck] 25)).alloc (.cells #[.string s] 9) := ⟨_, rfl⟩
  have hb0 : Below W.heap.size W W0 := by rw [hW0]; exact ((Below.refl _ _).alloc (Nat.le_refl _) _).alloc (by simp) _
  have hk0 : W0.heap[W.heap.size]? = some (.cells #[.string k.name, .slice ak nk ck] 25 (0, 0)) := by rw [hW0]; exact heap_keep (heap_alloc_new W _) _
  have hs0 : W0.heap[W.heap.size + 1]? = some (.cells #[.string s] 9 (0, 0)) := by
    have := heap_alloc_new (W.alloc (.cells #[.string k.name, .slice ak nk ck] 25)) (.cells #[.string s] 9)
    rw [World.size_alloc] at this
    rw [hW0]; exact this
  have HW0 := Lib.hid hW0
  have HB0 := Lib.hid hb0
  have HK0 := Lib.hid hk0
  have HS0 := Lib.hid hs0
  have HZL := Lib.hid (hzl.below KindAt.abides hb0)
  have HZK := Lib.hid (hzk.below FieldAt.abides hb0)
  have HV := Lib.hid (hv.below hb0)
  clear hb0 hk0 hs0 hzl hzk hv hW0
  go_enter Tryd.func3, Tryd.ntmps3
  go_wp2_with fail
  rw [← HW0.out]
  refine (two_w _).mono ?_
  rintro e w1 ⟨rfl, h2⟩
  have HT := Lib.hid (kTwo_at h2)
  obtain ⟨hb2, f0, f1, g0⟩ := h2
  have d0 : w1.cell? ⟨W0.heap.size + 1 + 1, 0, none⟩ = some (.string ⟨#[112, 108, 97, 99, 101]⟩) := by rw [cell_of_row _ _ _ _ _ _ g0]; rfl
  have d1 : w1.cell? ⟨W0.heap.size + 1 + 1, 1, none⟩ = some (.slice (some ⟨W0.heap.size, 0, none⟩) 1 1) := by rw [cell_of_row _ _ _ _ _ _ g0]; rfl
  have hb9 := (Below.refl w1.heap.size w1).alloc (Nat.le_refl _) (.cells #[.int .i64 9] 3)
  have HF1 := Lib.hid (kind_Fit kTwo (some ⟨W0.heap.size, 0, none⟩) 1 1 [9] (some ⟨w1.heap.size, 0, none⟩) 1 1 rfl rfl (by decide) (by show ByteArray.size ⟨#[112, 108, 97, 99, 101]⟩ ≤ _; decide) (Nat.le_refl _) (by decide) (w1.alloc (.cells #[.int .i64 9] 3)) (HT.out.below FieldAt.abides hb9) (ints_one _ _ _))
  have HB9 := Lib.hid (hb2.trans (hb9.mono hb2.size))
  clear hb2 f0 f1 g0 hb9 HT
  go_wp2_with fail
  refine HF1.out.mono ?_
  rintro e w3 ⟨_, hpo, hb3⟩
  obtain ⟨a3, c3, rfl, hi3⟩ := hpo kTwo_fitE
  rw [kTwo_fitL] at hi3
  have hb4 := (Below.refl w3.heap.size w3).alloc (Nat.le_refl _) (.cells #[.int .i64 5] 3)
  have heq := (eq_ints a3 (some ⟨w3.heap.size, 0, none⟩) c3 1 [5] [5] (by decide) (by decide) (w3.alloc (.cells #[.int .i64 5] 3)) (hi3.below hb4) (ints_one _ _ _))
  rw [show decide (([5] : List Int) = [5]) = true from by decide] at heq
  have HEQ := Lib.hid heq
  have HB4 := Lib.hid ((HB9.out.trans (hb3.mono HB9.out.size)).trans (hb4.mono (HB9.out.trans (hb3.mono HB9.out.size)).size))
  clear heq hi3 hb3 hb4 hpo HF1 HB9 d0 d1
  go_wp2_with fail
  refine HEQ.out.mono ?_
  rintro e w4 ⟨rfl, hb5⟩
  have HB5 := Lib.hid (HB4.out.trans (hb5.mono HB4.out.size))
  clear hb5 HEQ HB4
  have HK5 := Lib.hid (heap_below HK0.out HB5.out)
  have d0 : w4.cell? ⟨W.heap.size, 0, none⟩ = some (.string k.name) := by rw [cell_of_row _ _ _ _ _ _ HK5.out]; rfl
  have d1 : w4.cell? ⟨W.heap.size, 1, none⟩ = some (.slice ak nk ck) := by rw [cell_of_row _ _ _ _ _ _ HK5.out]; rfl
  have HF2 := Lib.hid (kind_Fit k ak nk ck vals av m cv hnk hm (by omega) hkn hkc hck w4 (HZK.out.below FieldAt.abides HB5.out) (HV.out.below HB5.out))
  go_wp2_with fail
  refine HF2.out.mono ?_
  rintro e w5 hp
  have HB6 := Lib.hid (HB5.out.trans (hp.2.2.mono HB5.out.size))
  obtain ⟨_, rfl, u, rfl, hu⟩ := FitPost.tuple hp
  have HU := Lib.hid hu
  have e0 : w5.cell? ⟨W.heap.size, 0, none⟩ = some (.string k.name) := cell_abides d0 hp.2.2
  have e1 : w5.cell? ⟨W.heap.size, 1, none⟩ = some (.slice ak nk ck) := cell_abides d1 hp.2.2
  have HF3 := Lib.hid (ref_Fitted k ak nk ck vals av m cv hnk hm (by omega) hkn hkc hck w5 (HZK.out.below FieldAt.abides HB6.out) (HV.out.below HB6.out))
  obtain ⟨E, hE⟩ : ∃ E, E = fitE k vals := ⟨_, rfl⟩
  rw [← hE]
  have HE := Lib.hid hE
  clear hp hu hE d0 d1 HF2 HK5 HB5
  go_wp2_with fail
  refine HF3.out.mono ?_
  rintro e w6 hp
  have HB7 := Lib.hid (HB6.out.trans (hp.2.2.mono HB6.out.size))
  have HU6 := Lib.hid (HU.out.below hp.2.2)
  obtain ⟨_, rfl, u2, rfl, hu⟩ := FitPost.tuple hp
  rw [← HE.out]
  have HU2 := Lib.hid hu
  have d0 : w6.cell? ⟨W.heap.size, 0, none⟩ = some (.string k.name) := cell_abides e0 hp.2.2
  have d1 : w6.cell? ⟨W.heap.size, 1, none⟩ = some (.slice ak nk ck) := cell_abides e1 hp.2.2
  have d2 : w6.cell? ⟨W.heap.size + 1, 0, none⟩ = some (.string s) := by rw [cell_of_row _ _ _ _ _ _ (heap_below HS0.out HB7.out)]; rfl
  clear hp hu HU e0 e1 HF3 HB6
  have A1 := Lib.hid (fun w' (hb : Below w6.heap.size w6 w') => fits_equal k vals u u2 (by omega) w' (HU6.out.below hb) (HU2.out.below hb))
  have A2 := Lib.hid (fun w' (hb : Below w6.heap.size w6 w') => kind_Holds k ak nk ck vals av m cv hnk hm (by omega) hkn hkc hck w' (HZK.out.below FieldAt.abides (HB7.out.trans (hb.mono HB7.out.size))) (HV.out.below (HB7.out.trans (hb.mono HB7.out.size))))
  have A3 := Lib.hid (kind_Name s hs)
  have A4 := Lib.hid (ref_IsName s hs)
  have A5 := Lib.hid (fun w' (hb : Below w6.heap.size w6 w') => kind_One k ak nk ck hnk hkn hkc hck w' (HZK.out.below FieldAt.abides (HB7.out.trans (hb.mono HB7.out.size))))
  have A6 := Lib.hid (fun w' (hb : Below w6.heap.size w6 w') => ref_KindError k ak nk ck hnk hkn (by omega) w' (HZK.out.below FieldAt.abides (HB7.out.trans (hb.mono HB7.out.size))))
  have A7 := Lib.hid (fun w' (hb : Below w6.heap.size w6 w') => kind_Check l al nl cl hnl (by omega) hlc hcl w' (HZL.out.below KindAt.abides (HB7.out.trans (hb.mono HB7.out.size))))
  have A8 := Lib.hid (fun w' (hb : Below w6.heap.size w6 w') => ref_KindsError l al nl cl hnl (by omega) w' (HZL.out.below KindAt.abides (HB7.out.trans (hb.mono HB7.out.size))))
  obtain ⟨K1, hK1⟩ : ∃ K1, K1 = kindE k := ⟨_, rfl⟩
  obtain ⟨K2, hK2⟩ : ∃ K2, K2 = kindsE l := ⟨_, rfl⟩
  obtain ⟨nb, hnb⟩ : ∃ nb, nb = nameB s.data.toList := ⟨_, rfl⟩
  rw [← hK1] at A5 A6
  rw [← hK2] at A7 A8
  rw [← hnb] at A3 A4
  have HK1 := Lib.hid hK1
  clear hK1 hK2 hnb
  obtain ⟨hh, hhh⟩ : ∃ hh, hh = holdsB k vals := ⟨_, rfl⟩
  obtain ⟨e0, he0⟩ : ∃ e0, e0 = (E == 0) := ⟨_, rfl⟩
  have A9 := Lib.hid (fun (h : e0 = true) w' (hb : Below w6.heap.size w6 w') => fit_vals k vals u2 av m cv hm (by omega) (HE.out.symm.trans (by simpa using he0.symm.trans h)) w' (HU2.out.below hb) (HV.out.below (HB7.out.trans (hb.mono HB7.out.size))))
  have HHF := Lib.hid (show e0 = false → hh = false from fun h => by
    rw [hhh]; unfold holdsB
    have : ¬ fitE k vals = 0 := by rw [← HE.out]; simpa using he0.symm.trans h
    simp [this])
  rw [← hhh] at A2 A9
  have HE0 := Lib.hid he0.symm
  have HK6 := Lib.hid (heap_below HK0.out HB7.out)
  have D2 := Lib.hid d2
  clear hhh he0
  go_wp2_with fail
  refine wp_region_facts_t rfl 43 (by kernel_rfl) (F_k6 W.heap.size k ak nk ck av m cv al nl cl s u u2 hh nb e0 E K1 K2) (F_k6_mono W.heap.size k ak nk ck av m cv al nl cl s u u2 hh nb e0 E K1 K2) ?_ ?_
  · refine ⟨?_, ?_, ?_, ?_, ?_, ?_, ?_, ?_, ?_, ?_, ?_, ?_, ?_, ?_, ?_, ?_, ?_, ?_, ?_, ?_, ?_, ?_, ?_, ?_, ?_, ?_, ?_, ?_, ?_, ?_, ?_, ?_, ?_, ?_, ?_, ?_, ?_, ?_, ?_, ?_, ?_, ?_, ?_, trivial⟩
    · intro vs w' F hb hd hF hl hT
      have e := (hF 12).trans (look_out _ 12 _ _ (by kernel_rfl))
      exact one_move _ rfl (by first | exact Or.inl rfl | exact Or.inr rfl) ⟨_, rfl, Below.refl _ _, e⟩
    · intro vs w' F hb hd hF hl hT
      have e := (hF 14).trans (look_out _ 14 _ _ (by kernel_rfl))
      exact one_move _ rfl (by first | exact Or.inl rfl | exact Or.inr rfl) ⟨_, rfl, Below.refl _ _, e⟩
    · intro vs w' F hb hd hF hl hT
      have e1 := ((hF 52).trans (look_at _ 52 0 _ _ (by kernel_rfl) (by kernel_rfl) hl)).trans (dep_of (Fact := F_k6 W.heap.size k ak nk ck av m cv al nl cl s u u2 hh nb e0 E K1 K2) hd 0 (by kernel_rfl))
      have e2 := ((hF 53).trans (look_at _ 53 1 _ _ (by kernel_rfl) (by kernel_rfl) hl)).trans (dep_of (Fact := F_k6 W.heap.size k ak nk ck av m cv al nl cl s u u2 hh nb e0 E K1 K2) hd 1 (by kernel_rfl))
      exact one_int_ne _ _ _ _ rfl rfl _ _ _ false e1 e2 (bne_self_eq_false _) ⟨_, rfl, Below.refl _ _, rfl⟩
    · intro vs w' F hb hd hF hl hT
      have e := ((hF 54).trans (look_at _ 54 2 _ _ (by kernel_rfl) (by kernel_rfl) hl)).trans (dep_of (Fact := F_k6 W.heap.size k ak nk ck av m cv al nl cl s u u2 hh nb e0 E K1 K2) hd 2 (by kernel_rfl))
      exact one_move _ rfl (by first | exact Or.inl rfl | exact Or.inr rfl) ⟨_, rfl, Below.refl _ _, e⟩
    · intro vs w' F hb hd hF hl hT
      have eg := ((hF 55).trans (look_at _ 55 3 _ _ (by kernel_rfl) (by kernel_rfl) hl)).trans (dep_of (Fact := F_k6 W.heap.size k ak nk ck av m cv al nl cl s u u2 hh nb e0 E K1 K2) hd 3 (by kernel_rfl))
      refine wpList_on rfl (t := 55) (by kernel_rfl) eg ?_
      have e := (hF 11).trans (look_out _ 11 _ _ (by kernel_rfl))
      exact one_move _ rfl (by first | exact Or.inl rfl | exact Or.inr rfl) ⟨_, rfl, Below.refl _ _, e⟩
    · intro vs w' F hb hd hF hl hT
      have eg := ((hF 55).trans (look_at _ 55 3 _ _ (by kernel_rfl) (by kernel_rfl) hl)).trans (dep_of (Fact := F_k6 W.heap.size k ak nk ck av m cv al nl cl s u u2 hh nb e0 E K1 K2) hd 3 (by kernel_rfl))
      refine wpList_on rfl (t := 55) (by kernel_rfl) eg ?_
      have e := (hF 13).trans (look_out _ 13 _ _ (by kernel_rfl))
      exact one_move _ rfl (by first | exact Or.inl rfl | exact Or.inr rfl) ⟨_, rfl, Below.refl _ _, e⟩
    · intro vs w' F hb hd hF hl hT
      have eg := ((hF 55).trans (look_at _ 55 3 _ _ (by kernel_rfl) (by kernel_rfl) hl)).trans (dep_of (Fact := F_k6 W.heap.size k ak nk ck av m cv al nl cl s u u2 hh nb e0 E K1 K2) hd 3 (by kernel_rfl))
      refine wpList_on rfl (t := 55) (by kernel_rfl) eg ?_
      refine one_call _ _ rfl rfl (enters_of Tryd.func7 (by kernel_rfl) rfl) #[u, u2] (eval2 (((hF 56).trans (look_at _ 56 4 _ _ (by kernel_rfl) (by kernel_rfl) hl)).trans (dep_of (Fact := F_k6 W.heap.size k ak nk ck av m cv al nl cl s u u2 hh nb e0 E K1 K2) hd 4 (by kernel_rfl))) (((hF 57).trans (look_at _ 57 5 _ _ (by kernel_rfl) (by kernel_rfl) hl)).trans (dep_of (Fact := F_k6 W.heap.size k ak nk ck av m cv al nl cl s u u2 hh nb e0 E K1 K2) hd 5 (by kernel_rfl)))) ?_
      refine (A1.out w' hb).mono ?_
      rintro e2 w2 ⟨rfl, hb2⟩
      exact ⟨_, rfl, _, rfl, hb2, rfl⟩
    · intro vs w' F hb hd hF hl hT
      have eg := ((hF 55).trans (look_at _ 55 3 _ _ (by kernel_rfl) (by kernel_rfl) hl)).trans (dep_of (Fact := F_k6 W.heap.size k ak nk ck av m cv al nl cl s u u2 hh nb e0 E K1 K2) hd 3 (by kernel_rfl))
      refine wpList_on rfl (t := 55) (by kernel_rfl) eg ?_
      have e := ((hF 58).trans (look_at _ 58 6 _ _ (by kernel_rfl) (by kernel_rfl) hl)).trans (dep_of (Fact := F_k6 W.heap.size k ak nk ck av m cv al nl cl s u u2 hh nb e0 E K1 K2) hd 6 (by kernel_rfl))
      exact one_not _ _ rfl rfl _ false e rfl ⟨_, rfl, Below.refl _ _, rfl⟩
    · intro vs w' F hb hd hF hl hT
      have ec := ((hF 55).trans (look_at _ 55 3 _ _ (by kernel_rfl) (by kernel_rfl) hl)).trans (dep_of (Fact := F_k6 W.heap.size k ak nk ck av m cv al nl cl s u u2 hh nb e0 E K1 K2) hd 3 (by kernel_rfl))
      have e := ((hF 59).trans (look_at _ 59 7 _ _ (by kernel_rfl) (by kernel_rfl) hl)).trans (dep_of (Fact := F_k6 W.heap.size k ak nk ck av m cv al nl cl s u u2 hh nb e0 E K1 K2) hd 7 (by kernel_rfl))
      exact one_pick_f _ _ _ rfl rfl _ ec e ⟨_, rfl, Below.refl _ _, rfl⟩
    · intro vs w' F hb hd hF hl hT
      have e := ((hF 60).trans (look_at _ 60 8 _ _ (by kernel_rfl) (by kernel_rfl) hl)).trans (dep_of (Fact := F_k6 W.heap.size k ak nk ck av m cv al nl cl s u u2 hh nb e0 E K1 K2) hd 8 (by kernel_rfl))
      exact one_move _ rfl (by first | exact Or.inl rfl | exact Or.inr rfl) ⟨_, rfl, Below.refl _ _, e⟩
    · intro vs w' F hb hd hF hl hT
      have eg := ((hF 61).trans (look_at _ 61 9 _ _ (by kernel_rfl) (by kernel_rfl) hl)).trans (dep_of (Fact := F_k6 W.heap.size k ak nk ck av m cv al nl cl s u u2 hh nb e0 E K1 K2) hd 9 (by kernel_rfl))
      refine wpList_on rfl (t := 61) (by kernel_rfl) eg ?_
      have e := (hF 5).trans (look_out _ 5 _ _ (by kernel_rfl))
      exact one_load_row 25 _ rfl rfl W.heap.size #[.string k.name, .slice ak nk ck] 25 (0, 0) e (heap_below HK6.out hb) _ Tryd.underlying25 rfl (by kernel_rfl) ⟨_, rfl, Below.refl _ _, rfl⟩
    · intro vs w' F hb hd hF hl hT
      have eg := ((hF 61).trans (look_at _ 61 9 _ _ (by kernel_rfl) (by kernel_rfl) hl)).trans (dep_of (Fact := F_k6 W.heap.size k ak nk ck av m cv al nl cl s u u2 hh nb e0 E K1 K2) hd 9 (by kernel_rfl))
      refine wpList_on rfl (t := 61) (by kernel_rfl) eg ?_
      have e := (hF 2).trans (look_out _ 2 _ _ (by kernel_rfl))
      exact one_move _ rfl (by first | exact Or.inl rfl | exact Or.inr rfl) ⟨_, rfl, Below.refl _ _, e⟩
    · intro vs w' F hb hd hF hl hT
      have eg := ((hF 61).trans (look_at _ 61 9 _ _ (by kernel_rfl) (by kernel_rfl) hl)).trans (dep_of (Fact := F_k6 W.heap.size k ak nk ck av m cv al nl cl s u u2 hh nb e0 E K1 K2) hd 9 (by kernel_rfl))
      refine wpList_on rfl (t := 61) (by kernel_rfl) eg ?_
      refine one_call _ _ rfl rfl (enters_of Tryd.func9 (by kernel_rfl) rfl) #[.agg #[.string k.name, .slice ak nk ck], .slice av m cv] (eval2 (((hF 62).trans (look_at _ 62 10 _ _ (by kernel_rfl) (by kernel_rfl) hl)).trans (dep_of (Fact := F_k6 W.heap.size k ak nk ck av m cv al nl cl s u u2 hh nb e0 E K1 K2) hd 10 (by kernel_rfl))) (((hF 63).trans (look_at _ 63 11 _ _ (by kernel_rfl) (by kernel_rfl) hl)).trans (dep_of (Fact := F_k6 W.heap.size k ak nk ck av m cv al nl cl s u u2 hh nb e0 E K1 K2) hd 11 (by kernel_rfl)))) ?_
      refine (A2.out w' hb).mono ?_
      rintro e2 w2 ⟨rfl, hb2⟩
      exact ⟨_, rfl, _, rfl, hb2, rfl⟩
    · intro vs w' F hb hd hF hl hT
      have eg := ((hF 61).trans (look_at _ 61 9 _ _ (by kernel_rfl) (by kernel_rfl) hl)).trans (dep_of (Fact := F_k6 W.heap.size k ak nk ck av m cv al nl cl s u u2 hh nb e0 E K1 K2) hd 9 (by kernel_rfl))
      refine wpList_on rfl (t := 61) (by kernel_rfl) eg ?_
      have e := (hF 14).trans (look_out _ 14 _ _ (by kernel_rfl))
      exact one_move _ rfl (by first | exact Or.inl rfl | exact Or.inr rfl) ⟨_, rfl, Below.refl _ _, e⟩
    · intro vs w' F hb hd hF hl hT
      have eg := ((hF 61).trans (look_at _ 61 9 _ _ (by kernel_rfl) (by kernel_rfl) hl)).trans (dep_of (Fact := F_k6 W.heap.size k ak nk ck av m cv al nl cl s u u2 hh nb e0 E K1 K2) hd 9 (by kernel_rfl))
      refine wpList_on rfl (t := 61) (by kernel_rfl) eg ?_
      have e := (((hF 65).trans (look_at _ 65 13 _ _ (by kernel_rfl) (by kernel_rfl) hl)).trans (dep_of (Fact := F_k6 W.heap.size k ak nk ck av m cv al nl cl s u u2 hh nb e0 E K1 K2) hd 13 (by kernel_rfl)))
      exact one_int_eq _ _ _ _ rfl rfl _ _ _ e0 e rfl HE0.out ⟨_, rfl, Below.refl _ _, rfl⟩
    · intro vs w' F hb hd hF hl hT
      have eg := ((hF 61).trans (look_at _ 61 9 _ _ (by kernel_rfl) (by kernel_rfl) hl)).trans (dep_of (Fact := F_k6 W.heap.size k ak nk ck av m cv al nl cl s u u2 hh nb e0 E K1 K2) hd 9 (by kernel_rfl))
      refine wpList_on rfl (t := 61) (by kernel_rfl) eg ?_
      have e := ((hF 66).trans (look_at _ 66 14 _ _ (by kernel_rfl) (by kernel_rfl) hl)).trans (dep_of (Fact := F_k6 W.heap.size k ak nk ck av m cv al nl cl s u u2 hh nb e0 E K1 K2) hd 14 (by kernel_rfl))
      exact one_move _ rfl (by first | exact Or.inl rfl | exact Or.inr rfl) ⟨_, rfl, Below.refl _ _, e⟩
    · intro vs w' F hb hd hF hl hT
      have eg := (((hF 67).trans (look_at _ 67 15 _ _ (by kernel_rfl) (by kernel_rfl) hl)).trans (dep_of (Fact := F_k6 W.heap.size k ak nk ck av m cv al nl cl s u u2 hh nb e0 E K1 K2) hd 15 (by kernel_rfl)))
      have e := ((hF 13).trans (look_out _ 13 _ _ (by kernel_rfl)))
      by_cases h0 : e0 = true
      · rw [h0] at eg; refine wpList_on rfl (t := 67) (by kernel_rfl) eg ?_; exact one_move _ rfl (Or.inl rfl) ⟨_, rfl, Below.refl _ _, fun _ => e⟩
      · rw [show e0 = false by simpa using h0] at eg; exact wpList_off rfl (t := 67) (by kernel_rfl) eg (by decide) ⟨_, rfl, Below.refl _ _, fun h => absurd h h0⟩
    · intro vs w' F hb hd hF hl hT
      have eg := (((hF 67).trans (look_at _ 67 15 _ _ (by kernel_rfl) (by kernel_rfl) hl)).trans (dep_of (Fact := F_k6 W.heap.size k ak nk ck av m cv al nl cl s u u2 hh nb e0 E K1 K2) hd 15 (by kernel_rfl)))
      have e := ((hF 2).trans (look_out _ 2 _ _ (by kernel_rfl)))
      by_cases h0 : e0 = true
      · rw [h0] at eg; refine wpList_on rfl (t := 67) (by kernel_rfl) eg ?_; exact one_move _ rfl (Or.inl rfl) ⟨_, rfl, Below.refl _ _, fun _ => e⟩
      · rw [show e0 = false by simpa using h0] at eg; exact wpList_off rfl (t := 67) (by kernel_rfl) eg (by decide) ⟨_, rfl, Below.refl _ _, fun h => absurd h h0⟩
    · intro vs w' F hb hd hF hl hT
      have eg := (((hF 67).trans (look_at _ 67 15 _ _ (by kernel_rfl) (by kernel_rfl) hl)).trans (dep_of (Fact := F_k6 W.heap.size k ak nk ck av m cv al nl cl s u u2 hh nb e0 E K1 K2) hd 15 (by kernel_rfl)))
      by_cases h0 : e0 = true
      · rw [h0] at eg; refine wpList_on rfl (t := 67) (by kernel_rfl) eg ?_; have e1 := ((hF 68).trans (look_at _ 68 16 _ _ (by kernel_rfl) (by kernel_rfl) hl)).trans ((dep_of (Fact := F_k6 W.heap.size k ak nk ck av m cv al nl cl s u u2 hh nb e0 E K1 K2) hd 16 (by kernel_rfl)) h0); have e2 := ((hF 69).trans (look_at _ 69 17 _ _ (by kernel_rfl) (by kernel_rfl) hl)).trans ((dep_of (Fact := F_k6 W.heap.size k ak nk ck av m cv al nl cl s u u2 hh nb e0 E K1 K2) hd 17 (by kernel_rfl)) h0); refine one_call _ _ rfl rfl (enters_of Tryd.func7 (by kernel_rfl) rfl) #[u2, .slice av m cv] (eval2 e1 e2) ?_; refine (A9.out h0 w' hb).mono ?_; rintro e2 w2 ⟨rfl, hb2⟩; exact ⟨_, rfl, _, rfl, hb2, fun _ => rfl⟩
      · rw [show e0 = false by simpa using h0] at eg; exact wpList_off rfl (t := 67) (by kernel_rfl) eg (by decide) ⟨_, rfl, Below.refl _ _, fun h => absurd h h0⟩
    · intro vs w' F hb hd hF hl hT
      have eg := ((hF 61).trans (look_at _ 61 9 _ _ (by kernel_rfl) (by kernel_rfl) hl)).trans (dep_of (Fact := F_k6 W.heap.size k ak nk ck av m cv al nl cl s u u2 hh nb e0 E K1 K2) hd 9 (by kernel_rfl))
      refine wpList_on rfl (t := 61) (by kernel_rfl) eg ?_
      have ec := (((hF 67).trans (look_at _ 67 15 _ _ (by kernel_rfl) (by kernel_rfl) hl)).trans (dep_of (Fact := F_k6 W.heap.size k ak nk ck av m cv al nl cl s u u2 hh nb e0 E K1 K2) hd 15 (by kernel_rfl)))
      by_cases h0 : e0 = true
      · rw [h0] at ec; exact one_pick_t _ _ _ rfl rfl _ ec (((hF 70).trans (look_at _ 70 18 _ _ (by kernel_rfl) (by kernel_rfl) hl)).trans ((dep_of (Fact := F_k6 W.heap.size k ak nk ck av m cv al nl cl s u u2 hh nb e0 E K1 K2) hd 18 (by kernel_rfl)) h0)) ⟨_, rfl, Below.refl _ _, rfl⟩
      · have h1 : e0 = false := by simpa using h0
        rw [h1] at ec; exact one_pick_f _ _ _ rfl rfl _ ec rfl ⟨_, rfl, Below.refl _ _, by rw [HHF.out h1]; rfl⟩
    · intro vs w' F hb hd hF hl hT
      have eg := ((hF 61).trans (look_at _ 61 9 _ _ (by kernel_rfl) (by kernel_rfl) hl)).trans (dep_of (Fact := F_k6 W.heap.size k ak nk ck av m cv al nl cl s u u2 hh nb e0 E K1 K2) hd 9 (by kernel_rfl))
      refine wpList_on rfl (t := 61) (by kernel_rfl) eg ?_
      have e1 := ((hF 64).trans (look_at _ 64 12 _ _ (by kernel_rfl) (by kernel_rfl) hl)).trans (dep_of (Fact := F_k6 W.heap.size k ak nk ck av m cv al nl cl s u u2 hh nb e0 E K1 K2) hd 12 (by kernel_rfl))
      have e2 := ((hF 71).trans (look_at _ 71 19 _ _ (by kernel_rfl) (by kernel_rfl) hl)).trans (dep_of (Fact := F_k6 W.heap.size k ak nk ck av m cv al nl cl s u u2 hh nb e0 E K1 K2) hd 19 (by kernel_rfl))
      exact one_bool_ne _ _ _ _ rfl rfl (by kernel_rfl) _ _ false e1 e2 (bne_self_eq_false _) ⟨_, rfl, Below.refl _ _, rfl⟩
    · intro vs w' F hb hd hF hl hT
      have ec := ((hF 61).trans (look_at _ 61 9 _ _ (by kernel_rfl) (by kernel_rfl) hl)).trans (dep_of (Fact := F_k6 W.heap.size k ak nk ck av m cv al nl cl s u u2 hh nb e0 E K1 K2) hd 9 (by kernel_rfl))
      have e := ((hF 72).trans (look_at _ 72 20 _ _ (by kernel_rfl) (by kernel_rfl) hl)).trans (dep_of (Fact := F_k6 W.heap.size k ak nk ck av m cv al nl cl s u u2 hh nb e0 E K1 K2) hd 20 (by kernel_rfl))
      exact one_pick_f _ _ _ rfl rfl _ ec e ⟨_, rfl, Below.refl _ _, rfl⟩
    · intro vs w' F hb hd hF hl hT
      have e := ((hF 73).trans (look_at _ 73 21 _ _ (by kernel_rfl) (by kernel_rfl) hl)).trans (dep_of (Fact := F_k6 W.heap.size k ak nk ck av m cv al nl cl s u u2 hh nb e0 E K1 K2) hd 21 (by kernel_rfl))
      exact one_move _ rfl (by first | exact Or.inl rfl | exact Or.inr rfl) ⟨_, rfl, Below.refl _ _, e⟩
    · intro vs w' F hb hd hF hl hT
      have eg := ((hF 74).trans (look_at _ 74 22 _ _ (by kernel_rfl) (by kernel_rfl) hl)).trans (dep_of (Fact := F_k6 W.heap.size k ak nk ck av m cv al nl cl s u u2 hh nb e0 E K1 K2) hd 22 (by kernel_rfl))
      refine wpList_on rfl (t := 74) (by kernel_rfl) eg ?_
      have e := (hF 7).trans (look_out _ 7 _ _ (by kernel_rfl))
      exact one_load _ _ rfl rfl _ _ e (cell_abides D2.out hb) (by kernel_rfl) ⟨_, rfl, Below.refl _ _, rfl⟩
    · intro vs w' F hb hd hF hl hT
      have eg := ((hF 74).trans (look_at _ 74 22 _ _ (by kernel_rfl) (by kernel_rfl) hl)).trans (dep_of (Fact := F_k6 W.heap.size k ak nk ck av m cv al nl cl s u u2 hh nb e0 E K1 K2) hd 22 (by kernel_rfl))
      refine wpList_on rfl (t := 74) (by kernel_rfl) eg ?_
      have e := (((hF 75).trans (look_at _ 75 23 _ _ (by kernel_rfl) (by kernel_rfl) hl)).trans (dep_of (Fact := F_k6 W.heap.size k ak nk ck av m cv al nl cl s u u2 hh nb e0 E K1 K2) hd 23 (by kernel_rfl)))
      refine one_call _ _ rfl rfl (enters_of Tryd.func10 (by kernel_rfl) rfl) #[.string s] (eval1 e) ?_
      refine (A3.out w').mono ?_
      rintro e2 w2 ⟨rfl, rfl⟩
      exact ⟨_, rfl, _, rfl, Below.refl _ _, rfl⟩
    · intro vs w' F hb hd hF hl hT
      have eg := ((hF 74).trans (look_at _ 74 22 _ _ (by kernel_rfl) (by kernel_rfl) hl)).trans (dep_of (Fact := F_k6 W.heap.size k ak nk ck av m cv al nl cl s u u2 hh nb e0 E K1 K2) hd 22 (by kernel_rfl))
      refine wpList_on rfl (t := 74) (by kernel_rfl) eg ?_
      have e := (hF 7).trans (look_out _ 7 _ _ (by kernel_rfl))
      exact one_load _ _ rfl rfl _ _ e (cell_abides D2.out hb) (by kernel_rfl) ⟨_, rfl, Below.refl _ _, rfl⟩
    · intro vs w' F hb hd hF hl hT
      have eg := ((hF 74).trans (look_at _ 74 22 _ _ (by kernel_rfl) (by kernel_rfl) hl)).trans (dep_of (Fact := F_k6 W.heap.size k ak nk ck av m cv al nl cl s u u2 hh nb e0 E K1 K2) hd 22 (by kernel_rfl))
      refine wpList_on rfl (t := 74) (by kernel_rfl) eg ?_
      refine one_call _ _ rfl rfl (enters_of Tryd.func11 (by kernel_rfl) rfl) #[.string s] (eval1 (((hF 77).trans (look_at _ 77 25 _ _ (by kernel_rfl) (by kernel_rfl) hl)).trans (dep_of (Fact := F_k6 W.heap.size k ak nk ck av m cv al nl cl s u u2 hh nb e0 E K1 K2) hd 25 (by kernel_rfl)))) ?_
      refine (A4.out w').mono ?_
      rintro e2 w2 ⟨rfl, hb2⟩
      exact ⟨_, rfl, _, rfl, hb2, rfl⟩
    · intro vs w' F hb hd hF hl hT
      have eg := ((hF 74).trans (look_at _ 74 22 _ _ (by kernel_rfl) (by kernel_rfl) hl)).trans (dep_of (Fact := F_k6 W.heap.size k ak nk ck av m cv al nl cl s u u2 hh nb e0 E K1 K2) hd 22 (by kernel_rfl))
      refine wpList_on rfl (t := 74) (by kernel_rfl) eg ?_
      have e1 := ((hF 76).trans (look_at _ 76 24 _ _ (by kernel_rfl) (by kernel_rfl) hl)).trans (dep_of (Fact := F_k6 W.heap.size k ak nk ck av m cv al nl cl s u u2 hh nb e0 E K1 K2) hd 24 (by kernel_rfl))
      have e2 := ((hF 78).trans (look_at _ 78 26 _ _ (by kernel_rfl) (by kernel_rfl) hl)).trans (dep_of (Fact := F_k6 W.heap.size k ak nk ck av m cv al nl cl s u u2 hh nb e0 E K1 K2) hd 26 (by kernel_rfl))
      exact one_bool_ne _ _ _ _ rfl rfl (by kernel_rfl) _ _ false e1 e2 (bne_self_eq_false _) ⟨_, rfl, Below.refl _ _, rfl⟩
    · intro vs w' F hb hd hF hl hT
      have ec := ((hF 74).trans (look_at _ 74 22 _ _ (by kernel_rfl) (by kernel_rfl) hl)).trans (dep_of (Fact := F_k6 W.heap.size k ak nk ck av m cv al nl cl s u u2 hh nb e0 E K1 K2) hd 22 (by kernel_rfl))
      have e := ((hF 79).trans (look_at _ 79 27 _ _ (by kernel_rfl) (by kernel_rfl) hl)).trans (dep_of (Fact := F_k6 W.heap.size k ak nk ck av m cv al nl cl s u u2 hh nb e0 E K1 K2) hd 27 (by kernel_rfl))
      exact one_pick_f _ _ _ rfl rfl _ ec e ⟨_, rfl, Below.refl _ _, rfl⟩
    · intro vs w' F hb hd hF hl hT
      have e := ((hF 80).trans (look_at _ 80 28 _ _ (by kernel_rfl) (by kernel_rfl) hl)).trans (dep_of (Fact := F_k6 W.heap.size k ak nk ck av m cv al nl cl s u u2 hh nb e0 E K1 K2) hd 28 (by kernel_rfl))
      exact one_move _ rfl (by first | exact Or.inl rfl | exact Or.inr rfl) ⟨_, rfl, Below.refl _ _, e⟩
    · intro vs w' F hb hd hF hl hT
      have eg := ((hF 81).trans (look_at _ 81 29 _ _ (by kernel_rfl) (by kernel_rfl) hl)).trans (dep_of (Fact := F_k6 W.heap.size k ak nk ck av m cv al nl cl s u u2 hh nb e0 E K1 K2) hd 29 (by kernel_rfl))
      refine wpList_on rfl (t := 81) (by kernel_rfl) eg ?_
      have e := (hF 5).trans (look_out _ 5 _ _ (by kernel_rfl))
      exact one_load_row 25 _ rfl rfl W.heap.size #[.string k.name, .slice ak nk ck] 25 (0, 0) e (heap_below HK6.out hb) _ Tryd.underlying25 rfl (by kernel_rfl) ⟨_, rfl, Below.refl _ _, rfl⟩
    · intro vs w' F hb hd hF hl hT
      have eg := ((hF 81).trans (look_at _ 81 29 _ _ (by kernel_rfl) (by kernel_rfl) hl)).trans (dep_of (Fact := F_k6 W.heap.size k ak nk ck av m cv al nl cl s u u2 hh nb e0 E K1 K2) hd 29 (by kernel_rfl))
      refine wpList_on rfl (t := 81) (by kernel_rfl) eg ?_
      refine one_call _ _ rfl rfl (enters_of Tryd.func12 (by kernel_rfl) rfl) #[.agg #[.string k.name, .slice ak nk ck]] (eval1 (((hF 82).trans (look_at _ 82 30 _ _ (by kernel_rfl) (by kernel_rfl) hl)).trans (dep_of (Fact := F_k6 W.heap.size k ak nk ck av m cv al nl cl s u u2 hh nb e0 E K1 K2) hd 30 (by kernel_rfl)))) ?_
      refine (A5.out w' hb).mono ?_
      rintro e2 w2 ⟨rfl, hb2⟩
      exact ⟨_, rfl, _, rfl, hb2, rfl⟩
    · intro vs w' F hb hd hF hl hT
      have eg := ((hF 81).trans (look_at _ 81 29 _ _ (by kernel_rfl) (by kernel_rfl) hl)).trans (dep_of (Fact := F_k6 W.heap.size k ak nk ck av m cv al nl cl s u u2 hh nb e0 E K1 K2) hd 29 (by kernel_rfl))
      refine wpList_on rfl (t := 81) (by kernel_rfl) eg ?_
      have e := (hF 5).trans (look_out _ 5 _ _ (by kernel_rfl))
      exact one_load_row 25 _ rfl rfl W.heap.size #[.string k.name, .slice ak nk ck] 25 (0, 0) e (heap_below HK6.out hb) _ Tryd.underlying25 rfl (by kernel_rfl) ⟨_, rfl, Below.refl _ _, rfl⟩
    · intro vs w' F hb hd hF hl hT
      have eg := ((hF 81).trans (look_at _ 81 29 _ _ (by kernel_rfl) (by kernel_rfl) hl)).trans (dep_of (Fact := F_k6 W.heap.size k ak nk ck av m cv al nl cl s u u2 hh nb e0 E K1 K2) hd 29 (by kernel_rfl))
      refine wpList_on rfl (t := 81) (by kernel_rfl) eg ?_
      refine one_call _ _ rfl rfl (enters_of Tryd.func13 (by kernel_rfl) rfl) #[.agg #[.string k.name, .slice ak nk ck]] (eval1 (((hF 84).trans (look_at _ 84 32 _ _ (by kernel_rfl) (by kernel_rfl) hl)).trans (dep_of (Fact := F_k6 W.heap.size k ak nk ck av m cv al nl cl s u u2 hh nb e0 E K1 K2) hd 32 (by kernel_rfl)))) ?_
      refine (A6.out w' hb).mono ?_
      rintro e2 w2 ⟨rfl, hb2⟩
      exact ⟨_, rfl, _, rfl, hb2, rfl⟩
    · intro vs w' F hb hd hF hl hT
      have eg := ((hF 81).trans (look_at _ 81 29 _ _ (by kernel_rfl) (by kernel_rfl) hl)).trans (dep_of (Fact := F_k6 W.heap.size k ak nk ck av m cv al nl cl s u u2 hh nb e0 E K1 K2) hd 29 (by kernel_rfl))
      refine wpList_on rfl (t := 81) (by kernel_rfl) eg ?_
      have e1 := ((hF 83).trans (look_at _ 83 31 _ _ (by kernel_rfl) (by kernel_rfl) hl)).trans (dep_of (Fact := F_k6 W.heap.size k ak nk ck av m cv al nl cl s u u2 hh nb e0 E K1 K2) hd 31 (by kernel_rfl))
      have e2 := ((hF 85).trans (look_at _ 85 33 _ _ (by kernel_rfl) (by kernel_rfl) hl)).trans (dep_of (Fact := F_k6 W.heap.size k ak nk ck av m cv al nl cl s u u2 hh nb e0 E K1 K2) hd 33 (by kernel_rfl))
      exact one_int_ne _ _ _ _ rfl rfl _ _ _ false e1 e2 (bne_self_eq_false _) ⟨_, rfl, Below.refl _ _, rfl⟩
    · intro vs w' F hb hd hF hl hT
      have ec := ((hF 81).trans (look_at _ 81 29 _ _ (by kernel_rfl) (by kernel_rfl) hl)).trans (dep_of (Fact := F_k6 W.heap.size k ak nk ck av m cv al nl cl s u u2 hh nb e0 E K1 K2) hd 29 (by kernel_rfl))
      have e := ((hF 86).trans (look_at _ 86 34 _ _ (by kernel_rfl) (by kernel_rfl) hl)).trans (dep_of (Fact := F_k6 W.heap.size k ak nk ck av m cv al nl cl s u u2 hh nb e0 E K1 K2) hd 34 (by kernel_rfl))
      exact one_pick_f _ _ _ rfl rfl _ ec e ⟨_, rfl, Below.refl _ _, rfl⟩
    · intro vs w' F hb hd hF hl hT
      have e := ((hF 87).trans (look_at _ 87 35 _ _ (by kernel_rfl) (by kernel_rfl) hl)).trans (dep_of (Fact := F_k6 W.heap.size k ak nk ck av m cv al nl cl s u u2 hh nb e0 E K1 K2) hd 35 (by kernel_rfl))
      exact one_move _ rfl (by first | exact Or.inl rfl | exact Or.inr rfl) ⟨_, rfl, Below.refl _ _, e⟩
    · intro vs w' F hb hd hF hl hT
      have eg := ((hF 88).trans (look_at _ 88 36 _ _ (by kernel_rfl) (by kernel_rfl) hl)).trans (dep_of (Fact := F_k6 W.heap.size k ak nk ck av m cv al nl cl s u u2 hh nb e0 E K1 K2) hd 36 (by kernel_rfl))
      refine wpList_on rfl (t := 88) (by kernel_rfl) eg ?_
      have e := (hF 0).trans (look_out _ 0 _ _ (by kernel_rfl))
      exact one_move _ rfl (by first | exact Or.inl rfl | exact Or.inr rfl) ⟨_, rfl, Below.refl _ _, e⟩
    · intro vs w' F hb hd hF hl hT
      have eg := ((hF 88).trans (look_at _ 88 36 _ _ (by kernel_rfl) (by kernel_rfl) hl)).trans (dep_of (Fact := F_k6 W.heap.size k ak nk ck av m cv al nl cl s u u2 hh nb e0 E K1 K2) hd 36 (by kernel_rfl))
      refine wpList_on rfl (t := 88) (by kernel_rfl) eg ?_
      refine one_call _ _ rfl rfl (enters_of Tryd.func14 (by kernel_rfl) rfl) #[.slice al nl cl] (eval1 (((hF 89).trans (look_at _ 89 37 _ _ (by kernel_rfl) (by kernel_rfl) hl)).trans (dep_of (Fact := F_k6 W.heap.size k ak nk ck av m cv al nl cl s u u2 hh nb e0 E K1 K2) hd 37 (by kernel_rfl)))) ?_
      refine (A7.out w' hb).mono ?_
      rintro e2 w2 ⟨rfl, hb2⟩
      exact ⟨_, rfl, _, rfl, hb2, rfl⟩
    · intro vs w' F hb hd hF hl hT
      have eg := ((hF 88).trans (look_at _ 88 36 _ _ (by kernel_rfl) (by kernel_rfl) hl)).trans (dep_of (Fact := F_k6 W.heap.size k ak nk ck av m cv al nl cl s u u2 hh nb e0 E K1 K2) hd 36 (by kernel_rfl))
      refine wpList_on rfl (t := 88) (by kernel_rfl) eg ?_
      have e := (hF 0).trans (look_out _ 0 _ _ (by kernel_rfl))
      exact one_move _ rfl (by first | exact Or.inl rfl | exact Or.inr rfl) ⟨_, rfl, Below.refl _ _, e⟩
    · intro vs w' F hb hd hF hl hT
      have eg := ((hF 88).trans (look_at _ 88 36 _ _ (by kernel_rfl) (by kernel_rfl) hl)).trans (dep_of (Fact := F_k6 W.heap.size k ak nk ck av m cv al nl cl s u u2 hh nb e0 E K1 K2) hd 36 (by kernel_rfl))
      refine wpList_on rfl (t := 88) (by kernel_rfl) eg ?_
      refine one_call _ _ rfl rfl (enters_of Tryd.func15 (by kernel_rfl) rfl) #[.slice al nl cl] (eval1 (((hF 91).trans (look_at _ 91 39 _ _ (by kernel_rfl) (by kernel_rfl) hl)).trans (dep_of (Fact := F_k6 W.heap.size k ak nk ck av m cv al nl cl s u u2 hh nb e0 E K1 K2) hd 39 (by kernel_rfl)))) ?_
      refine (A8.out w' hb).mono ?_
      rintro e2 w2 ⟨rfl, hb2⟩
      exact ⟨_, rfl, _, rfl, hb2, rfl⟩
    · intro vs w' F hb hd hF hl hT
      have eg := ((hF 88).trans (look_at _ 88 36 _ _ (by kernel_rfl) (by kernel_rfl) hl)).trans (dep_of (Fact := F_k6 W.heap.size k ak nk ck av m cv al nl cl s u u2 hh nb e0 E K1 K2) hd 36 (by kernel_rfl))
      refine wpList_on rfl (t := 88) (by kernel_rfl) eg ?_
      have e1 := ((hF 90).trans (look_at _ 90 38 _ _ (by kernel_rfl) (by kernel_rfl) hl)).trans (dep_of (Fact := F_k6 W.heap.size k ak nk ck av m cv al nl cl s u u2 hh nb e0 E K1 K2) hd 38 (by kernel_rfl))
      have e2 := ((hF 92).trans (look_at _ 92 40 _ _ (by kernel_rfl) (by kernel_rfl) hl)).trans (dep_of (Fact := F_k6 W.heap.size k ak nk ck av m cv al nl cl s u u2 hh nb e0 E K1 K2) hd 40 (by kernel_rfl))
      exact one_int_ne _ _ _ _ rfl rfl _ _ _ false e1 e2 (bne_self_eq_false _) ⟨_, rfl, Below.refl _ _, rfl⟩
    · intro vs w' F hb hd hF hl hT
      have ec := ((hF 88).trans (look_at _ 88 36 _ _ (by kernel_rfl) (by kernel_rfl) hl)).trans (dep_of (Fact := F_k6 W.heap.size k ak nk ck av m cv al nl cl s u u2 hh nb e0 E K1 K2) hd 36 (by kernel_rfl))
      have e := ((hF 93).trans (look_at _ 93 41 _ _ (by kernel_rfl) (by kernel_rfl) hl)).trans (dep_of (Fact := F_k6 W.heap.size k ak nk ck av m cv al nl cl s u u2 hh nb e0 E K1 K2) hd 41 (by kernel_rfl))
      exact one_pick_f _ _ _ rfl rfl _ ec e ⟨_, rfl, Below.refl _ _, rfl⟩
  · intro vs wA hl hb hI
    have i94 : vs.getD 42 undef = .bool false := hI 42 (by omega)
    obtain ⟨x0, x1, x2, x3, x4, x5, x6, x7, x8, x9, x10, x11, x12, x13, x14, x15, x16, x17, x18, x19, x20, x21, x22, x23, x24, x25, x26, x27, x28, x29, x30, x31, x32, x33, x34, x35, x36, x37, x38, x39, x40, x41, x42, rfl⟩ := list43 hl
    replace i94 : x42 = .bool false := i94
    subst i94
    have HB8 := Lib.hid (HB7.out.trans (hb.mono HB7.out.size))
    have HK8 := Lib.hid (heap_below HK6.out hb)
    have D1 := Lib.hid (cell_abides d1 hb)
    have D28 := Lib.hid (cell_abides D2.out hb)
    clear hI hl hb A1 A2 A3 A4 A5 A6 A7 A8 A9 HHF HE0 HU6 HU2 d0 d1 d2 HE HK6 D2 HK0 HS0
    have HC8 := Lib.hid (fun w' (hb : Below wA.heap.size wA w') (A : Nat) (hi : IntsAt .i64 w' (some ⟨A, 0, none⟩) (List.replicate nk 0)) => ref_Fitted k ak nk ck (List.replicate nk 0) (some ⟨A, 0, none⟩) nk nk hnk (List.length_replicate ..) (by omega) hkn hkc hck w' (HZK.out.below FieldAt.abides (HB8.out.trans (hb.mono HB8.out.size))) hi)
    simp only [fillAll, Act.put, List.setIfInBounds_toArray, List.set_cons_succ, List.set_cons_zero]
    show wpList _ _ _ [] _ _
    go_wp2_with fail
    refine wp_region_facts_t rfl 11 (by kernel_rfl) (F_k8 W.heap.size k ak nk ck) (F_k8_mono W.heap.size k ak nk ck) ?_ ?_
    · refine ⟨?_, ?_, ?_, ?_, ?_, ?_, ?_, ?_, ?_, ?_, ?_, trivial⟩
      · intro vs w' F hb hd hF hl hT
        have e := (hF 5).trans (look_out _ 5 _ _ (by kernel_rfl))
        exact one_load_row 25 _ rfl rfl W.heap.size #[.string k.name, .slice ak nk ck] 25 (0, 0) e (heap_below HK8.out hb) _ Tryd.underlying25 rfl (by kernel_rfl) ⟨_, rfl, Below.refl _ _, rfl⟩
      · intro vs w' F hb hd hF hl hT
        have e := (hF 5).trans (look_out _ 5 _ _ (by kernel_rfl))
        exact one_field _ _ _ rfl rfl _ _ e _ (fun w => by kernel_rfl) ⟨_, rfl, Below.refl _ _, rfl⟩
      · intro vs w' F hb hd hF hl hT
        have e := ((hF 97).trans (look_at _ 97 1 _ _ (by kernel_rfl) (by kernel_rfl) hl)).trans (dep_of (Fact := F_k8 W.heap.size k ak nk ck) hd 1 (by kernel_rfl))
        exact one_load _ _ rfl rfl _ _ e (cell_abides D1.out hb) (by kernel_rfl) ⟨_, rfl, Below.refl _ _, rfl⟩
      · intro vs w' F hb hd hF hl hT
        have e := (((hF 98).trans (look_at _ 98 2 _ _ (by kernel_rfl) (by kernel_rfl) hl)).trans (dep_of (Fact := F_k8 W.heap.size k ak nk ck) hd 2 (by kernel_rfl)))
        exact one_len _ 23 _ rfl rfl Tryd.underlying23 _ _ _ e ⟨_, rfl, Below.refl _ _, rfl⟩
      · intro vs w' F hb hd hF hl hT
        have e := ((hF 99).trans (look_at _ 99 3 _ _ (by kernel_rfl) (by kernel_rfl) hl)).trans (dep_of (Fact := F_k8 W.heap.size k ak nk ck) hd 3 (by kernel_rfl))
        refine wpList_make_rowB rfl _ _ 26 rfl 3 .i64 8 Tryd.underlying26 (by kernel_rfl) _ _ _ _ nk e e rfl rfl ?_ ?_ ?_
        · omega
        · unfold maxLen; omega
        intro w2 hrow hb2 hs2
        exact ⟨_, rfl, hb2, _, rfl, hrow.ints⟩
      · intro vs w' F hb hd hF hl hT
        have e1 := ((hF 96).trans (look_at _ 96 0 _ _ (by kernel_rfl) (by kernel_rfl) hl)).trans (dep_of (Fact := F_k8 W.heap.size k ak nk ck) hd 0 (by kernel_rfl))
        obtain ⟨A, hA, hi⟩ := (dep_of (Fact := F_k8 W.heap.size k ak nk ck) hd 4 (by kernel_rfl))
        have e2 := ((hF 100).trans (look_at _ 100 4 _ _ (by kernel_rfl) (by kernel_rfl) hl)).trans hA
        refine one_call _ _ rfl rfl (enters_of Tryd.func8 (by kernel_rfl) rfl) #[.agg #[.string k.name, .slice ak nk ck], .slice (some ⟨A, 0, none⟩) nk nk] (eval2 e1 e2) ?_
        refine (HC8.out w' hb A hi).mono ?_
        intro e3 w2 hp
        have hb2 := hp.2.2
        obtain ⟨v, rfl, ht⟩ := FitPost.tuple hp
        exact ⟨_, rfl, _, rfl, hb2, ht⟩
      · intro vs w' F hb hd hF hl hT
        have e := ((hF 101).trans (look_at _ 101 5 _ _ (by kernel_rfl) (by kernel_rfl) hl))
        have d := (dep_of (Fact := F_k8 W.heap.size k ak nk ck) hd 5 (by kernel_rfl))
        rw [← e] at d
        exact one_move _ rfl (Or.inl rfl) ⟨_, rfl, Below.refl _ _, d⟩
      · intro vs w' F hb hd hF hl hT
        have e := ((hF 95).trans (look_at _ 95 6 _ _ (by kernel_rfl) (by kernel_rfl) hl))
        obtain ⟨u, hu, hs⟩ := (dep_of (Fact := F_k8 W.heap.size k ak nk ck) hd 6 (by kernel_rfl))
        exact one_extract _ _ rfl rfl _ u (e.trans hu) (fun w => rfl) ⟨_, rfl, Below.refl _ _, hs⟩
      · intro vs w' F hb hd hF hl hT
        have e := ((hF 95).trans (look_at _ 95 6 _ _ (by kernel_rfl) (by kernel_rfl) hl))
        obtain ⟨u, hu, hs⟩ := (dep_of (Fact := F_k8 W.heap.size k ak nk ck) hd 6 (by kernel_rfl))
        exact one_extract _ _ rfl rfl _ (.int .i64 (fitE k (List.replicate nk 0))) (e.trans hu) (fun w => rfl) ⟨_, rfl, Below.refl _ _, trivial⟩
      · intro vs w' F hb hd hF hl hT
        have e := ((hF 102).trans (look_at _ 102 7 _ _ (by kernel_rfl) (by kernel_rfl) hl))
        have d := (dep_of (Fact := F_k8 W.heap.size k ak nk ck) hd 7 (by kernel_rfl))
        rw [← e] at d
        exact one_move _ rfl (Or.inr rfl) ⟨_, rfl, Below.refl _ _, d⟩
      · intro vs w' F hb hd hF hl hT
        exact one_move _ rfl (Or.inr rfl) ⟨_, rfl, Below.refl _ _, trivial⟩
    · intro vs wB hl hb hI
      have i9 : FitS k (List.replicate nk 0) (vs.getD 9 undef) wB := hI 9 (by omega)
      obtain ⟨y0, y1, y2, y3, y4, y5, y6, y7, y8, y9, y10, rfl⟩ := list11 hl
      replace i9 : FitS k (List.replicate nk 0) y9 wB := i9
      have HS := Lib.hid i9
      have HB9 := Lib.hid (HB8.out.trans (hb.mono HB8.out.size))
      have HK9 := Lib.hid (heap_below HK8.out hb)
      have D29 := Lib.hid (cell_abides D28.out hb)
      clear hI hl hb HC8 HK8 D1 D28 i9 HB8
      have d0 : wB.cell? ⟨W.heap.size, 0, none⟩ = some (.string k.name) := by rw [cell_of_row _ _ _ _ _ _ HK9.out]; rfl
      have d1 : wB.cell? ⟨W.heap.size, 1, none⟩ = some (.slice ak nk ck) := by rw [cell_of_row _ _ _ _ _ _ HK9.out]; rfl
      have HWID := kind_Width k ak nk ck hnk hkn hkc hck wB (HZK.out.below FieldAt.abides HB9.out)
      rw [← HK1.out] at HWID
      obtain ⟨WD, hWD⟩ : ∃ WD, WD = widE k := ⟨_, rfl⟩
      rw [← hWD] at HWID
      have HWD := Lib.hid hWD
      replace HWID := Lib.hid HWID
      clear hWD
      simp only [fillAll, Act.put, List.setIfInBounds_toArray, List.set_cons_succ, List.set_cons_zero]
      show wpList _ _ _ [] _ _
      go_wp2_with fail
      refine HWID.out.mono ?_
      rintro e wC ⟨rfl, hbc⟩
      have HB10 := Lib.hid (HB9.out.trans (hbc.mono HB9.out.size))
      have HK10 := Lib.hid (heap_below HK9.out hbc)
      have D210 := Lib.hid (cell_abides D29.out hbc)
      have HSC := Lib.hid (HS.out.below hbc)
      clear HWID d0 d1 hbc HS HB9 HK9 D29
      have d1 : wC.cell? ⟨W.heap.size, 1, none⟩ = some (.slice ak nk ck) := by rw [cell_of_row _ _ _ _ _ _ HK10.out]; rfl
      go_wp2_with fail
      clear d1
      go_loopg [19, 21, 112] nk (fun gk v19 v21 vi wx => ∃ i : Nat, i ≤ nk ∧ gk = nk - i ∧ vi = .int .i64 i ∧ v19 = .int .i64 (wsum k.fields i) ∧ Below wC.heap.size wC wx)
      case atStart => exact ⟨0, Nat.zero_le _, rfl, rfl, rfl, Below.refl _ _⟩
      case round =>
        obtain ⟨i, hi, g2, rfl, rfl, hb⟩ := hrel
        have G2 := Lib.hid g2
        have HB := Lib.hid hb
        have hbs := hb.size
        clear g2 hb
        by_cases hlt : i < nk
        · obtain ⟨x, rfl, hx, hix⟩ := (HZK.out.below FieldAt.abides (HB10.out.trans (HB.out.mono HB10.out.size))) (by rw [hnk]; omega)
          obtain ⟨k0, k1, k2, k3⟩ := hix i (by rw [hnk]; exact hlt)
          obtain ⟨y, hy⟩ : ∃ y, y = k.fields[i]'(by rw [hnk]; exact hlt) := ⟨_, rfl⟩
          rw [← hy] at k0 k1 k2 k3
          have HB2 := Lib.hid (HB.out.alloc hbs (.cells #[.string y.name, .int .i64 y.bits, .int .i64 y.low] 39))
          have HST := Lib.hid (show wsum k.fields (i + 1) = wrap64 (wsum k.fields i + y.bits) by
            show wrap64 (wsum k.fields i + (k.fields.getD i default).bits) = _
            rw [getD_at k.fields i (by rw [hnk]; exact hlt), ← hy])
          obtain ⟨S, hS⟩ : ∃ S, S = wsum k.fields i := ⟨_, rfl⟩
          rw [← hS] at HST ⊢
          clear hix hy k3 hS
          go_wp2_with fail
          go_roundg (nk - (i + 1))
          case measure => rw [G2.out]; omega
          case rel => exact ⟨i + 1, hlt, rfl, by go_num, by rw [HST.out], HB2.out⟩
        · have hie : i = nk := by omega
          obtain ⟨SM, hSM⟩ : ∃ SM, SM = wsum k.fields i := ⟨_, rfl⟩
          have HW1 := Lib.hid (show K1 = 0 → WD = SM from fun h => by
            have h1 : kindE k = 0 := by rw [← HK1.out]; exact h
            rw [HWD.out, hSM, hie, ← hnk]; unfold widE; rw [if_pos h1])
          have HW0Z := Lib.hid (show K1 ≠ 0 → WD = 0 from fun h => by
            have h1 : ¬ kindE k = 0 := by rw [← HK1.out]; exact h
            rw [HWD.out]; unfold widE; rw [if_neg h1])
          rw [← hSM]
          clear hSM hie
          have HB11 := Lib.hid (HB10.out.trans (HB.out.mono HB10.out.size))
          have HK16 := Lib.hid (heap_below HK10.out HB.out)
          have D216 := Lib.hid (cell_abides D210.out HB.out)
          have HSX := Lib.hid (HSC.out.below HB.out)
          have B2 := Lib.hid (fun w' (hb : Below wr.heap.size wr w') => ref_KindError k ak nk ck hnk hkn (by omega) w' (HZK.out.below FieldAt.abides (HB11.out.trans (hb.mono HB11.out.size))))
          rw [← HK1.out] at B2
          have B3 := Lib.hid (fun w' (hb : Below wr.heap.size wr w') => kind_Default k ak nk ck hnk (by omega) hkn hkc hck w' (HZK.out.below FieldAt.abides (HB11.out.trans (hb.mono HB11.out.size))))
          have B4 := Lib.hid (fun w' (hb : Below wr.heap.size wr w') u (hu : FitS k (List.replicate nk 0) u w') => fits_equal k (List.replicate nk 0) u y9 (by rw [List.length_replicate]; omega) w' hu (HSX.out.below hb))
          clear HB hbs HB10 HK10 D210 HSC G2
          by_cases hk : K1 = 0
          · obtain rfl := HW1.out hk
            subst hk
            clear HW1 HW0Z HWD
            have d0 : wr.cell? ⟨W.heap.size, 0, none⟩ = some (.string k.name) := by rw [cell_of_row _ _ _ _ _ _ HK16.out]; rfl
            have d1 : wr.cell? ⟨W.heap.size, 1, none⟩ = some (.slice ak nk ck) := by rw [cell_of_row _ _ _ _ _ _ HK16.out]; rfl
            go_wp2_with fail
            refine (B2.out _ (Below.refl _ _)).mono ?_
            rintro e wG ⟨rfl, hbG⟩
            replace d0 := cell_abides d0 hbG
            replace d1 := cell_abides d1 hbG
            have HBG := Lib.hid hbG
            clear hbG
            go_wp2_with fail
            refine (B3.out _ HBG.out).mono ?_
            rintro e wH ⟨⟨uD, rfl, huD⟩, hbH⟩
            have HBH := Lib.hid (HBG.out.trans (hbH.mono HBG.out.size))
            have HUD := Lib.hid huD
            clear hbH huD d0 d1
            go_wp2_with fail
            refine (B4.out _ HBH.out uD HUD.out).mono ?_
            rintro e wD ⟨rfl, hbD⟩
            have HBD := Lib.hid (HBH.out.trans (hbD.mono HBH.out.size))
            have HB12 := Lib.hid (HB11.out.trans (HBD.out.mono HB11.out.size))
            have HK17 := Lib.hid (heap_below HK16.out HBD.out)
            have D217 := Lib.hid (cell_abides D216.out HBD.out)
            clear hbD B2 B3 B4 HSX HK16 D216 HB11 HBG HBH HBD HUD
            have d1 : wD.cell? ⟨W.heap.size, 1, none⟩ = some (.slice ak nk ck) := by rw [cell_of_row _ _ _ _ _ _ HK17.out]; rfl
            have CF := idx_flds k.fields ak nk ck s (W.heap.size + 1) hnk (by omega) wD (HZK.out.below FieldAt.abides HB12.out) D217.out
            obtain ⟨FF, hFF⟩ : ∃ FF, FF = firstAt (k.fields.map (·.name)) s 0 := ⟨_, rfl⟩
            obtain ⟨FK, hFK⟩ : ∃ FK, FK = firstAt (l.map (·.name)) s 0 := ⟨_, rfl⟩
            rw [← hFF] at CF
            have HCF := Lib.hid CF
            clear CF
            go_wp2_with fail
            refine HCF.out.mono ?_
            rintro e wE ⟨rfl, hbe⟩
            have HB13 := Lib.hid (HB12.out.trans (hbe.mono HB12.out.size))
            have HK20 := Lib.hid (heap_below HK17.out hbe)
            have D20 := Lib.hid (cell_abides D217.out hbe)
            have HNL := Lib.hid hnl
            have B5 := Lib.hid (fun w' (hb : Below wE.heap.size wE w') => HZL.out.below KindAt.abides (HB13.out.trans (hb.mono HB13.out.size)))
            have C2 := Lib.hid (fun w' (hb : Below wE.heap.size wE w') => kind_Find l al nl cl s hnl (by omega) w' (B5.out w' hb))
            have C3 := Lib.hid (fun w' (hb : Below wE.heap.size wE w') => idx_kinds l al nl cl s (W.heap.size + 1) hnl (by omega) w' (B5.out w' hb) (cell_abides D20.out hb))
            have C4 := Lib.hid (fun w' (hb : Below wE.heap.size wE w') => kind_Field k.fields ak nk ck s k.name hnk (by omega) w' (HZK.out.below FieldAt.abides (HB13.out.trans (hb.mono HB13.out.size))))
            have C5 := Lib.hid (fun w' (hb : Below wE.heap.size wE w') => kind_Copy l al nl cl hnl hnl2 hlv w' (B5.out w' hb))
            have C6 := Lib.hid (fun w' (hb : Below wE.heap.size wE w') a c hs => eqf_kinds l a al nl c cl hnl (by omega) w' hs (B5.out w' hb))
            have C7 := Lib.hid (fun w' (hb : Below wE.heap.size wE w') => kind_Same l al al nl cl cl hnl (by omega) w' (B5.out w' hb) (B5.out w' hb))
            rw [← hFK] at C2 C3
            rw [← hFF] at C4
            clear hFF hFK d1 HCF hbe HB12 HK17 D217
            go_wp2_with fail
            refine wp_region_facts_t rfl 41 (by kernel_rfl) (F_k20 W.heap.size k ak nk ck l al nl cl s FK FF) (F_k20_mono W.heap.size k ak nk ck l al nl cl s FK FF) ?_ ?_
            · refine ⟨?_, ?_, ?_, ?_, ?_, ?_, ?_, ?_, ?_, ?_, ?_, ?_, ?_, ?_, ?_, ?_, ?_, ?_, ?_, ?_, ?_, ?_, ?_, ?_, ?_, ?_, ?_, ?_, ?_, ?_, ?_, ?_, ?_, ?_, ?_, ?_, ?_, ?_, ?_, ?_, ?_, trivial⟩
              · intro vs w' F hb hd hF hl hT
                have e := (hF 0).trans (look_out _ 0 _ _ (by kernel_rfl))
                exact one_move _ rfl (by first | exact Or.inl rfl | exact Or.inr rfl) ⟨_, rfl, Below.refl _ _, e⟩
              · intro vs w' F hb hd hF hl hT
                have e := (hF 7).trans (look_out _ 7 _ _ (by kernel_rfl))
                exact one_load _ _ rfl rfl _ _ e (cell_abides D20.out hb) (by kernel_rfl) ⟨_, rfl, Below.refl _ _, rfl⟩
              · intro vs w' F hb hd hF hl hT
                refine one_call _ _ rfl rfl (enters_of Tryd.func21 (by kernel_rfl) rfl) #[.slice al nl cl, .string s] (eval2 (((hF 154).trans (look_at _ 154 0 _ _ (by kernel_rfl) (by kernel_rfl) hl)).trans (dep_of (Fact := F_k20 W.heap.size k ak nk ck l al nl cl s FK FF) hd 0 (by kernel_rfl))) (((hF 155).trans (look_at _ 155 1 _ _ (by kernel_rfl) (by kernel_rfl) hl)).trans (dep_of (Fact := F_k20 W.heap.size k ak nk ck l al nl cl s FK FF) hd 1 (by kernel_rfl)))) ?_
                refine (C2.out w' hb).mono ?_
                rintro e2 w2 ⟨rfl, hb2⟩
                exact ⟨_, rfl, _, rfl, hb2, rfl⟩
              · intro vs w' F hb hd hF hl hT
                have e := (hF 0).trans (look_out _ 0 _ _ (by kernel_rfl))
                exact one_move _ rfl (by first | exact Or.inl rfl | exact Or.inr rfl) ⟨_, rfl, Below.refl _ _, e⟩
              · intro vs w' F hb hd hF hl hT
                have e := (hF 22).trans (look_out _ 22 _ _ (by kernel_rfl))
                exact one_move _ rfl (by first | exact Or.inl rfl | exact Or.inr rfl) ⟨_, rfl, Below.refl _ _, e⟩
              · intro vs w' F hb hd hF hl hT
                refine one_call _ _ rfl rfl (enters_of Tryd.func22 (by kernel_rfl) rfl) #[.slice al nl cl, .func (.func 18) #[] #[.pointer (some ⟨W.heap.size + 1, 0, none⟩)]] (eval2 (((hF 157).trans (look_at _ 157 3 _ _ (by kernel_rfl) (by kernel_rfl) hl)).trans (dep_of (Fact := F_k20 W.heap.size k ak nk ck l al nl cl s FK FF) hd 3 (by kernel_rfl))) (((hF 158).trans (look_at _ 158 4 _ _ (by kernel_rfl) (by kernel_rfl) hl)).trans (dep_of (Fact := F_k20 W.heap.size k ak nk ck l al nl cl s FK FF) hd 4 (by kernel_rfl)))) ?_
                refine (C3.out w' hb).mono ?_
                rintro e2 w2 ⟨rfl, hb2⟩
                exact ⟨_, rfl, _, rfl, hb2, rfl⟩
              · intro vs w' F hb hd hF hl hT
                have e1 := ((hF 156).trans (look_at _ 156 2 _ _ (by kernel_rfl) (by kernel_rfl) hl)).trans (dep_of (Fact := F_k20 W.heap.size k ak nk ck l al nl cl s FK FF) hd 2 (by kernel_rfl))
                have e2 := ((hF 159).trans (look_at _ 159 5 _ _ (by kernel_rfl) (by kernel_rfl) hl)).trans (dep_of (Fact := F_k20 W.heap.size k ak nk ck l al nl cl s FK FF) hd 5 (by kernel_rfl))
                exact one_int_eq _ _ _ _ rfl rfl _ _ _ true e1 e2 (beq_self_eq_true _) ⟨_, rfl, Below.refl _ _, rfl⟩
              · intro vs w' F hb hd hF hl hT
                have e := ((hF 160).trans (look_at _ 160 6 _ _ (by kernel_rfl) (by kernel_rfl) hl)).trans (dep_of (Fact := F_k20 W.heap.size k ak nk ck l al nl cl s FK FF) hd 6 (by kernel_rfl))
                exact one_move _ rfl (by first | exact Or.inl rfl | exact Or.inr rfl) ⟨_, rfl, Below.refl _ _, e⟩
              · intro vs w' F hb hd hF hl hT
                have eg := ((hF 161).trans (look_at _ 161 7 _ _ (by kernel_rfl) (by kernel_rfl) hl)).trans (dep_of (Fact := F_k20 W.heap.size k ak nk ck l al nl cl s FK FF) hd 7 (by kernel_rfl))
                refine wpList_on rfl (t := 161) (by kernel_rfl) eg ?_
                have e := (hF 5).trans (look_out _ 5 _ _ (by kernel_rfl))
                exact one_load_row 25 _ rfl rfl W.heap.size #[.string k.name, .slice ak nk ck] 25 (0, 0) e (heap_below HK20.out hb) _ Tryd.underlying25 rfl (by kernel_rfl) ⟨_, rfl, Below.refl _ _, rfl⟩
              · intro vs w' F hb hd hF hl hT
                have eg := ((hF 161).trans (look_at _ 161 7 _ _ (by kernel_rfl) (by kernel_rfl) hl)).trans (dep_of (Fact := F_k20 W.heap.size k ak nk ck l al nl cl s FK FF) hd 7 (by kernel_rfl))
                refine wpList_on rfl (t := 161) (by kernel_rfl) eg ?_
                have e := (hF 7).trans (look_out _ 7 _ _ (by kernel_rfl))
                exact one_load _ _ rfl rfl _ _ e (cell_abides D20.out hb) (by kernel_rfl) ⟨_, rfl, Below.refl _ _, rfl⟩
              · intro vs w' F hb hd hF hl hT
                have eg := ((hF 161).trans (look_at _ 161 7 _ _ (by kernel_rfl) (by kernel_rfl) hl)).trans (dep_of (Fact := F_k20 W.heap.size k ak nk ck l al nl cl s FK FF) hd 7 (by kernel_rfl))
                refine wpList_on rfl (t := 161) (by kernel_rfl) eg ?_
                refine one_call _ _ rfl rfl (enters_of Tryd.func23 (by kernel_rfl) rfl) #[.agg #[.string k.name, .slice ak nk ck], .string s] (eval2 (((hF 162).trans (look_at _ 162 8 _ _ (by kernel_rfl) (by kernel_rfl) hl)).trans (dep_of (Fact := F_k20 W.heap.size k ak nk ck l al nl cl s FK FF) hd 8 (by kernel_rfl))) (((hF 163).trans (look_at _ 163 9 _ _ (by kernel_rfl) (by kernel_rfl) hl)).trans (dep_of (Fact := F_k20 W.heap.size k ak nk ck l al nl cl s FK FF) hd 9 (by kernel_rfl)))) ?_
                refine (C4.out w' hb).mono ?_
                rintro e2 w2 ⟨rfl, hb2⟩
                exact ⟨_, rfl, _, rfl, hb2, rfl⟩
              · intro vs w' F hb hd hF hl hT
                have eg := ((hF 161).trans (look_at _ 161 7 _ _ (by kernel_rfl) (by kernel_rfl) hl)).trans (dep_of (Fact := F_k20 W.heap.size k ak nk ck l al nl cl s FK FF) hd 7 (by kernel_rfl))
                refine wpList_on rfl (t := 161) (by kernel_rfl) eg ?_
                have e := (hF 23).trans (look_out _ 23 _ _ (by kernel_rfl))
                exact one_move _ rfl (by first | exact Or.inl rfl | exact Or.inr rfl) ⟨_, rfl, Below.refl _ _, e⟩
              · intro vs w' F hb hd hF hl hT
                have eg := ((hF 161).trans (look_at _ 161 7 _ _ (by kernel_rfl) (by kernel_rfl) hl)).trans (dep_of (Fact := F_k20 W.heap.size k ak nk ck l al nl cl s FK FF) hd 7 (by kernel_rfl))
                refine wpList_on rfl (t := 161) (by kernel_rfl) eg ?_
                have e1 := ((hF 164).trans (look_at _ 164 10 _ _ (by kernel_rfl) (by kernel_rfl) hl)).trans (dep_of (Fact := F_k20 W.heap.size k ak nk ck l al nl cl s FK FF) hd 10 (by kernel_rfl))
                have e2 := ((hF 165).trans (look_at _ 165 11 _ _ (by kernel_rfl) (by kernel_rfl) hl)).trans (dep_of (Fact := F_k20 W.heap.size k ak nk ck l al nl cl s FK FF) hd 11 (by kernel_rfl))
                exact one_int_eq _ _ _ _ rfl rfl _ _ _ true e1 e2 (beq_self_eq_true _) ⟨_, rfl, Below.refl _ _, rfl⟩
              · intro vs w' F hb hd hF hl hT
                have ec := ((hF 161).trans (look_at _ 161 7 _ _ (by kernel_rfl) (by kernel_rfl) hl)).trans (dep_of (Fact := F_k20 W.heap.size k ak nk ck l al nl cl s FK FF) hd 7 (by kernel_rfl))
                have e := ((hF 166).trans (look_at _ 166 12 _ _ (by kernel_rfl) (by kernel_rfl) hl)).trans (dep_of (Fact := F_k20 W.heap.size k ak nk ck l al nl cl s FK FF) hd 12 (by kernel_rfl))
                exact one_pick_t _ _ _ rfl rfl _ ec e ⟨_, rfl, Below.refl _ _, rfl⟩
              · intro vs w' F hb hd hF hl hT
                have e := ((hF 167).trans (look_at _ 167 13 _ _ (by kernel_rfl) (by kernel_rfl) hl)).trans (dep_of (Fact := F_k20 W.heap.size k ak nk ck l al nl cl s FK FF) hd 13 (by kernel_rfl))
                exact one_move _ rfl (by first | exact Or.inl rfl | exact Or.inr rfl) ⟨_, rfl, Below.refl _ _, e⟩
              · intro vs w' F hb hd hF hl hT
                have eg := ((hF 168).trans (look_at _ 168 14 _ _ (by kernel_rfl) (by kernel_rfl) hl)).trans (dep_of (Fact := F_k20 W.heap.size k ak nk ck l al nl cl s FK FF) hd 14 (by kernel_rfl))
                refine wpList_on rfl (t := 168) (by kernel_rfl) eg ?_
                have e := (hF 0).trans (look_out _ 0 _ _ (by kernel_rfl))
                exact one_move _ rfl (by first | exact Or.inl rfl | exact Or.inr rfl) ⟨_, rfl, Below.refl _ _, e⟩
              · intro vs w' F hb hd hF hl hT
                have eg := ((hF 168).trans (look_at _ 168 14 _ _ (by kernel_rfl) (by kernel_rfl) hl)).trans (dep_of (Fact := F_k20 W.heap.size k ak nk ck l al nl cl s FK FF) hd 14 (by kernel_rfl))
                refine wpList_on rfl (t := 168) (by kernel_rfl) eg ?_
                have e := (((hF 169).trans (look_at _ 169 15 _ _ (by kernel_rfl) (by kernel_rfl) hl)).trans (dep_of (Fact := F_k20 W.heap.size k ak nk ck l al nl cl s FK FF) hd 15 (by kernel_rfl)))
                refine one_call _ _ rfl rfl (enters_of Tryd.func25 (by kernel_rfl) rfl) #[.slice al nl cl] (eval1 e) ?_
                refine (C5.out w' hb).mono ?_
                rintro e2 w2 ⟨⟨a, c, rfl, hs⟩, hb2⟩
                exact ⟨_, rfl, _, rfl, hb2, a, c, rfl, hs⟩
              · intro vs w' F hb hd hF hl hT
                have eg := ((hF 168).trans (look_at _ 168 14 _ _ (by kernel_rfl) (by kernel_rfl) hl)).trans (dep_of (Fact := F_k20 W.heap.size k ak nk ck l al nl cl s FK FF) hd 14 (by kernel_rfl))
                refine wpList_on rfl (t := 168) (by kernel_rfl) eg ?_
                have e := (hF 0).trans (look_out _ 0 _ _ (by kernel_rfl))
                exact one_move _ rfl (by first | exact Or.inl rfl | exact Or.inr rfl) ⟨_, rfl, Below.refl _ _, e⟩
              · intro vs w' F hb hd hF hl hT
                have eg := ((hF 168).trans (look_at _ 168 14 _ _ (by kernel_rfl) (by kernel_rfl) hl)).trans (dep_of (Fact := F_k20 W.heap.size k ak nk ck l al nl cl s FK FF) hd 14 (by kernel_rfl))
                refine wpList_on rfl (t := 168) (by kernel_rfl) eg ?_
                obtain ⟨a, c, hv, hs⟩ := (dep_of (Fact := F_k20 W.heap.size k ak nk ck l al nl cl s FK FF) hd 16 (by kernel_rfl))
                have e1 := ((hF 170).trans (look_at _ 170 16 _ _ (by kernel_rfl) (by kernel_rfl) hl)).trans hv
                have e2 := (((hF 171).trans (look_at _ 171 17 _ _ (by kernel_rfl) (by kernel_rfl) hl)).trans (dep_of (Fact := F_k20 W.heap.size k ak nk ck l al nl cl s FK FF) hd 17 (by kernel_rfl)))
                refine one_call _ _ rfl rfl (enters_of Tryd.func24 (by kernel_rfl) rfl) #[.slice a nl c, .slice al nl cl, .func (.func 26) #[] #[]] (eval3 e1 e2 rfl) ?_
                refine (C6.out w' hb a c hs).mono ?_
                rintro e2 w2 ⟨rfl, hb2⟩
                exact ⟨_, rfl, _, rfl, hb2, rfl⟩
              · intro vs w' F hb hd hF hl hT
                have ec := ((hF 168).trans (look_at _ 168 14 _ _ (by kernel_rfl) (by kernel_rfl) hl)).trans (dep_of (Fact := F_k20 W.heap.size k ak nk ck l al nl cl s FK FF) hd 14 (by kernel_rfl))
                have e := ((hF 172).trans (look_at _ 172 18 _ _ (by kernel_rfl) (by kernel_rfl) hl)).trans (dep_of (Fact := F_k20 W.heap.size k ak nk ck l al nl cl s FK FF) hd 18 (by kernel_rfl))
                exact one_pick_t _ _ _ rfl rfl _ ec e ⟨_, rfl, Below.refl _ _, rfl⟩
              · intro vs w' F hb hd hF hl hT
                have e := ((hF 173).trans (look_at _ 173 19 _ _ (by kernel_rfl) (by kernel_rfl) hl)).trans (dep_of (Fact := F_k20 W.heap.size k ak nk ck l al nl cl s FK FF) hd 19 (by kernel_rfl))
                exact one_move _ rfl (by first | exact Or.inl rfl | exact Or.inr rfl) ⟨_, rfl, Below.refl _ _, e⟩
              · intro vs w' F hb hd hF hl hT
                have eg := ((hF 174).trans (look_at _ 174 20 _ _ (by kernel_rfl) (by kernel_rfl) hl)).trans (dep_of (Fact := F_k20 W.heap.size k ak nk ck l al nl cl s FK FF) hd 20 (by kernel_rfl))
                refine wpList_on rfl (t := 174) (by kernel_rfl) eg ?_
                have e := (hF 0).trans (look_out _ 0 _ _ (by kernel_rfl))
                exact one_move _ rfl (by first | exact Or.inl rfl | exact Or.inr rfl) ⟨_, rfl, Below.refl _ _, e⟩
              · intro vs w' F hb hd hF hl hT
                have eg := ((hF 174).trans (look_at _ 174 20 _ _ (by kernel_rfl) (by kernel_rfl) hl)).trans (dep_of (Fact := F_k20 W.heap.size k ak nk ck l al nl cl s FK FF) hd 20 (by kernel_rfl))
                refine wpList_on rfl (t := 174) (by kernel_rfl) eg ?_
                have e := (hF 5).trans (look_out _ 5 _ _ (by kernel_rfl))
                exact one_load_row 25 _ rfl rfl W.heap.size #[.string k.name, .slice ak nk ck] 25 (0, 0) e (heap_below HK20.out hb) _ Tryd.underlying25 rfl (by kernel_rfl) ⟨_, rfl, Below.refl _ _, rfl⟩
              · intro vs w' F hb hd hF hl hT
                have eg := ((hF 174).trans (look_at _ 174 20 _ _ (by kernel_rfl) (by kernel_rfl) hl)).trans (dep_of (Fact := F_k20 W.heap.size k ak nk ck l al nl cl s FK FF) hd 20 (by kernel_rfl))
                refine wpList_on rfl (t := 174) (by kernel_rfl) eg ?_
                have e := (((hF 176).trans (look_at _ 176 22 _ _ (by kernel_rfl) (by kernel_rfl) hl)).trans (dep_of (Fact := F_k20 W.heap.size k ak nk ck l al nl cl s FK FF) hd 22 (by kernel_rfl)))
                refine one_slice2c 22 25 _ rfl rfl (.string k.name) (.slice ak nk ck) (.string ByteArray.empty) (.slice none 0 0) e Tryd.underlying22 inf_kind4 ?_
                refine ⟨_, rfl, (Below.refl _ _).alloc (Nat.le_refl _) _, _, rfl, ?_, ?_⟩
                · rw [cell_of_row _ _ 0 _ _ _ (heap_alloc_new w' _)]; rfl
                · rw [cell_of_row _ _ 1 _ _ _ (heap_alloc_new w' _)]; rfl
              · intro vs w' F hb hd hF hl hT
                have eg := ((hF 174).trans (look_at _ 174 20 _ _ (by kernel_rfl) (by kernel_rfl) hl)).trans (dep_of (Fact := F_k20 W.heap.size k ak nk ck l al nl cl s FK FF) hd 20 (by kernel_rfl))
                refine wpList_on rfl (t := 174) (by kernel_rfl) eg ?_
                have e := (hF 0).trans (look_out _ 0 _ _ (by kernel_rfl))
                exact one_move _ rfl (by first | exact Or.inl rfl | exact Or.inr rfl) ⟨_, rfl, Below.refl _ _, e⟩
              · intro vs w' F hb hd hF hl hT
                have eg := ((hF 174).trans (look_at _ 174 20 _ _ (by kernel_rfl) (by kernel_rfl) hl)).trans (dep_of (Fact := F_k20 W.heap.size k ak nk ck l al nl cl s FK FF) hd 20 (by kernel_rfl))
                refine wpList_on rfl (t := 174) (by kernel_rfl) eg ?_
                obtain ⟨X, hX, h0, h1⟩ := (dep_of (Fact := F_k20 W.heap.size k ak nk ck l al nl cl s FK FF) hd 23 (by kernel_rfl))
                have e1 := ((hF 177).trans (look_at _ 177 23 _ _ (by kernel_rfl) (by kernel_rfl) hl)).trans hX
                have e2 := (((hF 178).trans (look_at _ 178 24 _ _ (by kernel_rfl) (by kernel_rfl) hl)).trans (dep_of (Fact := F_k20 W.heap.size k ak nk ck l al nl cl s FK FF) hd 24 (by kernel_rfl)))
                obtain ⟨zs, hz1, hz2, _⟩ := kinds_cells (B5.out w' hb)
                refine one_append1 _ _ 22 25 rfl rfl (.agg #[.string ByteArray.empty, .slice none 0 0]) 2 40 Tryd.underlying22 inf_kind3 rfl (by decide) X [.string k.name, .slice ak nk ck] e1 rfl ?_ al nl cl zs e2 (by rw [hz1, HNL.out]) hz2 (by unfold maxLen; omega) (by omega) ?_
                · intro j u hj
                  match j, hj with
                  | 0, hj => simp at hj; subst hj; exact h0
                  | 1, hj => simp at hj; subst hj; exact h1
                · intro v2 w2 hv hg
                  exact ⟨_, rfl, (Below.refl _ _).grown hg (Nat.le_refl _) (fun g h => by cases h), hv⟩
              · intro vs w' F hb hd hF hl hT
                have eg := ((hF 174).trans (look_at _ 174 20 _ _ (by kernel_rfl) (by kernel_rfl) hl)).trans (dep_of (Fact := F_k20 W.heap.size k ak nk ck l al nl cl s FK FF) hd 20 (by kernel_rfl))
                refine wpList_on rfl (t := 174) (by kernel_rfl) eg ?_
                have e1 := (((hF 175).trans (look_at _ 175 21 _ _ (by kernel_rfl) (by kernel_rfl) hl)).trans (dep_of (Fact := F_k20 W.heap.size k ak nk ck l al nl cl s FK FF) hd 21 (by kernel_rfl)))
                obtain ⟨a, c, hv⟩ := (dep_of (Fact := F_k20 W.heap.size k ak nk ck l al nl cl s FK FF) hd 25 (by kernel_rfl))
                have e2 := ((hF 179).trans (look_at _ 179 25 _ _ (by kernel_rfl) (by kernel_rfl) hl)).trans hv
                refine one_call _ _ rfl rfl (enters_of Tryd.func27 (by kernel_rfl) rfl) #[.slice al nl cl, .slice a (1 + nl) c] (eval2 e1 e2) ?_
                refine (kind_Same_ne al a nl (1 + nl) cl c (by omega) (by omega) (by omega) w').mono ?_
                rintro e2 w2 ⟨rfl, hb2⟩
                exact ⟨_, rfl, _, rfl, hb2, rfl⟩
              · intro vs w' F hb hd hF hl hT
                have eg := ((hF 174).trans (look_at _ 174 20 _ _ (by kernel_rfl) (by kernel_rfl) hl)).trans (dep_of (Fact := F_k20 W.heap.size k ak nk ck l al nl cl s FK FF) hd 20 (by kernel_rfl))
                refine wpList_on rfl (t := 174) (by kernel_rfl) eg ?_
                have e := (hF 0).trans (look_out _ 0 _ _ (by kernel_rfl))
                exact one_move _ rfl (by first | exact Or.inl rfl | exact Or.inr rfl) ⟨_, rfl, Below.refl _ _, e⟩
              · intro vs w' F hb hd hF hl hT
                have eg := ((hF 174).trans (look_at _ 174 20 _ _ (by kernel_rfl) (by kernel_rfl) hl)).trans (dep_of (Fact := F_k20 W.heap.size k ak nk ck l al nl cl s FK FF) hd 20 (by kernel_rfl))
                refine wpList_on rfl (t := 174) (by kernel_rfl) eg ?_
                have e := (hF 5).trans (look_out _ 5 _ _ (by kernel_rfl))
                exact one_load_row 25 _ rfl rfl W.heap.size #[.string k.name, .slice ak nk ck] 25 (0, 0) e (heap_below HK20.out hb) _ Tryd.underlying25 rfl (by kernel_rfl) ⟨_, rfl, Below.refl _ _, rfl⟩
              · intro vs w' F hb hd hF hl hT
                have eg := ((hF 174).trans (look_at _ 174 20 _ _ (by kernel_rfl) (by kernel_rfl) hl)).trans (dep_of (Fact := F_k20 W.heap.size k ak nk ck l al nl cl s FK FF) hd 20 (by kernel_rfl))
                refine wpList_on rfl (t := 174) (by kernel_rfl) eg ?_
                have e := (((hF 182).trans (look_at _ 182 28 _ _ (by kernel_rfl) (by kernel_rfl) hl)).trans (dep_of (Fact := F_k20 W.heap.size k ak nk ck l al nl cl s FK FF) hd 28 (by kernel_rfl)))
                refine one_slice2c 22 25 _ rfl rfl (.string k.name) (.slice ak nk ck) (.string ByteArray.empty) (.slice none 0 0) e Tryd.underlying22 inf_kind4 ?_
                refine ⟨_, rfl, (Below.refl _ _).alloc (Nat.le_refl _) _, _, rfl, ?_, ?_⟩
                · rw [cell_of_row _ _ 0 _ _ _ (heap_alloc_new w' _)]; rfl
                · rw [cell_of_row _ _ 1 _ _ _ (heap_alloc_new w' _)]; rfl
              · intro vs w' F hb hd hF hl hT
                have eg := ((hF 174).trans (look_at _ 174 20 _ _ (by kernel_rfl) (by kernel_rfl) hl)).trans (dep_of (Fact := F_k20 W.heap.size k ak nk ck l al nl cl s FK FF) hd 20 (by kernel_rfl))
                refine wpList_on rfl (t := 174) (by kernel_rfl) eg ?_
                have e := (hF 0).trans (look_out _ 0 _ _ (by kernel_rfl))
                exact one_move _ rfl (by first | exact Or.inl rfl | exact Or.inr rfl) ⟨_, rfl, Below.refl _ _, e⟩
              · intro vs w' F hb hd hF hl hT
                have eg := ((hF 174).trans (look_at _ 174 20 _ _ (by kernel_rfl) (by kernel_rfl) hl)).trans (dep_of (Fact := F_k20 W.heap.size k ak nk ck l al nl cl s FK FF) hd 20 (by kernel_rfl))
                refine wpList_on rfl (t := 174) (by kernel_rfl) eg ?_
                obtain ⟨X, hX, h0, h1⟩ := (dep_of (Fact := F_k20 W.heap.size k ak nk ck l al nl cl s FK FF) hd 29 (by kernel_rfl))
                have e1 := ((hF 183).trans (look_at _ 183 29 _ _ (by kernel_rfl) (by kernel_rfl) hl)).trans hX
                have e2 := (((hF 184).trans (look_at _ 184 30 _ _ (by kernel_rfl) (by kernel_rfl) hl)).trans (dep_of (Fact := F_k20 W.heap.size k ak nk ck l al nl cl s FK FF) hd 30 (by kernel_rfl)))
                obtain ⟨zs, hz1, hz2, _⟩ := kinds_cells (B5.out w' hb)
                refine one_append1 _ _ 22 25 rfl rfl (.agg #[.string ByteArray.empty, .slice none 0 0]) 2 40 Tryd.underlying22 inf_kind3 rfl (by decide) X [.string k.name, .slice ak nk ck] e1 rfl ?_ al nl cl zs e2 (by rw [hz1, HNL.out]) hz2 (by unfold maxLen; omega) (by omega) ?_
                · intro j u hj
                  match j, hj with
                  | 0, hj => simp at hj; subst hj; exact h0
                  | 1, hj => simp at hj; subst hj; exact h1
                · intro v2 w2 hv hg
                  exact ⟨_, rfl, (Below.refl _ _).grown hg (Nat.le_refl _) (fun g h => by cases h), hv⟩
              · intro vs w' F hb hd hF hl hT
                have eg := ((hF 174).trans (look_at _ 174 20 _ _ (by kernel_rfl) (by kernel_rfl) hl)).trans (dep_of (Fact := F_k20 W.heap.size k ak nk ck l al nl cl s FK FF) hd 20 (by kernel_rfl))
                refine wpList_on rfl (t := 174) (by kernel_rfl) eg ?_
                have e1 := (((hF 181).trans (look_at _ 181 27 _ _ (by kernel_rfl) (by kernel_rfl) hl)).trans (dep_of (Fact := F_k20 W.heap.size k ak nk ck l al nl cl s FK FF) hd 27 (by kernel_rfl)))
                obtain ⟨a, c, hv⟩ := (dep_of (Fact := F_k20 W.heap.size k ak nk ck l al nl cl s FK FF) hd 31 (by kernel_rfl))
                have e2 := ((hF 185).trans (look_at _ 185 31 _ _ (by kernel_rfl) (by kernel_rfl) hl)).trans hv
                refine one_call _ _ rfl rfl (enters_of Tryd.func24 (by kernel_rfl) rfl) #[.slice al nl cl, .slice a (1 + nl) c, .func (.func 26) #[] #[]] (eval3 e1 e2 rfl) ?_
                refine (eqf_kinds_ne al a nl (1 + nl) cl c (by omega) (by omega) (by omega) w').mono ?_
                rintro e2 w2 ⟨rfl, hb2⟩
                exact ⟨_, rfl, _, rfl, hb2, rfl⟩
              · intro vs w' F hb hd hF hl hT
                have eg := ((hF 174).trans (look_at _ 174 20 _ _ (by kernel_rfl) (by kernel_rfl) hl)).trans (dep_of (Fact := F_k20 W.heap.size k ak nk ck l al nl cl s FK FF) hd 20 (by kernel_rfl))
                refine wpList_on rfl (t := 174) (by kernel_rfl) eg ?_
                have e1 := ((hF 180).trans (look_at _ 180 26 _ _ (by kernel_rfl) (by kernel_rfl) hl)).trans (dep_of (Fact := F_k20 W.heap.size k ak nk ck l al nl cl s FK FF) hd 26 (by kernel_rfl))
                have e2 := ((hF 186).trans (look_at _ 186 32 _ _ (by kernel_rfl) (by kernel_rfl) hl)).trans (dep_of (Fact := F_k20 W.heap.size k ak nk ck l al nl cl s FK FF) hd 32 (by kernel_rfl))
                exact one_bool_eq _ _ _ _ rfl rfl (by kernel_rfl) _ _ true e1 e2 (beq_self_eq_true _) ⟨_, rfl, Below.refl _ _, rfl⟩
              · intro vs w' F hb hd hF hl hT
                have ec := ((hF 174).trans (look_at _ 174 20 _ _ (by kernel_rfl) (by kernel_rfl) hl)).trans (dep_of (Fact := F_k20 W.heap.size k ak nk ck l al nl cl s FK FF) hd 20 (by kernel_rfl))
                have e := ((hF 187).trans (look_at _ 187 33 _ _ (by kernel_rfl) (by kernel_rfl) hl)).trans (dep_of (Fact := F_k20 W.heap.size k ak nk ck l al nl cl s FK FF) hd 33 (by kernel_rfl))
                exact one_pick_t _ _ _ rfl rfl _ ec e ⟨_, rfl, Below.refl _ _, rfl⟩
              · intro vs w' F hb hd hF hl hT
                have e := ((hF 188).trans (look_at _ 188 34 _ _ (by kernel_rfl) (by kernel_rfl) hl)).trans (dep_of (Fact := F_k20 W.heap.size k ak nk ck l al nl cl s FK FF) hd 34 (by kernel_rfl))
                exact one_move _ rfl (by first | exact Or.inl rfl | exact Or.inr rfl) ⟨_, rfl, Below.refl _ _, e⟩
              · intro vs w' F hb hd hF hl hT
                have eg := ((hF 189).trans (look_at _ 189 35 _ _ (by kernel_rfl) (by kernel_rfl) hl)).trans (dep_of (Fact := F_k20 W.heap.size k ak nk ck l al nl cl s FK FF) hd 35 (by kernel_rfl))
                refine wpList_on rfl (t := 189) (by kernel_rfl) eg ?_
                have e := (hF 0).trans (look_out _ 0 _ _ (by kernel_rfl))
                exact one_move _ rfl (by first | exact Or.inl rfl | exact Or.inr rfl) ⟨_, rfl, Below.refl _ _, e⟩
              · intro vs w' F hb hd hF hl hT
                have eg := ((hF 189).trans (look_at _ 189 35 _ _ (by kernel_rfl) (by kernel_rfl) hl)).trans (dep_of (Fact := F_k20 W.heap.size k ak nk ck l al nl cl s FK FF) hd 35 (by kernel_rfl))
                refine wpList_on rfl (t := 189) (by kernel_rfl) eg ?_
                have e := (hF 0).trans (look_out _ 0 _ _ (by kernel_rfl))
                exact one_move _ rfl (by first | exact Or.inl rfl | exact Or.inr rfl) ⟨_, rfl, Below.refl _ _, e⟩
              · intro vs w' F hb hd hF hl hT
                have eg := ((hF 189).trans (look_at _ 189 35 _ _ (by kernel_rfl) (by kernel_rfl) hl)).trans (dep_of (Fact := F_k20 W.heap.size k ak nk ck l al nl cl s FK FF) hd 35 (by kernel_rfl))
                refine wpList_on rfl (t := 189) (by kernel_rfl) eg ?_
                refine one_call _ _ rfl rfl (enters_of Tryd.func27 (by kernel_rfl) rfl) #[.slice al nl cl, .slice al nl cl] (eval2 (((hF 190).trans (look_at _ 190 36 _ _ (by kernel_rfl) (by kernel_rfl) hl)).trans (dep_of (Fact := F_k20 W.heap.size k ak nk ck l al nl cl s FK FF) hd 36 (by kernel_rfl))) (((hF 191).trans (look_at _ 191 37 _ _ (by kernel_rfl) (by kernel_rfl) hl)).trans (dep_of (Fact := F_k20 W.heap.size k ak nk ck l al nl cl s FK FF) hd 37 (by kernel_rfl)))) ?_
                refine (C7.out w' hb).mono ?_
                rintro e2 w2 ⟨rfl, hb2⟩
                exact ⟨_, rfl, _, rfl, hb2, rfl⟩
              · intro vs w' F hb hd hF hl hT
                have ec := ((hF 189).trans (look_at _ 189 35 _ _ (by kernel_rfl) (by kernel_rfl) hl)).trans (dep_of (Fact := F_k20 W.heap.size k ak nk ck l al nl cl s FK FF) hd 35 (by kernel_rfl))
                have e := ((hF 192).trans (look_at _ 192 38 _ _ (by kernel_rfl) (by kernel_rfl) hl)).trans (dep_of (Fact := F_k20 W.heap.size k ak nk ck l al nl cl s FK FF) hd 38 (by kernel_rfl))
                exact one_pick_t _ _ _ rfl rfl _ ec e ⟨_, rfl, Below.refl _ _, rfl⟩
              · intro vs w' F hb hd hF hl hT
                have e := ((hF 193).trans (look_at _ 193 39 _ _ (by kernel_rfl) (by kernel_rfl) hl)).trans (dep_of (Fact := F_k20 W.heap.size k ak nk ck l al nl cl s FK FF) hd 39 (by kernel_rfl))
                exact one_move _ rfl (by first | exact Or.inl rfl | exact Or.inr rfl) ⟨_, rfl, Below.refl _ _, e⟩
            · intro vs wF hl hb hI
              have i40 : vs.getD 40 undef = .bool true := hI 40 (by omega)
              obtain ⟨q0, q1, q2, q3, q4, q5, q6, q7, q8, q9, q10, q11, q12, q13, q14, q15, q16, q17, q18, q19, q20, q21, q22, q23, q24, q25, q26, q27, q28, q29, q30, q31, q32, q33, q34, q35, q36, q37, q38, q39, q40, rfl⟩ := list41 hl
              replace i40 : q40 = .bool true := i40
              subst i40
              have HB14 := Lib.hid ((HB13.out.trans (hb.mono HB13.out.size)))
              clear hI hl hb C2 C3 C4 C5 C6 C7 B5
              simp only [fillAll, Act.put, List.setIfInBounds_toArray, List.set_cons_succ, List.set_cons_zero]
              show wpList _ _ _ [] _ _
              go_wp2_with fail
              go_ret
              exact ⟨rfl, HB0.out.trans (HB14.out.mono HB0.out.size)⟩
          · obtain rfl := HW0Z.out hk
            have t1 : (K1 == 0) = false := by simpa using hk
            have t2 : (K1 != 0) = true := by simpa using hk
            clear HW1 HW0Z HWD hk
            have d0 : wr.cell? ⟨W.heap.size, 0, none⟩ = some (.string k.name) := by rw [cell_of_row _ _ _ _ _ _ HK16.out]; rfl
            have d1 : wr.cell? ⟨W.heap.size, 1, none⟩ = some (.slice ak nk ck) := by rw [cell_of_row _ _ _ _ _ _ HK16.out]; rfl
            go_wp2_with fail
            refine (B2.out _ (Below.refl _ _)).mono ?_
            rintro e wG ⟨rfl, hbG⟩
            replace d0 := cell_abides d0 hbG
            replace d1 := cell_abides d1 hbG
            have HBG := Lib.hid hbG
            clear hbG
            go_wp2_with fail
            refine (B3.out _ HBG.out).mono ?_
            rintro e wH ⟨⟨uD, rfl, huD⟩, hbH⟩
            have HBH := Lib.hid (HBG.out.trans (hbH.mono HBG.out.size))
            have HUD := Lib.hid huD
            clear hbH huD d0 d1
            go_wp2_with fail
            refine (B4.out _ HBH.out uD HUD.out).mono ?_
            rintro e wD ⟨rfl, hbD⟩
            have HBD := Lib.hid (HBH.out.trans (hbD.mono HBH.out.size))
            have HB12 := Lib.hid (HB11.out.trans (HBD.out.mono HB11.out.size))
            have HK17 := Lib.hid (heap_below HK16.out HBD.out)
            have D217 := Lib.hid (cell_abides D216.out HBD.out)
            clear hbD B2 B3 B4 HSX HK16 D216 HB11 HBG HBH HBD HUD
            have d1 : wD.cell? ⟨W.heap.size, 1, none⟩ = some (.slice ak nk ck) := by rw [cell_of_row _ _ _ _ _ _ HK17.out]; rfl
            have CF := idx_flds k.fields ak nk ck s (W.heap.size + 1) hnk (by omega) wD (HZK.out.below FieldAt.abides HB12.out) D217.out
            obtain ⟨FF, hFF⟩ : ∃ FF, FF = firstAt (k.fields.map (·.name)) s 0 := ⟨_, rfl⟩
            obtain ⟨FK, hFK⟩ : ∃ FK, FK = firstAt (l.map (·.name)) s 0 := ⟨_, rfl⟩
            rw [← hFF] at CF
            have HCF := Lib.hid CF
            clear CF
            go_wp2_with fail
            refine HCF.out.mono ?_
            rintro e wE ⟨rfl, hbe⟩
            have HB13 := Lib.hid (HB12.out.trans (hbe.mono HB12.out.size))
            have HK20 := Lib.hid (heap_below HK17.out hbe)
            have D20 := Lib.hid (cell_abides D217.out hbe)
            have HNL := Lib.hid hnl
            have B5 := Lib.hid (fun w' (hb : Below wE.heap.size wE w') => HZL.out.below KindAt.abides (HB13.out.trans (hb.mono HB13.out.size)))
            have C2 := Lib.hid (fun w' (hb : Below wE.heap.size wE w') => kind_Find l al nl cl s hnl (by omega) w' (B5.out w' hb))
            have C3 := Lib.hid (fun w' (hb : Below wE.heap.size wE w') => idx_kinds l al nl cl s (W.heap.size + 1) hnl (by omega) w' (B5.out w' hb) (cell_abides D20.out hb))
            have C4 := Lib.hid (fun w' (hb : Below wE.heap.size wE w') => kind_Field k.fields ak nk ck s k.name hnk (by omega) w' (HZK.out.below FieldAt.abides (HB13.out.trans (hb.mono HB13.out.size))))
            have C5 := Lib.hid (fun w' (hb : Below wE.heap.size wE w') => kind_Copy l al nl cl hnl hnl2 hlv w' (B5.out w' hb))
            have C6 := Lib.hid (fun w' (hb : Below wE.heap.size wE w') a c hs => eqf_kinds l a al nl c cl hnl (by omega) w' hs (B5.out w' hb))
            have C7 := Lib.hid (fun w' (hb : Below wE.heap.size wE w') => kind_Same l al al nl cl cl hnl (by omega) w' (B5.out w' hb) (B5.out w' hb))
            rw [← hFK] at C2 C3
            rw [← hFF] at C4
            clear hFF hFK d1 HCF hbe HB12 HK17 D217
            go_wp2_with fail
            refine wp_region_facts_t rfl 41 (by kernel_rfl) (F_k20 W.heap.size k ak nk ck l al nl cl s FK FF) (F_k20_mono W.heap.size k ak nk ck l al nl cl s FK FF) ?_ ?_
            · refine ⟨?_, ?_, ?_, ?_, ?_, ?_, ?_, ?_, ?_, ?_, ?_, ?_, ?_, ?_, ?_, ?_, ?_, ?_, ?_, ?_, ?_, ?_, ?_, ?_, ?_, ?_, ?_, ?_, ?_, ?_, ?_, ?_, ?_, ?_, ?_, ?_, ?_, ?_, ?_, ?_, ?_, trivial⟩
              · intro vs w' F hb hd hF hl hT
                have e := (hF 0).trans (look_out _ 0 _ _ (by kernel_rfl))
                exact one_move _ rfl (by first | exact Or.inl rfl | exact Or.inr rfl) ⟨_, rfl, Below.refl _ _, e⟩
              · intro vs w' F hb hd hF hl hT
                have e := (hF 7).trans (look_out _ 7 _ _ (by kernel_rfl))
                exact one_load _ _ rfl rfl _ _ e (cell_abides D20.out hb) (by kernel_rfl) ⟨_, rfl, Below.refl _ _, rfl⟩
              · intro vs w' F hb hd hF hl hT
                refine one_call _ _ rfl rfl (enters_of Tryd.func21 (by kernel_rfl) rfl) #[.slice al nl cl, .string s] (eval2 (((hF 154).trans (look_at _ 154 0 _ _ (by kernel_rfl) (by kernel_rfl) hl)).trans (dep_of (Fact := F_k20 W.heap.size k ak nk ck l al nl cl s FK FF) hd 0 (by kernel_rfl))) (((hF 155).trans (look_at _ 155 1 _ _ (by kernel_rfl) (by kernel_rfl) hl)).trans (dep_of (Fact := F_k20 W.heap.size k ak nk ck l al nl cl s FK FF) hd 1 (by kernel_rfl)))) ?_
                refine (C2.out w' hb).mono ?_
                rintro e2 w2 ⟨rfl, hb2⟩
                exact ⟨_, rfl, _, rfl, hb2, rfl⟩
              · intro vs w' F hb hd hF hl hT
                have e := (hF 0).trans (look_out _ 0 _ _ (by kernel_rfl))
                exact one_move _ rfl (by first | exact Or.inl rfl | exact Or.inr rfl) ⟨_, rfl, Below.refl _ _, e⟩
              · intro vs w' F hb hd hF hl hT
                have e := (hF 22).trans (look_out _ 22 _ _ (by kernel_rfl))
                exact one_move _ rfl (by first | exact Or.inl rfl | exact Or.inr rfl) ⟨_, rfl, Below.refl _ _, e⟩
              · intro vs w' F hb hd hF hl hT
                refine one_call _ _ rfl rfl (enters_of Tryd.func22 (by kernel_rfl) rfl) #[.slice al nl cl, .func (.func 18) #[] #[.pointer (some ⟨W.heap.size + 1, 0, none⟩)]] (eval2 (((hF 157).trans (look_at _ 157 3 _ _ (by kernel_rfl) (by kernel_rfl) hl)).trans (dep_of (Fact := F_k20 W.heap.size k ak nk ck l al nl cl s FK FF) hd 3 (by kernel_rfl))) (((hF 158).trans (look_at _ 158 4 _ _ (by kernel_rfl) (by kernel_rfl) hl)).trans (dep_of (Fact := F_k20 W.heap.size k ak nk ck l al nl cl s FK FF) hd 4 (by kernel_rfl)))) ?_
                refine (C3.out w' hb).mono ?_
                rintro e2 w2 ⟨rfl, hb2⟩
                exact ⟨_, rfl, _, rfl, hb2, rfl⟩
              · intro vs w' F hb hd hF hl hT
                have e1 := ((hF 156).trans (look_at _ 156 2 _ _ (by kernel_rfl) (by kernel_rfl) hl)).trans (dep_of (Fact := F_k20 W.heap.size k ak nk ck l al nl cl s FK FF) hd 2 (by kernel_rfl))
                have e2 := ((hF 159).trans (look_at _ 159 5 _ _ (by kernel_rfl) (by kernel_rfl) hl)).trans (dep_of (Fact := F_k20 W.heap.size k ak nk ck l al nl cl s FK FF) hd 5 (by kernel_rfl))
                exact one_int_eq _ _ _ _ rfl rfl _ _ _ true e1 e2 (beq_self_eq_true _) ⟨_, rfl, Below.refl _ _, rfl⟩
              · intro vs w' F hb hd hF hl hT
                have e := ((hF 160).trans (look_at _ 160 6 _ _ (by kernel_rfl) (by kernel_rfl) hl)).trans (dep_of (Fact := F_k20 W.heap.size k ak nk ck l al nl cl s FK FF) hd 6 (by kernel_rfl))
                exact one_move _ rfl (by first | exact Or.inl rfl | exact Or.inr rfl) ⟨_, rfl, Below.refl _ _, e⟩
              · intro vs w' F hb hd hF hl hT
                have eg := ((hF 161).trans (look_at _ 161 7 _ _ (by kernel_rfl) (by kernel_rfl) hl)).trans (dep_of (Fact := F_k20 W.heap.size k ak nk ck l al nl cl s FK FF) hd 7 (by kernel_rfl))
                refine wpList_on rfl (t := 161) (by kernel_rfl) eg ?_
                have e := (hF 5).trans (look_out _ 5 _ _ (by kernel_rfl))
                exact one_load_row 25 _ rfl rfl W.heap.size #[.string k.name, .slice ak nk ck] 25 (0, 0) e (heap_below HK20.out hb) _ Tryd.underlying25 rfl (by kernel_rfl) ⟨_, rfl, Below.refl _ _, rfl⟩
              · intro vs w' F hb hd hF hl hT
                have eg := ((hF 161).trans (look_at _ 161 7 _ _ (by kernel_rfl) (by kernel_rfl) hl)).trans (dep_of (Fact := F_k20 W.heap.size k ak nk ck l al nl cl s FK FF) hd 7 (by kernel_rfl))
                refine wpList_on rfl (t := 161) (by kernel_rfl) eg ?_
                have e := (hF 7).trans (look_out _ 7 _ _ (by kernel_rfl))
                exact one_load _ _ rfl rfl _ _ e (cell_abides D20.out hb) (by kernel_rfl) ⟨_, rfl, Below.refl _ _, rfl⟩
              · intro vs w' F hb hd hF hl hT
                have eg := ((hF 161).trans (look_at _ 161 7 _ _ (by kernel_rfl) (by kernel_rfl) hl)).trans (dep_of (Fact := F_k20 W.heap.size k ak nk ck l al nl cl s FK FF) hd 7 (by kernel_rfl))
                refine wpList_on rfl (t := 161) (by kernel_rfl) eg ?_
                refine one_call _ _ rfl rfl (enters_of Tryd.func23 (by kernel_rfl) rfl) #[.agg #[.string k.name, .slice ak nk ck], .string s] (eval2 (((hF 162).trans (look_at _ 162 8 _ _ (by kernel_rfl) (by kernel_rfl) hl)).trans (dep_of (Fact := F_k20 W.heap.size k ak nk ck l al nl cl s FK FF) hd 8 (by kernel_rfl))) (((hF 163).trans (look_at _ 163 9 _ _ (by kernel_rfl) (by kernel_rfl) hl)).trans (dep_of (Fact := F_k20 W.heap.size k ak nk ck l al nl cl s FK FF) hd 9 (by kernel_rfl)))) ?_
                refine (C4.out w' hb).mono ?_
                rintro e2 w2 ⟨rfl, hb2⟩
                exact ⟨_, rfl, _, rfl, hb2, rfl⟩
              · intro vs w' F hb hd hF hl hT
                have eg := ((hF 161).trans (look_at _ 161 7 _ _ (by kernel_rfl) (by kernel_rfl) hl)).trans (dep_of (Fact := F_k20 W.heap.size k ak nk ck l al nl cl s FK FF) hd 7 (by kernel_rfl))
                refine wpList_on rfl (t := 161) (by kernel_rfl) eg ?_
                have e := (hF 23).trans (look_out _ 23 _ _ (by kernel_rfl))
                exact one_move _ rfl (by first | exact Or.inl rfl | exact Or.inr rfl) ⟨_, rfl, Below.refl _ _, e⟩
              · intro vs w' F hb hd hF hl hT
                have eg := ((hF 161).trans (look_at _ 161 7 _ _ (by kernel_rfl) (by kernel_rfl) hl)).trans (dep_of (Fact := F_k20 W.heap.size k ak nk ck l al nl cl s FK FF) hd 7 (by kernel_rfl))
                refine wpList_on rfl (t := 161) (by kernel_rfl) eg ?_
                have e1 := ((hF 164).trans (look_at _ 164 10 _ _ (by kernel_rfl) (by kernel_rfl) hl)).trans (dep_of (Fact := F_k20 W.heap.size k ak nk ck l al nl cl s FK FF) hd 10 (by kernel_rfl))
                have e2 := ((hF 165).trans (look_at _ 165 11 _ _ (by kernel_rfl) (by kernel_rfl) hl)).trans (dep_of (Fact := F_k20 W.heap.size k ak nk ck l al nl cl s FK FF) hd 11 (by kernel_rfl))
                exact one_int_eq _ _ _ _ rfl rfl _ _ _ true e1 e2 (beq_self_eq_true _) ⟨_, rfl, Below.refl _ _, rfl⟩
              · intro vs w' F hb hd hF hl hT
                have ec := ((hF 161).trans (look_at _ 161 7 _ _ (by kernel_rfl) (by kernel_rfl) hl)).trans (dep_of (Fact := F_k20 W.heap.size k ak nk ck l al nl cl s FK FF) hd 7 (by kernel_rfl))
                have e := ((hF 166).trans (look_at _ 166 12 _ _ (by kernel_rfl) (by kernel_rfl) hl)).trans (dep_of (Fact := F_k20 W.heap.size k ak nk ck l al nl cl s FK FF) hd 12 (by kernel_rfl))
                exact one_pick_t _ _ _ rfl rfl _ ec e ⟨_, rfl, Below.refl _ _, rfl⟩
              · intro vs w' F hb hd hF hl hT
                have e := ((hF 167).trans (look_at _ 167 13 _ _ (by kernel_rfl) (by kernel_rfl) hl)).trans (dep_of (Fact := F_k20 W.heap.size k ak nk ck l al nl cl s FK FF) hd 13 (by kernel_rfl))
                exact one_move _ rfl (by first | exact Or.inl rfl | exact Or.inr rfl) ⟨_, rfl, Below.refl _ _, e⟩
              · intro vs w' F hb hd hF hl hT
                have eg := ((hF 168).trans (look_at _ 168 14 _ _ (by kernel_rfl) (by kernel_rfl) hl)).trans (dep_of (Fact := F_k20 W.heap.size k ak nk ck l al nl cl s FK FF) hd 14 (by kernel_rfl))
                refine wpList_on rfl (t := 168) (by kernel_rfl) eg ?_
                have e := (hF 0).trans (look_out _ 0 _ _ (by kernel_rfl))
                exact one_move _ rfl (by first | exact Or.inl rfl | exact Or.inr rfl) ⟨_, rfl, Below.refl _ _, e⟩
              · intro vs w' F hb hd hF hl hT
                have eg := ((hF 168).trans (look_at _ 168 14 _ _ (by kernel_rfl) (by kernel_rfl) hl)).trans (dep_of (Fact := F_k20 W.heap.size k ak nk ck l al nl cl s FK FF) hd 14 (by kernel_rfl))
                refine wpList_on rfl (t := 168) (by kernel_rfl) eg ?_
                have e := (((hF 169).trans (look_at _ 169 15 _ _ (by kernel_rfl) (by kernel_rfl) hl)).trans (dep_of (Fact := F_k20 W.heap.size k ak nk ck l al nl cl s FK FF) hd 15 (by kernel_rfl)))
                refine one_call _ _ rfl rfl (enters_of Tryd.func25 (by kernel_rfl) rfl) #[.slice al nl cl] (eval1 e) ?_
                refine (C5.out w' hb).mono ?_
                rintro e2 w2 ⟨⟨a, c, rfl, hs⟩, hb2⟩
                exact ⟨_, rfl, _, rfl, hb2, a, c, rfl, hs⟩
              · intro vs w' F hb hd hF hl hT
                have eg := ((hF 168).trans (look_at _ 168 14 _ _ (by kernel_rfl) (by kernel_rfl) hl)).trans (dep_of (Fact := F_k20 W.heap.size k ak nk ck l al nl cl s FK FF) hd 14 (by kernel_rfl))
                refine wpList_on rfl (t := 168) (by kernel_rfl) eg ?_
                have e := (hF 0).trans (look_out _ 0 _ _ (by kernel_rfl))
                exact one_move _ rfl (by first | exact Or.inl rfl | exact Or.inr rfl) ⟨_, rfl, Below.refl _ _, e⟩
              · intro vs w' F hb hd hF hl hT
                have eg := ((hF 168).trans (look_at _ 168 14 _ _ (by kernel_rfl) (by kernel_rfl) hl)).trans (dep_of (Fact := F_k20 W.heap.size k ak nk ck l al nl cl s FK FF) hd 14 (by kernel_rfl))
                refine wpList_on rfl (t := 168) (by kernel_rfl) eg ?_
                obtain ⟨a, c, hv, hs⟩ := (dep_of (Fact := F_k20 W.heap.size k ak nk ck l al nl cl s FK FF) hd 16 (by kernel_rfl))
                have e1 := ((hF 170).trans (look_at _ 170 16 _ _ (by kernel_rfl) (by kernel_rfl) hl)).trans hv
                have e2 := (((hF 171).trans (look_at _ 171 17 _ _ (by kernel_rfl) (by kernel_rfl) hl)).trans (dep_of (Fact := F_k20 W.heap.size k ak nk ck l al nl cl s FK FF) hd 17 (by kernel_rfl)))
                refine one_call _ _ rfl rfl (enters_of Tryd.func24 (by kernel_rfl) rfl) #[.slice a nl c, .slice al nl cl, .func (.func 26) #[] #[]] (eval3 e1 e2 rfl) ?_
                refine (C6.out w' hb a c hs).mono ?_
                rintro e2 w2 ⟨rfl, hb2⟩
                exact ⟨_, rfl, _, rfl, hb2, rfl⟩
              · intro vs w' F hb hd hF hl hT
                have ec := ((hF 168).trans (look_at _ 168 14 _ _ (by kernel_rfl) (by kernel_rfl) hl)).trans (dep_of (Fact := F_k20 W.heap.size k ak nk ck l al nl cl s FK FF) hd 14 (by kernel_rfl))
                have e := ((hF 172).trans (look_at _ 172 18 _ _ (by kernel_rfl) (by kernel_rfl) hl)).trans (dep_of (Fact := F_k20 W.heap.size k ak nk ck l al nl cl s FK FF) hd 18 (by kernel_rfl))
                exact one_pick_t _ _ _ rfl rfl _ ec e ⟨_, rfl, Below.refl _ _, rfl⟩
              · intro vs w' F hb hd hF hl hT
                have e := ((hF 173).trans (look_at _ 173 19 _ _ (by kernel_rfl) (by kernel_rfl) hl)).trans (dep_of (Fact := F_k20 W.heap.size k ak nk ck l al nl cl s FK FF) hd 19 (by kernel_rfl))
                exact one_move _ rfl (by first | exact Or.inl rfl | exact Or.inr rfl) ⟨_, rfl, Below.refl _ _, e⟩
              · intro vs w' F hb hd hF hl hT
                have eg := ((hF 174).trans (look_at _ 174 20 _ _ (by kernel_rfl) (by kernel_rfl) hl)).trans (dep_of (Fact := F_k20 W.heap.size k ak nk ck l al nl cl s FK FF) hd 20 (by kernel_rfl))
                refine wpList_on rfl (t := 174) (by kernel_rfl) eg ?_
                have e := (hF 0).trans (look_out _ 0 _ _ (by kernel_rfl))
                exact one_move _ rfl (by first | exact Or.inl rfl | exact Or.inr rfl) ⟨_, rfl, Below.refl _ _, e⟩
              · intro vs w' F hb hd hF hl hT
                have eg := ((hF 174).trans (look_at _ 174 20 _ _ (by kernel_rfl) (by kernel_rfl) hl)).trans (dep_of (Fact := F_k20 W.heap.size k ak nk ck l al nl cl s FK FF) hd 20 (by kernel_rfl))
                refine wpList_on rfl (t := 174) (by kernel_rfl) eg ?_
                have e := (hF 5).trans (look_out _ 5 _ _ (by kernel_rfl))
                exact one_load_row 25 _ rfl rfl W.heap.size #[.string k.name, .slice ak nk ck] 25 (0, 0) e (heap_below HK20.out hb) _ Tryd.underlying25 rfl (by kernel_rfl) ⟨_, rfl, Below.refl _ _, rfl⟩
              · intro vs w' F hb hd hF hl hT
                have eg := ((hF 174).trans (look_at _ 174 20 _ _ (by kernel_rfl) (by kernel_rfl) hl)).trans (dep_of (Fact := F_k20 W.heap.size k ak nk ck l al nl cl s FK FF) hd 20 (by kernel_rfl))
                refine wpList_on rfl (t := 174) (by kernel_rfl) eg ?_
                have e := (((hF 176).trans (look_at _ 176 22 _ _ (by kernel_rfl) (by kernel_rfl) hl)).trans (dep_of (Fact := F_k20 W.heap.size k ak nk ck l al nl cl s FK FF) hd 22 (by kernel_rfl)))
                refine one_slice2c 22 25 _ rfl rfl (.string k.name) (.slice ak nk ck) (.string ByteArray.empty) (.slice none 0 0) e Tryd.underlying22 inf_kind4 ?_
                refine ⟨_, rfl, (Below.refl _ _).alloc (Nat.le_refl _) _, _, rfl, ?_, ?_⟩
                · rw [cell_of_row _ _ 0 _ _ _ (heap_alloc_new w' _)]; rfl
                · rw [cell_of_row _ _ 1 _ _ _ (heap_alloc_new w' _)]; rfl
              · intro vs w' F hb hd hF hl hT
                have eg := ((hF 174).trans (look_at _ 174 20 _ _ (by kernel_rfl) (by kernel_rfl) hl)).trans (dep_of (Fact := F_k20 W.heap.size k ak nk ck l al nl cl s FK FF) hd 20 (by kernel_rfl))
                refine wpList_on rfl (t := 174) (by kernel_rfl) eg ?_
                have e := (hF 0).trans (look_out _ 0 _ _ (by kernel_rfl))
                exact one_move _ rfl (by first | exact Or.inl rfl | exact Or.inr rfl) ⟨_, rfl, Below.refl _ _, e⟩
              · intro vs w' F hb hd hF hl hT
                have eg := ((hF 174).trans (look_at _ 174 20 _ _ (by kernel_rfl) (by kernel_rfl) hl)).trans (dep_of (Fact := F_k20 W.heap.size k ak nk ck l al nl cl s FK FF) hd 20 (by kernel_rfl))
                refine wpList_on rfl (t := 174) (by kernel_rfl) eg ?_
                obtain ⟨X, hX, h0, h1⟩ := (dep_of (Fact := F_k20 W.heap.size k ak nk ck l al nl cl s FK FF) hd 23 (by kernel_rfl))
                have e1 := ((hF 177).trans (look_at _ 177 23 _ _ (by kernel_rfl) (by kernel_rfl) hl)).trans hX
                have e2 := (((hF 178).trans (look_at _ 178 24 _ _ (by kernel_rfl) (by kernel_rfl) hl)).trans (dep_of (Fact := F_k20 W.heap.size k ak nk ck l al nl cl s FK FF) hd 24 (by kernel_rfl)))
                obtain ⟨zs, hz1, hz2, _⟩ := kinds_cells (B5.out w' hb)
                refine one_append1 _ _ 22 25 rfl rfl (.agg #[.string ByteArray.empty, .slice none 0 0]) 2 40 Tryd.underlying22 inf_kind3 rfl (by decide) X [.string k.name, .slice ak nk ck] e1 rfl ?_ al nl cl zs e2 (by rw [hz1, HNL.out]) hz2 (by unfold maxLen; omega) (by omega) ?_
                · intro j u hj
                  match j, hj with
                  | 0, hj => simp at hj; subst hj; exact h0
                  | 1, hj => simp at hj; subst hj; exact h1
                · intro v2 w2 hv hg
                  exact ⟨_, rfl, (Below.refl _ _).grown hg (Nat.le_refl _) (fun g h => by cases h), hv⟩
              · intro vs w' F hb hd hF hl hT
                have eg := ((hF 174).trans (look_at _ 174 20 _ _ (by kernel_rfl) (by kernel_rfl) hl)).trans (dep_of (Fact := F_k20 W.heap.size k ak nk ck l al nl cl s FK FF) hd 20 (by kernel_rfl))
                refine wpList_on rfl (t := 174) (by kernel_rfl) eg ?_
                have e1 := (((hF 175).trans (look_at _ 175 21 _ _ (by kernel_rfl) (by kernel_rfl) hl)).trans (dep_of (Fact := F_k20 W.heap.size k ak nk ck l al nl cl s FK FF) hd 21 (by kernel_rfl)))
                obtain ⟨a, c, hv⟩ := (dep_of (Fact := F_k20 W.heap.size k ak nk ck l al nl cl s FK FF) hd 25 (by kernel_rfl))
                have e2 := ((hF 179).trans (look_at _ 179 25 _ _ (by kernel_rfl) (by kernel_rfl) hl)).trans hv
                refine one_call _ _ rfl rfl (enters_of Tryd.func27 (by kernel_rfl) rfl) #[.slice al nl cl, .slice a (1 + nl) c] (eval2 e1 e2) ?_
                refine (kind_Same_ne al a nl (1 + nl) cl c (by omega) (by omega) (by omega) w').mono ?_
                rintro e2 w2 ⟨rfl, hb2⟩
                exact ⟨_, rfl, _, rfl, hb2, rfl⟩
              · intro vs w' F hb hd hF hl hT
                have eg := ((hF 174).trans (look_at _ 174 20 _ _ (by kernel_rfl) (by kernel_rfl) hl)).trans (dep_of (Fact := F_k20 W.heap.size k ak nk ck l al nl cl s FK FF) hd 20 (by kernel_rfl))
                refine wpList_on rfl (t := 174) (by kernel_rfl) eg ?_
                have e := (hF 0).trans (look_out _ 0 _ _ (by kernel_rfl))
                exact one_move _ rfl (by first | exact Or.inl rfl | exact Or.inr rfl) ⟨_, rfl, Below.refl _ _, e⟩
              · intro vs w' F hb hd hF hl hT
                have eg := ((hF 174).trans (look_at _ 174 20 _ _ (by kernel_rfl) (by kernel_rfl) hl)).trans (dep_of (Fact := F_k20 W.heap.size k ak nk ck l al nl cl s FK FF) hd 20 (by kernel_rfl))
                refine wpList_on rfl (t := 174) (by kernel_rfl) eg ?_
                have e := (hF 5).trans (look_out _ 5 _ _ (by kernel_rfl))
                exact one_load_row 25 _ rfl rfl W.heap.size #[.string k.name, .slice ak nk ck] 25 (0, 0) e (heap_below HK20.out hb) _ Tryd.underlying25 rfl (by kernel_rfl) ⟨_, rfl, Below.refl _ _, rfl⟩
              · intro vs w' F hb hd hF hl hT
                have eg := ((hF 174).trans (look_at _ 174 20 _ _ (by kernel_rfl) (by kernel_rfl) hl)).trans (dep_of (Fact := F_k20 W.heap.size k ak nk ck l al nl cl s FK FF) hd 20 (by kernel_rfl))
                refine wpList_on rfl (t := 174) (by kernel_rfl) eg ?_
                have e := (((hF 182).trans (look_at _ 182 28 _ _ (by kernel_rfl) (by kernel_rfl) hl)).trans (dep_of (Fact := F_k20 W.heap.size k ak nk ck l al nl cl s FK FF) hd 28 (by kernel_rfl)))
                refine one_slice2c 22 25 _ rfl rfl (.string k.name) (.slice ak nk ck) (.string ByteArray.empty) (.slice none 0 0) e Tryd.underlying22 inf_kind4 ?_
                refine ⟨_, rfl, (Below.refl _ _).alloc (Nat.le_refl _) _, _, rfl, ?_, ?_⟩
                · rw [cell_of_row _ _ 0 _ _ _ (heap_alloc_new w' _)]; rfl
                · rw [cell_of_row _ _ 1 _ _ _ (heap_alloc_new w' _)]; rfl
              · intro vs w' F hb hd hF hl hT
                have eg := ((hF 174).trans (look_at _ 174 20 _ _ (by kernel_rfl) (by kernel_rfl) hl)).trans (dep_of (Fact := F_k20 W.heap.size k ak nk ck l al nl cl s FK FF) hd 20 (by kernel_rfl))
                refine wpList_on rfl (t := 174) (by kernel_rfl) eg ?_
                have e := (hF 0).trans (look_out _ 0 _ _ (by kernel_rfl))
                exact one_move _ rfl (by first | exact Or.inl rfl | exact Or.inr rfl) ⟨_, rfl, Below.refl _ _, e⟩
              · intro vs w' F hb hd hF hl hT
                have eg := ((hF 174).trans (look_at _ 174 20 _ _ (by kernel_rfl) (by kernel_rfl) hl)).trans (dep_of (Fact := F_k20 W.heap.size k ak nk ck l al nl cl s FK FF) hd 20 (by kernel_rfl))
                refine wpList_on rfl (t := 174) (by kernel_rfl) eg ?_
                obtain ⟨X, hX, h0, h1⟩ := (dep_of (Fact := F_k20 W.heap.size k ak nk ck l al nl cl s FK FF) hd 29 (by kernel_rfl))
                have e1 := ((hF 183).trans (look_at _ 183 29 _ _ (by kernel_rfl) (by kernel_rfl) hl)).trans hX
                have e2 := (((hF 184).trans (look_at _ 184 30 _ _ (by kernel_rfl) (by kernel_rfl) hl)).trans (dep_of (Fact := F_k20 W.heap.size k ak nk ck l al nl cl s FK FF) hd 30 (by kernel_rfl)))
                obtain ⟨zs, hz1, hz2, _⟩ := kinds_cells (B5.out w' hb)
                refine one_append1 _ _ 22 25 rfl rfl (.agg #[.string ByteArray.empty, .slice none 0 0]) 2 40 Tryd.underlying22 inf_kind3 rfl (by decide) X [.string k.name, .slice ak nk ck] e1 rfl ?_ al nl cl zs e2 (by rw [hz1, HNL.out]) hz2 (by unfold maxLen; omega) (by omega) ?_
                · intro j u hj
                  match j, hj with
                  | 0, hj => simp at hj; subst hj; exact h0
                  | 1, hj => simp at hj; subst hj; exact h1
                · intro v2 w2 hv hg
                  exact ⟨_, rfl, (Below.refl _ _).grown hg (Nat.le_refl _) (fun g h => by cases h), hv⟩
              · intro vs w' F hb hd hF hl hT
                have eg := ((hF 174).trans (look_at _ 174 20 _ _ (by kernel_rfl) (by kernel_rfl) hl)).trans (dep_of (Fact := F_k20 W.heap.size k ak nk ck l al nl cl s FK FF) hd 20 (by kernel_rfl))
                refine wpList_on rfl (t := 174) (by kernel_rfl) eg ?_
                have e1 := (((hF 181).trans (look_at _ 181 27 _ _ (by kernel_rfl) (by kernel_rfl) hl)).trans (dep_of (Fact := F_k20 W.heap.size k ak nk ck l al nl cl s FK FF) hd 27 (by kernel_rfl)))
                obtain ⟨a, c, hv⟩ := (dep_of (Fact := F_k20 W.heap.size k ak nk ck l al nl cl s FK FF) hd 31 (by kernel_rfl))
                have e2 := ((hF 185).trans (look_at _ 185 31 _ _ (by kernel_rfl) (by kernel_rfl) hl)).trans hv
                refine one_call _ _ rfl rfl (enters_of Tryd.func24 (by kernel_rfl) rfl) #[.slice al nl cl, .slice a (1 + nl) c, .func (.func 26) #[] #[]] (eval3 e1 e2 rfl) ?_
                refine (eqf_kinds_ne al a nl (1 + nl) cl c (by omega) (by omega) (by omega) w').mono ?_
                rintro e2 w2 ⟨rfl, hb2⟩
                exact ⟨_, rfl, _, rfl, hb2, rfl⟩
              · intro vs w' F hb hd hF hl hT
                have eg := ((hF 174).trans (look_at _ 174 20 _ _ (by kernel_rfl) (by kernel_rfl) hl)).trans (dep_of (Fact := F_k20 W.heap.size k ak nk ck l al nl cl s FK FF) hd 20 (by kernel_rfl))
                refine wpList_on rfl (t := 174) (by kernel_rfl) eg ?_
                have e1 := ((hF 180).trans (look_at _ 180 26 _ _ (by kernel_rfl) (by kernel_rfl) hl)).trans (dep_of (Fact := F_k20 W.heap.size k ak nk ck l al nl cl s FK FF) hd 26 (by kernel_rfl))
                have e2 := ((hF 186).trans (look_at _ 186 32 _ _ (by kernel_rfl) (by kernel_rfl) hl)).trans (dep_of (Fact := F_k20 W.heap.size k ak nk ck l al nl cl s FK FF) hd 32 (by kernel_rfl))
                exact one_bool_eq _ _ _ _ rfl rfl (by kernel_rfl) _ _ true e1 e2 (beq_self_eq_true _) ⟨_, rfl, Below.refl _ _, rfl⟩
              · intro vs w' F hb hd hF hl hT
                have ec := ((hF 174).trans (look_at _ 174 20 _ _ (by kernel_rfl) (by kernel_rfl) hl)).trans (dep_of (Fact := F_k20 W.heap.size k ak nk ck l al nl cl s FK FF) hd 20 (by kernel_rfl))
                have e := ((hF 187).trans (look_at _ 187 33 _ _ (by kernel_rfl) (by kernel_rfl) hl)).trans (dep_of (Fact := F_k20 W.heap.size k ak nk ck l al nl cl s FK FF) hd 33 (by kernel_rfl))
                exact one_pick_t _ _ _ rfl rfl _ ec e ⟨_, rfl, Below.refl _ _, rfl⟩
              · intro vs w' F hb hd hF hl hT
                have e := ((hF 188).trans (look_at _ 188 34 _ _ (by kernel_rfl) (by kernel_rfl) hl)).trans (dep_of (Fact := F_k20 W.heap.size k ak nk ck l al nl cl s FK FF) hd 34 (by kernel_rfl))
                exact one_move _ rfl (by first | exact Or.inl rfl | exact Or.inr rfl) ⟨_, rfl, Below.refl _ _, e⟩
              · intro vs w' F hb hd hF hl hT
                have eg := ((hF 189).trans (look_at _ 189 35 _ _ (by kernel_rfl) (by kernel_rfl) hl)).trans (dep_of (Fact := F_k20 W.heap.size k ak nk ck l al nl cl s FK FF) hd 35 (by kernel_rfl))
                refine wpList_on rfl (t := 189) (by kernel_rfl) eg ?_
                have e := (hF 0).trans (look_out _ 0 _ _ (by kernel_rfl))
                exact one_move _ rfl (by first | exact Or.inl rfl | exact Or.inr rfl) ⟨_, rfl, Below.refl _ _, e⟩
              · intro vs w' F hb hd hF hl hT
                have eg := ((hF 189).trans (look_at _ 189 35 _ _ (by kernel_rfl) (by kernel_rfl) hl)).trans (dep_of (Fact := F_k20 W.heap.size k ak nk ck l al nl cl s FK FF) hd 35 (by kernel_rfl))
                refine wpList_on rfl (t := 189) (by kernel_rfl) eg ?_
                have e := (hF 0).trans (look_out _ 0 _ _ (by kernel_rfl))
                exact one_move _ rfl (by first | exact Or.inl rfl | exact Or.inr rfl) ⟨_, rfl, Below.refl _ _, e⟩
              · intro vs w' F hb hd hF hl hT
                have eg := ((hF 189).trans (look_at _ 189 35 _ _ (by kernel_rfl) (by kernel_rfl) hl)).trans (dep_of (Fact := F_k20 W.heap.size k ak nk ck l al nl cl s FK FF) hd 35 (by kernel_rfl))
                refine wpList_on rfl (t := 189) (by kernel_rfl) eg ?_
                refine one_call _ _ rfl rfl (enters_of Tryd.func27 (by kernel_rfl) rfl) #[.slice al nl cl, .slice al nl cl] (eval2 (((hF 190).trans (look_at _ 190 36 _ _ (by kernel_rfl) (by kernel_rfl) hl)).trans (dep_of (Fact := F_k20 W.heap.size k ak nk ck l al nl cl s FK FF) hd 36 (by kernel_rfl))) (((hF 191).trans (look_at _ 191 37 _ _ (by kernel_rfl) (by kernel_rfl) hl)).trans (dep_of (Fact := F_k20 W.heap.size k ak nk ck l al nl cl s FK FF) hd 37 (by kernel_rfl)))) ?_
                refine (C7.out w' hb).mono ?_
                rintro e2 w2 ⟨rfl, hb2⟩
                exact ⟨_, rfl, _, rfl, hb2, rfl⟩
              · intro vs w' F hb hd hF hl hT
                have ec := ((hF 189).trans (look_at _ 189 35 _ _ (by kernel_rfl) (by kernel_rfl) hl)).trans (dep_of (Fact := F_k20 W.heap.size k ak nk ck l al nl cl s FK FF) hd 35 (by kernel_rfl))
                have e := ((hF 192).trans (look_at _ 192 38 _ _ (by kernel_rfl) (by kernel_rfl) hl)).trans (dep_of (Fact := F_k20 W.heap.size k ak nk ck l al nl cl s FK FF) hd 38 (by kernel_rfl))
                exact one_pick_t _ _ _ rfl rfl _ ec e ⟨_, rfl, Below.refl _ _, rfl⟩
              · intro vs w' F hb hd hF hl hT
                have e := ((hF 193).trans (look_at _ 193 39 _ _ (by kernel_rfl) (by kernel_rfl) hl)).trans (dep_of (Fact := F_k20 W.heap.size k ak nk ck l al nl cl s FK FF) hd 39 (by kernel_rfl))
                exact one_move _ rfl (by first | exact Or.inl rfl | exact Or.inr rfl) ⟨_, rfl, Below.refl _ _, e⟩
            · intro vs wF hl hb hI
              have i40 : vs.getD 40 undef = .bool true := hI 40 (by omega)
              obtain ⟨q0, q1, q2, q3, q4, q5, q6, q7, q8, q9, q10, q11, q12, q13, q14, q15, q16, q17, q18, q19, q20, q21, q22, q23, q24, q25, q26, q27, q28, q29, q30, q31, q32, q33, q34, q35, q36, q37, q38, q39, q40, rfl⟩ := list41 hl
              replace i40 : q40 = .bool true := i40
              subst i40
              have HB14 := Lib.hid ((HB13.out.trans (hb.mono HB13.out.size)))
              clear hI hl hb C2 C3 C4 C5 C6 C7 B5
              simp only [fillAll, Act.put, List.setIfInBounds_toArray, List.set_cons_succ, List.set_cons_zero]
              show wpList _ _ _ [] _ _
              go_wp2_with fail
              go_ret
              exact ⟨rfl, HB0.out.trans (HB14.out.mono HB0.out.size)⟩
end Go.Proofs.YtenfegdhbbdinaaDoor
