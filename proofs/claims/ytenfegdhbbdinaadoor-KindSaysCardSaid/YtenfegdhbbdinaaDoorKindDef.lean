/- kind.Default. -/
import Derived.Test.YtenfegdhbbdinaaDoorKindFit
import Derived.Test.YtenfegdhbbdinaaDoorRegTail
namespace Go.Proofs.YtenfegdhbbdinaaDoor
open Go.ChangeShapes Go.WideShapes Go.ChangeAt Go.RowKit Go.Nm Go.Mem
set_option linter.unusedVariables false
section
variable {P : Program} {ops : Array Oper} {o : Oper} {F : Act} {w : World} {Q : Exit → Act → World → Prop}
theorem one_extract (x : Operand) (k : Nat) (hgd : o.guard = none) (ho : o.op = .extract x k) (u r : Value) (hx : F.eval x = u)
    (hi : ∀ w : World, (Instr.extract u k).run P w = .ok r w) (h : Q .normal (F.put o.dst r) w) : wpList P ops Q [o] F w := by
  refine wpList_plain hgd fun K hK => ?_
  unfold Oper.wp execOp
  simp [ho, hx, hi, Oper.upon]
  exact hK _ _ h
theorem one_len (x : Operand) (t e : TypeId) (hgd : o.guard = none) (ho : o.op = .call { callee := .builtin .len, args := #[x], argTypes := #[t] }) (hu : P.underlying t = some (.slice e)) (a : Option Addr) (n c : Nat) (hx : F.eval x = .slice a n c)
    (h : Q .normal (F.put o.dst (.int .i64 n)) w) : wpList P ops Q [o] F w := by
  refine wpList_plain hgd fun K hK => ?_
  unfold Oper.wp execOp
  simp [ho, hx, resolve, invoke, builtin, Builtin.len_, run_underlying hu, Oper.upon]
  exact hK _ _ h
end
theorem list11 {α : Type} {vs : List α} (h : vs.length = 11) : ∃ a b c d e f g i j k l, vs = [a, b, c, d, e, f, g, i, j, k, l] := by
  match vs, h with
  | [a, b, c, d, e, f, g, i, j, k, l], _ => exact ⟨a, b, c, d, e, f, g, i, j, k, l, rfl⟩
/-- a fitted list as a value -/
def FitS (k : KindV) (vals : List Int) (v : Value) (w : World) : Prop := (fitE k vals ≠ 0 → v = .slice none 0 0) ∧ (fitE k vals = 0 → ∃ a c, v = .slice a vals.length c ∧ IntsAt .i64 w a (fitL k.fields vals))
def FitT (k : KindV) (vals : List Int) (v : Value) (w : World) : Prop := ∃ u, v = .tuple #[u, .int .i64 (fitE k vals)] ∧ FitS k vals u w
theorem FitS.below {k : KindV} {vals : List Int} {v : Value} {w w' : World} (h : FitS k vals v w) (hb : Below w.heap.size w w') : FitS k vals v w' :=
  ⟨h.1, fun h0 => by obtain ⟨a, c, e, hi⟩ := h.2 h0; exact ⟨a, c, e, hi.below hb⟩⟩
theorem FitT.below {k : KindV} {vals : List Int} {v : Value} {w w' : World} (h : FitT k vals v w) (hb : Below w.heap.size w w') : FitT k vals v w' := by
  obtain ⟨u, e, hs⟩ := h; exact ⟨u, e, hs.below hb⟩
theorem FitPost.tuple {k : KindV} {vals : List Int} {W w' : World} {e : Ending} (h : FitPost k vals W e w') : ∃ v, e = .returned v ∧ FitT k vals v w' := by
  obtain ⟨h1, h2, _⟩ := h
  by_cases h0 : fitE k vals = 0
  · obtain ⟨a, c, rfl, hi⟩ := h2 h0
    exact ⟨_, rfl, _, by rw [h0], fun h => absurd h0 h, fun _ => ⟨a, c, rfl, hi⟩⟩
  · exact ⟨_, h1 h0, _, rfl, fun _ => rfl, fun h => absurd h h0⟩
def F_kd (k : KindV) (nm : ByteArray) (a : Option Addr) (B0 n cap : Nat) (j : Nat) (v : Value) (w : World) : Prop :=
  match j with
  | 0 => v = .agg #[.string nm, .slice a n cap]
  | 1 => v = .pointer (some ⟨B0, 1, none⟩)
  | 2 => v = .slice a n cap
  | 3 => v = .int .i64 n
  | 4 => ∃ A, v = .slice (some ⟨A, 0, none⟩) n n ∧ IntsAt .i64 w (some ⟨A, 0, none⟩) (List.replicate n 0)
  | 5 => FitT k (List.replicate n 0) v w
  | 6 => FitT k (List.replicate n 0) v w
  | 7 => FitS k (List.replicate n 0) v w
  | 8 => v = .int .i64 (fitE k (List.replicate n 0))
  | 9 => FitS k (List.replicate n 0) v w
  | 10 => v = .int .i64 (fitE k (List.replicate n 0))
  | _ => True
theorem F_kd_mono (k : KindV) (nm : ByteArray) (a : Option Addr) (B0 n cap : Nat) : Facts (F_kd k nm a B0 n cap) := ⟨by
  intro j v w w' h hb
  unfold F_kd at h ⊢
  split at h
  all_goals first
    | exact h
    | exact FitS.below h hb
    | exact FitT.below h hb
    | (obtain ⟨A, e, hi⟩ := h; exact ⟨A, e, hi.below hb⟩)
    | trivial⟩

set_option maxHeartbeats 8000000 in
theorem kind_Default (k : KindV) (a : Option Addr) (n cap : Nat) (hn : k.fields.length = n) (hn2 : n ≤ 17592186044000) (hnm : k.name.size ≤ 9223372036854775807) (hnc : n ≤ cap) (hcm : cap ≤ 9223372036854775807) (W : World) (hz : SlAt 3 FieldAt W a k.fields) :
    Calls Tryd.prog 17 #[.agg #[.string k.name, .slice a n cap]] W fun e w' => (∃ v, e = .returned v ∧ FitS k (List.replicate n 0) v w') ∧ Below W.heap.size W w' := by
  have hb0 := (Below.refl W.heap.size W).alloc (Nat.le_refl _) (.cells #[.string k.name, .slice a n cap] 25)
  have HC := Lib.hid (fun (w : World) (hz : SlAt 3 FieldAt w a k.fields) (A : Nat) (hi : IntsAt .i64 w (some ⟨A, 0, none⟩) (List.replicate n 0)) => kind_Fit k a n cap (List.replicate n 0) (some ⟨A, 0, none⟩) n n hn (List.length_replicate ..) (by omega) hnm hnc hcm w hz hi)
  have B0 := heap_alloc_new W (.cells #[.string k.name, .slice a n cap] 25)
  have HZ := Lib.hid (hz.below FieldAt.abides hb0)
  have HB0 := Lib.hid hb0
  obtain ⟨nm, hnme⟩ : ∃ nm, nm = k.name := ⟨_, rfl⟩
  rw [← hnme] at HC HB0 HZ B0 ⊢
  clear hnme hnm hz hb0 hn
  go_enter Tryd.func17, Tryd.ntmps17
  go_wp2_with fail
  obtain ⟨w1, hw1⟩ : ∃ w1, w1 = W.alloc (.cells #[.string nm, .slice a n cap] 25) := ⟨_, rfl⟩
  have B1 : w1.cell? ⟨W.heap.size, 1, none⟩ = some (.slice a n cap) := by rw [hw1, cell_of_row _ _ 1 _ _ _ B0]; rfl
  rw [← hw1] at HB0 HZ B0 ⊢
  clear hw1
  refine wp_region_facts_t rfl 11 (by kernel_rfl) (F_kd k nm a W.heap.size n cap) (F_kd_mono k nm a W.heap.size n cap) ?_ ?_
  · refine ⟨?_, ?_, ?_, ?_, ?_, ?_, ?_, ?_, ?_, ?_, ?_, trivial⟩
    · intro vs w' F hb hd hF hl hT
      have e := (hF 1).trans (look_out _ 1 _ _ (by kernel_rfl))
      exact one_load_row 25 _ rfl rfl W.heap.size #[.string nm, .slice a n cap] 25 (0, 0) e (heap_below B0 hb) _ Tryd.underlying25 rfl (by kernel_rfl) ⟨_, rfl, Below.refl _ _, rfl⟩
    · intro vs w' F hb hd hF hl hT
      have e := (hF 1).trans (look_out _ 1 _ _ (by kernel_rfl))
      exact one_field _ _ _ rfl rfl _ _ e _ (fun w => by kernel_rfl) ⟨_, rfl, Below.refl _ _, rfl⟩
    · intro vs w' F hb hd hF hl hT
      have e := ((hF 7).trans (look_at _ 7 1 _ _ (by kernel_rfl) (by kernel_rfl) hl)).trans (dep_of (Fact := F_kd k nm a W.heap.size n cap) hd 1 (by kernel_rfl))
      exact one_load _ _ rfl rfl _ _ e (cell_abides B1 hb) (by kernel_rfl) ⟨_, rfl, Below.refl _ _, rfl⟩
    · intro vs w' F hb hd hF hl hT
      have e := (((hF 8).trans (look_at _ 8 2 _ _ (by kernel_rfl) (by kernel_rfl) hl)).trans (dep_of (Fact := F_kd k nm a W.heap.size n cap) hd 2 (by kernel_rfl)))
      exact one_len _ 23 _ rfl rfl Tryd.underlying23 _ _ _ e ⟨_, rfl, Below.refl _ _, rfl⟩
    · intro vs w' F hb hd hF hl hT
      have e := ((hF 9).trans (look_at _ 9 3 _ _ (by kernel_rfl) (by kernel_rfl) hl)).trans (dep_of (Fact := F_kd k nm a W.heap.size n cap) hd 3 (by kernel_rfl))
      refine wpList_make_rowB rfl _ _ 26 rfl 3 .i64 8 Tryd.underlying26 (by kernel_rfl) _ _ _ _ n e e rfl rfl ?_ ?_ ?_
      · omega
      · unfold maxLen; omega
      intro w2 hrow hb2 hs2
      exact ⟨_, rfl, hb2, _, rfl, hrow.ints⟩
    · intro vs w' F hb hd hF hl hT
      have e1 := ((hF 6).trans (look_at _ 6 0 _ _ (by kernel_rfl) (by kernel_rfl) hl)).trans (dep_of (Fact := F_kd k nm a W.heap.size n cap) hd 0 (by kernel_rfl))
      obtain ⟨A, hA, hi⟩ := (dep_of (Fact := F_kd k nm a W.heap.size n cap) hd 4 (by kernel_rfl))
      have e2 := ((hF 10).trans (look_at _ 10 4 _ _ (by kernel_rfl) (by kernel_rfl) hl)).trans hA
      refine one_call _ _ rfl rfl (enters_of Tryd.func5 (by kernel_rfl) rfl) #[.agg #[.string nm, .slice a n cap], .slice (some ⟨A, 0, none⟩) n n] (eval2 e1 e2) ?_
      refine (HC.out w' (HZ.out.below FieldAt.abides hb) A hi).mono ?_
      intro e3 w2 hp
      have hb2 := hp.2.2
      obtain ⟨v, rfl, ht⟩ := FitPost.tuple hp
      exact ⟨_, rfl, _, rfl, hb2, ht⟩
    · intro vs w' F hb hd hF hl hT
      have e := ((hF 11).trans (look_at _ 11 5 _ _ (by kernel_rfl) (by kernel_rfl) hl))
      have d := (dep_of (Fact := F_kd k nm a W.heap.size n cap) hd 5 (by kernel_rfl))
      rw [← e] at d
      exact one_move _ rfl (by first | exact Or.inl rfl | exact Or.inr rfl) ⟨_, rfl, Below.refl _ _, d⟩
    · intro vs w' F hb hd hF hl hT
      have e := ((hF 5).trans (look_at _ 5 6 _ _ (by kernel_rfl) (by kernel_rfl) hl))
      obtain ⟨u, hu, hs⟩ := (dep_of (Fact := F_kd k nm a W.heap.size n cap) hd 6 (by kernel_rfl))
      exact one_extract _ _ rfl rfl _ u (e.trans hu) (fun w => rfl) ⟨_, rfl, Below.refl _ _, hs⟩
    · intro vs w' F hb hd hF hl hT
      have e := ((hF 5).trans (look_at _ 5 6 _ _ (by kernel_rfl) (by kernel_rfl) hl))
      obtain ⟨u, hu, hs⟩ := (dep_of (Fact := F_kd k nm a W.heap.size n cap) hd 6 (by kernel_rfl))
      exact one_extract _ _ rfl rfl _ (.int .i64 (fitE k (List.replicate n 0))) (e.trans hu) (fun w => rfl) ⟨_, rfl, Below.refl _ _, rfl⟩
    · intro vs w' F hb hd hF hl hT
      have e := ((hF 12).trans (look_at _ 12 7 _ _ (by kernel_rfl) (by kernel_rfl) hl))
      have d := (dep_of (Fact := F_kd k nm a W.heap.size n cap) hd 7 (by kernel_rfl))
      rw [← e] at d
      exact one_move _ rfl (by first | exact Or.inl rfl | exact Or.inr rfl) ⟨_, rfl, Below.refl _ _, d⟩
    · intro vs w' F hb hd hF hl hT
      have e := ((hF 13).trans (look_at _ 13 8 _ _ (by kernel_rfl) (by kernel_rfl) hl)).trans (dep_of (Fact := F_kd k nm a W.heap.size n cap) hd 8 (by kernel_rfl))
      exact one_move _ rfl (by first | exact Or.inl rfl | exact Or.inr rfl) ⟨_, rfl, Below.refl _ _, e⟩
  · intro vs W1 hl hb hI
    have i9 : FitS k (List.replicate n 0) (vs.getD 9 undef) W1 := hI 9 (by omega)
    obtain ⟨v0, v1, v2, v3, v4, v5, v6, v7, v8, v9, v10, rfl⟩ := list11 hl
    replace i9 : FitS k (List.replicate n 0) v9 W1 := i9
    have HS := Lib.hid i9
    have HBN := Lib.hid (HB0.out.trans (hb.mono HB0.out.size))
    clear hI hl hb i9 B0 B1
    simp only [fillAll, Act.put, List.setIfInBounds_toArray, List.set_cons_succ, List.set_cons_zero]
    show wpList _ _ _ [] _ _
    go_wp2
    go_ret
    exact ⟨⟨_, rfl, HS.out⟩, HBN.out⟩
end Go.Proofs.YtenfegdhbbdinaaDoor
