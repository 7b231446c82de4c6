/- Lemmas for the law TopBorderText: WName, WIntsP, WInts. No conditions. -/
import Derived.Test.YtfckbkhnelgjbaaM18
import Derived.Test.YtfckbkhnelgjbaaM03
import Derived.Test.YtfckbkhnelgjbaaM05
import Derived.Deep.LoopGhost
import Derived.Lib.ConvBytes
import Derived.Lib.SmallJoins
import Derived.Test.YtfckbkhnelgjbaaM06
import Derived.Test.YtfckbkhnelgjbaaM17
/- The closures of world.Ints and of the reference's Described: a name, as numbers. -/
section
namespace Go.Proofs.Ytfckbkhnelgjbaa
open Go.ChangeShapes Go.WideShapes Go.ChangeAt Go.RowKit Go.Mem
set_option linter.unusedVariables false
def byteI (s : ByteArray) (i : Nat) : Int := ((s.data.toList.getD i 0).toNat : Int)
def bytesI (s : ByteArray) (k : Nat) : List Int := (List.range k).map (byteI s)
theorem bytesI_succ (s : ByteArray) (k : Nat) : bytesI s (k + 1) = bytesI s k ++ [byteI s k] := by unfold bytesI; rw [List.range_succ, List.map_append]; rfl
theorem bytesI_len (s : ByteArray) (k : Nat) : (bytesI s k).length = k := by unfold bytesI; simp
def nameI (s : ByteArray) : List Int := (s.size : Int) :: bytesI s s.size
theorem nameI_len (s : ByteArray) : (nameI s).length = s.size + 1 := by unfold nameI; rw [List.length_cons, bytesI_len]
theorem byteI_at (s : ByteArray) (i : Nat) (h : i < s.size) : byteI s i = (s[i].toNat : Int) := by
  unfold byteI
  have : s.data.toList.getD i 0 = s[i] := by rw [List.getD_eq_getElem?_getD, List.getElem?_eq_getElem h]; rfl
  rw [this]
theorem idx_str (s : ByteArray) (i : Nat) (h : i < s.size) (h9 : s.size ≤ 9223372036854775807) (w : World) : (Instr.index 9 (.string s) (.int .i64 (i : Int))).run Try.prog w = .ok (.int .u8 (byteI s i)) w := by
  rw [byteI_at s i h]
  have i1 : (0 : Int) ≤ (i : Int) := by omega
  have i2 : (i : Int) < (s.size : Int) := by omega
  go_simp
theorem conv_byte (s : ByteArray) (i : Nat) (w : World) : (Go.convert 5 3 (.int .u8 (byteI s i))).run Try.prog w = .ok (.int .i64 (byteI s i)) w := by
  have h1 : 0 ≤ byteI s i := by unfold byteI; omega
  have h2 : byteI s i < 256 := by unfold byteI; have := (s.data.toList.getD i 0).toNat_lt; omega
  have h3 : IntKind.i64.wrap (byteI s i) = byteI s i := by rw [IntKind.wrap_i64]; omega
  go_simp
theorem list8 {α : Type} {vs : List α} (h : vs.length = 8) : ∃ x0 x1 x2 x3 x4 x5 x6 x7, vs = [x0, x1, x2, x3, x4, x5, x6, x7] := by
  obtain ⟨x0, t0, rfl, h0⟩ := cons_of h
  obtain ⟨x1, t1, rfl, h1⟩ := cons_of h0
  obtain ⟨x2, t2, rfl, h2⟩ := cons_of h1
  obtain ⟨x3, t3, rfl, h3⟩ := cons_of h2
  obtain ⟨x4, t4, rfl, h4⟩ := cons_of h3
  obtain ⟨x5, t5, rfl, h5⟩ := cons_of h4
  obtain ⟨x6, t6, rfl, h6⟩ := cons_of h5
  obtain ⟨x7, t7, rfl, h7⟩ := cons_of h6
  exact ⟨x0, x1, x2, x3, x4, x5, x6, x7, by rw [List.eq_nil_of_length_eq_zero h7]⟩
def F_nm (X i : Nat) (s : ByteArray) (u : Value) (jq : Nat) (v : Value) (w : World) : Prop :=
  match jq with
  | 0 => v = u
  | 1 => v = .string s
  | 2 => v = .int .i64 i
  | 3 => v = .int .u8 (byteI s i)
  | 4 => v = .int .i64 (byteI s i)
  | 5 => ∃ b, v = .slice (some ⟨b, 0, none⟩) 1 1 ∧ IntsAt .i64 w (some ⟨b, 0, none⟩) [byteI s i]
  | _ => True
theorem F_nm_mono (X i : Nat) (s : ByteArray) (u : Value) : Facts (F_nm X i s u) := ⟨by
  intro jq v w w' h hb
  unfold F_nm at h ⊢
  split at h
  all_goals first
    | exact h
    | (obtain ⟨b, e, h1⟩ := h; exact ⟨b, e, h1.below hb⟩)
    | trivial⟩

set_option maxHeartbeats 8000000 in
theorem ints_name (s : ByteArray) (hs : s.size ≤ 1048576) (B X : Nat) (v : Value) (L : List Int) (w : World) (h : OutV w B X v L) (hL : L.length ≤ 10000000) : Calls Try.prog 95 #[.string s, .pointer (some ⟨X, 0, none⟩)] w fun e w' => e = .returned (.tuple #[]) ∧ (∃ v2, OutV w' B X v2 (L ++ nameI s)) ∧ FrX B X w w' := by
  have HX := h.ble
  have H := Lib.hid h
  have c0 := h.cell
  have hnl := hs
  clear h hs
  go_enter Try.func95, Try.ntmps95
  go_wp2_with (at_builtin; go_must (refine wpList_out rfl _ _ rfl rfl _ _ rfl B X v L rfl (H.out.below ((Below.refl _ _).alloc (Nat.le_refl _) _)) (some ⟨w.heap.size, 0, none⟩) 1 1 [(s.size : Int)] rfl rfl (new_ints1 w s.size) (by omega) (fun u => rfl) (fun u => rfl) ?_); intro v2 w2 hout hfr; have HOUT := Lib.hid hout; have HFR := Lib.hid hfr; clear hout hfr)
  have hf0 := (FrX.of_below HX ((Below.refl w.heap.size w).alloc (Nat.le_refl _) (.cells #[.int .i64 (s.size : Int)] 3))).trans HFR.out
  have HF0 := Lib.hid hf0
  clear HFR hf0 c0
  go_loopg [11, 3] s.size (fun gk v11 _ wx => ∃ (i : Nat) (u : Value), i ≤ s.size ∧ gk = s.size - i ∧ v11 = .int .i64 i ∧ OutV wx B X u (L ++ [(s.size : Int)] ++ bytesI s i) ∧ FrX B X w wx)
  case atStart => exact ⟨0, v2, Nat.zero_le _, rfl, rfl, by rw [show bytesI s 0 = [] from rfl, List.append_nil]; exact HOUT.out, HF0.out⟩
  case round =>
    clear HOUT HF0
    obtain ⟨i, u, i1, i2, rfl, hout, hfr⟩ := hrel
    have I2 := Lib.hid i2
    have HOUT := Lib.hid hout
    have HFR := Lib.hid hfr
    have hxr := hout.ble
    clear i2 hfr
    by_cases hi : i < s.size
    · have C0 := Lib.hid hout.cell
      have HLL : (L ++ [(s.size : Int)] ++ bytesI s i).length = L.length + 1 + i := by rw [List.length_append, bytesI_len, List.length_append, List.length_singleton]
      obtain ⟨LL, hLL⟩ : ∃ LL, LL = L ++ [(s.size : Int)] ++ bytesI s i := ⟨_, rfl⟩
      have hbs := bytesI_succ s i
      rw [← hLL] at HOUT HLL
      have hnx : L ++ [(s.size : Int)] ++ bytesI s (i + 1) = LL ++ [byteI s i] := by rw [hbs, hLL, List.append_assoc, List.append_assoc, List.append_assoc]
      have HNX := Lib.hid hnx
      clear hout hLL hbs hnx
      go_wp2_with fail
      refine wp_region_facts_t rfl 6 (by kernel_rfl) (F_nm X i s u) (F_nm_mono X i s u) ?_ ?_
      · refine ⟨?_, ?_, ?_, ?_, ?_, ?_, trivial⟩
        · intro vs w' F hb hd hF hl hT
          have e := (hF 1).trans (look_out _ 1 _ _ (by kernel_rfl))
          exact one_load _ _ rfl rfl _ _ e (cell_abides C0.out hb) (by kernel_rfl) ⟨_, rfl, Below.refl _ _, rfl⟩
        · intro vs w' F hb hd hF hl hT
          have e := (hF 0).trans (look_out _ 0 _ _ (by kernel_rfl))
          exact one_move _ rfl (by first | exact Or.inl rfl | exact Or.inr rfl) ⟨_, rfl, Below.refl _ _, e⟩
        · intro vs w' F hb hd hF hl hT
          have e := (hF 3).trans (look_out _ 3 _ _ (by kernel_rfl))
          exact one_move _ rfl (by first | exact Or.inl rfl | exact Or.inr rfl) ⟨_, rfl, Below.refl _ _, e⟩
        · intro vs w' F hb hd hF hl hT
          have ex := (((hF 15).trans (look_at _ 15 1 _ _ (by kernel_rfl) (by kernel_rfl) hl)).trans (dep_of (Fact := F_nm X i s u) hd 1 (by kernel_rfl)))
          have ey := (((hF 16).trans (look_at _ 16 2 _ _ (by kernel_rfl) (by kernel_rfl) hl)).trans (dep_of (Fact := F_nm X i s u) hd 2 (by kernel_rfl)))
          exact rg_index 9 _ _ rfl rfl (.string s) (.int .i64 (i : Int)) (.int .u8 (byteI s i)) ex ey (fun w => idx_str s i (by omega) (by omega) w) ⟨_, rfl, Below.refl _ _, rfl⟩
        · intro vs w' F hb hd hF hl hT
          have ex := (((hF 17).trans (look_at _ 17 3 _ _ (by kernel_rfl) (by kernel_rfl) hl)).trans (dep_of (Fact := F_nm X i s u) hd 3 (by kernel_rfl)))
          exact rg_convert 5 3 _ rfl rfl (.int .u8 (byteI s i)) (.int .i64 (byteI s i)) ex (fun w => conv_byte s i w) ⟨_, rfl, Below.refl _ _, rfl⟩
        · intro vs w' F hb hd hF hl hT
          have ex := (((hF 18).trans (look_at _ 18 4 _ _ (by kernel_rfl) (by kernel_rfl) hl)).trans (dep_of (Fact := F_nm X i s u) hd 4 (by kernel_rfl)))
          exact rg_slice1 34 3 _ rfl rfl (byteI s i) ex Try.underlying34 (by kernel_rfl) ⟨_, rfl, (Below.refl _ _).alloc (Nat.le_refl _) _, _, rfl, new_ints1 _ _⟩
      · intro vs8 W8 hl hb hI
        obtain ⟨b, hv5, hin⟩ := hI 5 (by omega)
        have hv0 : vs8.getD 0 undef = u := hI 0 (by omega)
        obtain ⟨x0, x1, x2, x3, x4, x5, x6, x7, hvs⟩ := list8 hl
        subst hvs
        replace hv5 : x5 = .slice (some ⟨b, 0, none⟩) 1 1 := hv5
        replace hv0 : x0 = u := hv0
        subst hv5 hv0
        have HO8 := Lib.hid (HOUT.out.below hb)
        have HF8 := Lib.hid (HFR.out.trans (FrX.of_below hxr hb))
        have HIN := Lib.hid hin
        clear hI hl hb hin C0 HFR HOUT
        simp only [fillAll, Act.put, List.setIfInBounds_toArray, List.set_cons_succ, List.set_cons_zero, List.drop_succ_cons, List.drop_zero]
        go_wp2_with (at_builtin; go_must (refine wpList_out rfl _ _ rfl rfl _ _ rfl B X _ LL rfl HO8.out (some ⟨b, 0, none⟩) 1 1 [byteI s i] rfl rfl HIN.out (by omega) (fun u => rfl) (fun u => rfl) ?_); intro v2 w2 hout hfr; have HOUT := Lib.hid hout; have HFR := Lib.hid hfr; clear hout hfr)
        go_roundg (s.size - (i + 1))
        case measure => rw [I2.out]; omega
        case rel => exact ⟨i + 1, _, hi, rfl, by go_num, by rw [HNX.out]; exact HOUT.out, HF8.out.trans HFR.out⟩
    · obtain rfl : i = s.size := by omega
      go_wp2
      go_end0
      exact ⟨rfl, ⟨u, by unfold nameI; have := HOUT.out; rw [List.append_assoc] at this; exact this⟩, HFR.out⟩
end Go.Proofs.Ytfckbkhnelgjbaa
end
/- Plain: a world as numbers. -/
section
namespace Go.Proofs.Ytfckbkhnelgjbaa
open Go.RowKit Go.Mem
set_option linter.unusedVariables false
def fldI (f : FieldV) : List Int := nameI f.name ++ [f.bits, f.low]
def kndI (k : KindV) : List Int := nameI k.name ++ ([(k.fields.length : Int)] ++ (k.fields.map fldI).flatten)
def compI (c : CompV) : List Int := [c.kind, (c.vals.length : Int)] ++ c.vals
def itemI (t : ItemV) : List Int := [t.n, t.gen, (t.comps.length : Int)] ++ (t.comps.map compI).flatten
def intsW (y : WorldV) : List Int := [(y.kinds.length : Int)] ++ ((y.kinds.map kndI).flatten ++ ([(y.gens.length : Int)] ++ (y.gens ++ ([(y.items.length : Int)] ++ (y.items.map itemI).flatten))))
theorem drop_flat {α : Type} (f : α → List Int) (l : List α) (i : Nat) (h : i < l.length) (R : List Int) : ((l.drop i).map f).flatten ++ R = f l[i] ++ (((l.drop (i + 1)).map f).flatten ++ R) := by
  rw [List.drop_eq_getElem_cons h, List.map_cons, List.flatten_cons, List.append_assoc]
theorem drop_end {α : Type} (f : α → List Int) (l : List α) (R : List Int) : ((l.drop l.length).map f).flatten ++ R = R := by rw [List.drop_length]; rfl
theorem step_eq {L zs R T : List Int} (h : L ++ (zs ++ R) = T) : (L ++ zs) ++ R = T := by rw [List.append_assoc]; exact h
theorem len_le {L R T : List Int} (h : L ++ R = T) : L.length ≤ T.length := by rw [← h, List.length_append]; omega
/-- a world whose numbers of values and letters are small -/
structure FineW (y : WorldV) : Prop where
  tot : (intsW y).length ≤ 4000000
  kl : y.kinds.length ≤ 1048576
  gl : y.gens.length ≤ 1048576
  il : y.items.length ≤ 1048576
  k : ∀ k ∈ y.kinds, k.name.size ≤ 1048576 ∧ k.fields.length ≤ 1048576 ∧ ∀ f ∈ k.fields, f.name.size ≤ 1048576
  i : ∀ t ∈ y.items, t.comps.length ≤ 1048576 ∧ ∀ c ∈ t.comps, c.vals.length ≤ 1048576
theorem sum_mem {α : Type} {f : α → Nat} {l : List α} {x : α} (h : x ∈ l) : f x ≤ (l.map f).sum := by
  induction l with
  | nil => cases h
  | cons a l ih =>
    rw [List.map_cons, List.sum_cons]
    rcases List.mem_cons.1 h with rfl | h
    · omega
    · have := ih h; omega
theorem len_sum {α : Type} {f : α → Nat} (h1 : ∀ x, 1 ≤ f x) (l : List α) : l.length ≤ (l.map f).sum := by
  induction l with
  | nil => exact Nat.le_refl _
  | cons a l ih => rw [List.map_cons, List.sum_cons, List.length_cons]; have := h1 a; omega
theorem flat_le {α : Type} {g : α → List Int} {f : α → Nat} (h : ∀ x, (g x).length ≤ 3 * f x) (l : List α) : (l.map g).flatten.length ≤ 3 * (l.map f).sum := by
  induction l with
  | nil => exact Nat.le_refl _
  | cons a l ih =>
    rw [List.map_cons, List.flatten_cons, List.length_append, List.map_cons, List.sum_cons]
    have := h a
    omega
theorem fldI_le (f : FieldV) : (fldI f).length ≤ 3 * costField f := by unfold fldI costField; rw [List.length_append, nameI_len]; simp; omega
theorem kndI_le (k : KindV) : (kndI k).length ≤ 3 * costKind k := by
  unfold kndI costKind
  rw [List.length_append, nameI_len, List.length_append]
  have := flat_le fldI_le k.fields
  simp only [List.length_singleton]
  omega
theorem compI_le (c : CompV) : (compI c).length ≤ 3 * costComp c := by unfold compI costComp; rw [List.length_append]; simp; omega
theorem itemI_le (t : ItemV) : (itemI t).length ≤ 3 * costItem t := by
  unfold itemI costItem
  rw [List.length_append]
  have := flat_le compI_le t.comps
  simp only [List.length_cons, List.length_nil]
  omega
theorem fine_of {y : WorldV} (h : costWorld y ≤ 1048576) : FineW y := by
  unfold costWorld at h
  have k1 := flat_le kndI_le y.kinds
  have i1 := flat_le itemI_le y.items
  have k2 := len_sum (f := costKind) (fun x => by unfold costKind; omega) y.kinds
  have i2 := len_sum (f := costItem) (fun x => by unfold costItem; omega) y.items
  refine ⟨?_, by omega, by omega, by omega, fun k hk => ?_, fun t ht => ?_⟩
  · unfold intsW
    simp only [List.length_append, List.length_singleton]
    omega
  · have h1 : k.name.size + (k.fields.map costField).sum + 1 ≤ (y.kinds.map costKind).sum := sum_mem (f := costKind) hk
    have h2 := len_sum (f := costField) (fun x => by unfold costField; omega) k.fields
    refine ⟨by omega, by omega, fun f hf => ?_⟩
    have h3 : f.name.size + 1 ≤ (k.fields.map costField).sum := sum_mem (f := costField) hf
    omega
  · have h1 : (t.comps.map costComp).sum + 1 ≤ (y.items.map costItem).sum := sum_mem (f := costItem) ht
    have h2 := len_sum (f := costComp) (fun x => by unfold costComp; omega) t.comps
    refine ⟨by omega, fun c hc => ?_⟩
    have h3 : c.vals.length + 1 ≤ (t.comps.map costComp).sum := sum_mem (f := costComp) hc
    omega
end Go.Proofs.Ytfckbkhnelgjbaa
end
/- world.Ints. -/
section
namespace Go.Proofs.Ytfckbkhnelgjbaa
open Go.ChangeShapes Go.WideShapes Go.ChangeAt Go.RowKit Go.Mem
set_option linter.unusedVariables false
theorem allocs3_1 (w : World) (o1 o2 o3 : Obj) : (((w.alloc o1).alloc o2).alloc o3).heap[w.heap.size]? = some o1 := heap_keep (heap_keep (heap_alloc_new w o1) _) _
theorem allocs3_2 (w : World) (o1 o2 o3 : Obj) : (((w.alloc o1).alloc o2).alloc o3).heap[w.heap.size + 1]? = some o2 := by
  have := heap_keep (heap_alloc_new (w.alloc o1) o2) o3
  simpa using this
theorem allocs3_3 (w : World) (o1 o2 o3 : Obj) : (((w.alloc o1).alloc o2).alloc o3).heap[w.heap.size + 1 + 1]? = some o3 := by
  have := heap_alloc_new ((w.alloc o1).alloc o2) o3
  simpa using this
theorem allocs3_b (w : World) (o1 o2 o3 : Obj) : Below w.heap.size w (((w.alloc o1).alloc o2).alloc o3) := (((Below.refl w.heap.size w).alloc (Nat.le_refl _) o1).alloc (by simp) o2).alloc (by simp; omega) o3
set_option maxHeartbeats 16000000 in
set_option maxRecDepth 20000 in
theorem world_Ints (y : WorldV) (v : Value) (W : World) (hv : WorldIn W v y) (hfn : FineW y) : Calls Try.prog 64 #[v] W fun e w' => (∃ a c, e = .returned (.slice a (intsW y).length c) ∧ IntsAt .i64 w' a (intsW y)) ∧ Below W.heap.size W w' := by
  obtain ⟨ak, ck, ag, cg, ai, ci, rfl, hzk, hzg, hzi, hk1, hk2⟩ := hv
  have hdk := fun i (h : i < y.kinds.length) R => drop_flat kndI y.kinds i h R
  have hdi := fun i (h : i < y.items.length) R => drop_flat itemI y.items i h R
  have hek := drop_end kndI y.kinds
  have hei := drop_end itemI y.items
  obtain ⟨TOT, hTOT⟩ : ∃ T, T = intsW y := ⟨_, rfl⟩
  have htl := hfn.tot
  rw [← hTOT] at htl ⊢
  obtain ⟨TL, hTL⟩ : ∃ t, t = TOT.length := ⟨_, rfl⟩
  rw [← hTL] at htl
  have s1 := hfn.kl
  have s2 := hfn.gl
  have s3 := hfn.il
  have HK := Lib.hid hfn.k
  have HI := Lib.hid hfn.i
  unfold intsW at hTOT
  obtain ⟨nk, hnk⟩ : ∃ nk, nk = y.kinds.length := ⟨_, rfl⟩
  obtain ⟨ng, hng⟩ : ∃ ng, ng = y.gens.length := ⟨_, rfl⟩
  obtain ⟨ni, hni⟩ : ∃ ni, ni = y.items.length := ⟨_, rfl⟩
  rw [← hnk] at hk1 s1
  rw [← hng] at s2
  rw [← hni] at s3
  rw [← hnk, ← hng, ← hni]
  rw [← hnk, ← hng, ← hni] at hTOT
  rw [← hnk] at hek
  rw [← hni] at hei
  have hk0 : ((y.kinds.map kndI).flatten : List Int) = ((y.kinds.drop 0).map kndI).flatten := rfl
  have hi0 : ((y.items.map itemI).flatten : List Int) = ((y.items.drop 0).map itemI).flatten := rfl
  rw [hk0, hi0] at hTOT
  obtain ⟨FI, hFI⟩ : ∃ F : Nat → List Int, F = fun i => ((y.items.drop i).map itemI).flatten := ⟨_, rfl⟩
  obtain ⟨FK, hFK⟩ : ∃ F : Nat → List Int, F = fun i => ((y.kinds.drop i).map kndI).flatten := ⟨_, rfl⟩
  have hdk' : ∀ i (h : i < y.kinds.length) R, FK i ++ R = kndI y.kinds[i] ++ (FK (i + 1) ++ R) := fun i h R => by rw [hFK]; exact hdk i h R
  have hdi' : ∀ i (h : i < y.items.length) R, FI i ++ R = itemI y.items[i] ++ (FI (i + 1) ++ R) := fun i h R => by rw [hFI]; exact hdi i h R
  have hek' : ∀ R, FK nk ++ R = R := fun R => by rw [hFK]; exact hek R
  have hei' : ∀ R, FI ni ++ R = R := fun R => by rw [hFI]; exact hei R
  have hTOT' : [(nk : Int)] ++ (FK 0 ++ ([(ng : Int)] ++ (y.gens ++ ([(ni : Int)] ++ FI 0)))) = TOT := by rw [hFK, hFI]; exact hTOT.symm
  have DK := Lib.hid hdk'
  have DI := Lib.hid hdi'
  have EK := Lib.hid hek'
  have EI := Lib.hid hei'
  have HT0 := Lib.hid hTOT'
  have HTL := Lib.hid hTL
  have NK := Lib.hid hnk
  have NG := Lib.hid hng
  have NI := Lib.hid hni
  have ZK := Lib.hid hzk
  have ZG := Lib.hid hzg
  have ZI := Lib.hid hzi
  have LEN := Lib.hid (fun (L R : List Int) (h : L ++ R = TOT) => (show L.length ≤ TL from by rw [hTL]; exact len_le h))
  clear hdk hdi hek hei hk0 hi0 hTOT hFI hFK hdk' hdi' hek' hei' hTOT' hTL hnk hng hni hzk hzg hzi hfn
  obtain ⟨o1, ho1⟩ : ∃ o : Obj, o = .cells #[.slice ak nk ck, .slice ag ng cg, .slice ai ni ci] 37 (0, 0) := ⟨_, rfl⟩
  obtain ⟨o2, ho2⟩ : ∃ o : Obj, o = .cells #[.int .i64 (nk : Int)] 3 (0, 0) := ⟨_, rfl⟩
  obtain ⟨o3, ho3⟩ : ∃ o : Obj, o = .cells #[.slice (some ⟨W.heap.size + 1, 0, none⟩) 1 1] 34 (0, 0) := ⟨_, rfl⟩
  have g1 := allocs3_1 W o1 o2 o3
  have g2 := allocs3_2 W o1 o2 o3
  have g3 := allocs3_3 W o1 o2 o3
  have gb := allocs3_b W o1 o2 o3
  rw [ho1, ho2, ho3] at g1 g2 g3 gb
  obtain ⟨B, hB⟩ : ∃ B, B = W.heap.size + 1 := ⟨_, rfl⟩
  obtain ⟨X, hX⟩ : ∃ X, X = W.heap.size + 1 + 1 := ⟨_, rfl⟩
  have hout0 : OutV (((W.alloc (.cells #[.slice ak nk ck, .slice ag ng cg, .slice ai ni ci] 37 (0, 0))).alloc (.cells #[.int .i64 (nk : Int)] 3 (0, 0))).alloc (.cells #[.slice (some ⟨W.heap.size + 1, 0, none⟩) 1 1] 34 (0, 0))) B X (.slice (some ⟨W.heap.size + 1, 0, none⟩) 1 1) [(nk : Int)] :=
    ⟨by omega, by rw [hX]; exact g3, ⟨rfl, Or.inr ⟨W.heap.size + 1, 1, #[.int .i64 (nk : Int)], rfl, by omega, g2, Nat.le_refl _, by decide, rfl, rfl⟩⟩⟩
  have hrow0 := g1
  have hb0 := gb
  have HOUT0 := Lib.hid hout0
  have HROW0 := Lib.hid hrow0
  have HB0 := Lib.hid hb0
  clear ho1 ho2 ho3 o1 o2 o3 g1 g2 g3 gb hout0 hrow0 hb0
  have HX := Lib.hid hX
  have hBX : B ≤ X := by omega
  have hNB : W.heap.size < B := by omega
  clear hB hX
  go_enter Try.func64, Try.ntmps64
  go_wp2_with fail
  obtain ⟨W0, hW0⟩ : ∃ W0, W0 = ((W.alloc (.cells #[.slice ak nk ck, .slice ag ng cg, .slice ai ni ci] 37 (0, 0))).alloc (.cells #[.int .i64 (nk : Int)] 3 (0, 0))).alloc (.cells #[.slice (some ⟨W.heap.size + 1, 0, none⟩) 1 1] 34 (0, 0)) := ⟨_, rfl⟩
  rw [← hW0] at HOUT0 HROW0 HB0 ⊢
  have hX := (show X = W.heap.size + 1 + 1 by have := HX.out; omega)
  rw [← hX]
  clear hX hW0
  have hT1 := step_eq HT0.out
  go_loopg [21, 6, 38, 8] nk (fun gk v1 _ _ _ wx => ∃ (i : Nat) (u : Value) (L : List Int), i ≤ nk ∧ gk = nk - i ∧ v1 = .int .i64 i ∧ OutV wx B X u L ∧ L ++ (FK i ++ ([(ng : Int)] ++ (y.gens ++ ([(ni : Int)] ++ FI 0)))) = TOT ∧ FrX B X W0 wx)
  case atStart => exact ⟨0, _, _, Nat.zero_le _, rfl, rfl, HOUT0.out, hT1, FrX.refl _ _ _⟩
  case round =>
    clear HOUT0 hT1
    obtain ⟨i, u, L, j1, j2, rfl, hout, hT, hfr⟩ := hrel
    have J2 := Lib.hid j2
    have HOUT := Lib.hid hout
    have HFR := Lib.hid hfr
    have HT := Lib.hid hT
    have hrowN := hfr.low hNB HROW0.out
    have HROWN := Lib.hid hrowN
    have hbW : Below W.heap.size W wr := HB0.out.trans (hfr.bel.mono (Nat.le_of_lt hNB))
    have HBW := Lib.hid hbW
    have hble := hout.ble
    clear j2 hout hfr hT hrowN
    by_cases hi : i < nk
    · obtain ⟨x, rfl, _, _⟩ := ZK.out (by rw [← NK.out]; omega)
      obtain ⟨kb, ko, rfl, af, cf, hclW, hnm, hnc, hcm, hfl⟩ := kind_cells ZK.out i (by rw [← NK.out]; exact hi)
      have hcl := hclW.below hbW
      clear hclW
      have hsz := HK.out _ (List.getElem_mem (by rw [← NK.out]; exact hi) : y.kinds[i]'(by rw [← NK.out]; exact hi) ∈ y.kinds)
      have hT := HT.out
      rw [DK.out i (by rw [← NK.out]; exact hi)] at hT
      obtain ⟨kk, hkk⟩ : ∃ kk, kk = y.kinds[i]'(by rw [← NK.out]; exact hi) := ⟨_, rfl⟩
      rw [← hkk] at hcl hnm hnc hfl hsz hT
      unfold kndI at hT
      obtain ⟨q1, q2, q3⟩ := hsz
      obtain ⟨FF, hFF⟩ : ∃ F : Nat → List Int, F = fun j => ((kk.fields.drop j).map fldI).flatten := ⟨_, rfl⟩
      have df : ∀ j (h : j < kk.fields.length) R, FF j ++ R = fldI kk.fields[j] ++ (FF (j + 1) ++ R) := fun j h R => by rw [hFF]; exact drop_flat fldI kk.fields j h R
      have ef : ∀ R, FF kk.fields.length ++ R = R := fun R => by rw [hFF]; exact drop_end fldI kk.fields R
      rw [show (kk.fields.map fldI).flatten = FF 0 from by rw [hFF]; rfl, List.append_assoc, List.append_assoc] at hT
      obtain ⟨nf, hnf⟩ : ∃ nf, nf = kk.fields.length := ⟨_, rfl⟩
      rw [← hnf] at hcl hT ef hnc q2
      obtain ⟨nm, hnmE⟩ : ∃ nm, nm = kk.name := ⟨_, rfl⟩
      rw [← hnmE] at hcl hT q1
      have e0 := hcl.at 0 (by simp)
      have e1 := hcl.at 1 (by simp)
      simp only [List.getElem_cons_zero, List.getElem_cons_succ, Nat.add_zero] at e0 e1
      have hrk := heap_alloc_new wr (.cells #[.string nm, .slice af nf cf] 102 (0, 0))
      have hbk : Below wr.heap.size wr (wr.alloc (.cells #[.string nm, .slice af nf cf] 102 (0, 0))) := (Below.refl _ _).alloc (Nat.le_refl _) _
      have hLl := LEN.out _ _ HT.out
      have CN := Lib.hid (ints_name nm q1 B X u L _ (HOUT.out.below hbk) (by omega))
      have HT1 := Lib.hid (step_eq hT)
      have hL1 := LEN.out _ _ HT1.out
      have HRK := Lib.hid hrk
      have HFL := Lib.hid hfl
      have HFK := Lib.hid (FrX.of_below (X := X) hble hbk)
      have DF := Lib.hid df
      have EF := Lib.hid ef
      have Q3 := Lib.hid q3
      have NF := Lib.hid hnf
      have hKX : wr.heap.size ≠ X := by have := HOUT.out.lt; omega
      obtain ⟨L1, hL1e⟩ : ∃ L1, L1 = L ++ nameI nm := ⟨_, rfl⟩
      rw [← hL1e] at CN HT1 hL1
      clear hcl hnm hnc hfl hkk hT hFF df ef hnf hnmE hrk hbk hL1e q3
      go_wp2_with (first
        | (go_at_call 95; refine CN.out.mono ?_; rintro e w2 ⟨rfl, ⟨v2, ho2⟩, hf2⟩; have HO2 := Lib.hid ho2; have HF2 := Lib.hid hf2; have c2 := ho2.cell; have rk2 := hf2.far _ _ _ _ HRK.out (by decide) hKX; have RK2 := Lib.hid rk2; have k21 := cell_of_row _ _ 1 _ _ _ rk2; clear ho2 hf2 rk2)
        | (at_builtin; go_must (refine wpList_out rfl _ _ rfl rfl _ _ rfl B X v2 L1 rfl (HO2.out.below ((Below.refl _ _).alloc (Nat.le_refl _) _)) (some ⟨w2.heap.size, 0, none⟩) 1 1 [(nf : Int)] rfl rfl (new_ints1 w2 (nf : Int)) (by omega) (fun u => rfl) (fun u => rfl) ?_); intro v3 w3 hout hfr; have HO3 := Lib.hid hout; have HF3 := Lib.hid ((FrX.of_below HO2.out.ble ((Below.refl w2.heap.size w2).alloc (Nat.le_refl _) (.cells #[.int .i64 (nf : Int)] 3))).trans hfr); have c3 := hout.cell; have rk3 := hfr.far _ _ _ _ (heap_keep RK2.out _) (by decide) hKX; have RK3 := Lib.hid rk3; have k31 := cell_of_row _ _ 1 _ _ _ rk3; clear rk3; clear hout hfr))
      have HT2 := Lib.hid (step_eq HT1.out)
      have hL2 := LEN.out _ _ HT2.out
      have HFA := Lib.hid (HFR.out.trans (HFK.out.trans (HF2.out.trans HF3.out)))
      clear CN HF2 HF3 HO2 RK2 HRK HFK c2 c3 k21 HROWN HT1
      obtain ⟨R1, hR1⟩ : ∃ R1, R1 = FK (i + 1) ++ ([(ng : Int)] ++ (y.gens ++ ([(ni : Int)] ++ FI 0))) := ⟨_, rfl⟩
      rw [← hR1] at HT2
      have HR1 := Lib.hid hR1
      clear hR1
      go_loopg [38, 8] nf (fun gk v1 _ wx => ∃ (j : Nat) (u : Value) (L : List Int), j ≤ nf ∧ gk = nf - j ∧ v1 = .int .i64 j ∧ OutV wx B X u L ∧ L ++ (FF j ++ R1) = TOT ∧ FrX B X W0 wx)
      case atStart => exact ⟨0, _, _, Nat.zero_le _, rfl, rfl, HO3.out, HT2.out, HFA.out⟩
      case round =>
        clear HO3 HT2 HFA RK3 k31 e0 e1
        obtain ⟨j, u, L, l1, l2, rfl, hout, hT, hfr⟩ := hrel
        have J3 := Lib.hid l2
        have HOUT := Lib.hid hout
        have HFR := Lib.hid hfr
        have HT := Lib.hid hT
        have hbW : Below W.heap.size W wr := HB0.out.trans (hfr.bel.mono (Nat.le_of_lt hNB))
        have hble := hout.ble
        have hLl := LEN.out _ _ hT
        clear l2 hout hfr hT
        by_cases hj : j < nf
        · obtain ⟨x, rfl, _, _⟩ := HFL.out (by rw [← NF.out]; omega)
          obtain ⟨fb, fo, rfl, hclW⟩ := fld_cells HFL.out j (by rw [← NF.out]; exact hj)
          have hcl := hclW.below hbW
          have hT := HT.out
          rw [DF.out j (by rw [← NF.out]; exact hj)] at hT
          have hsz := Q3.out _ (List.getElem_mem (by rw [← NF.out]; exact hj) : kk.fields[j]'(by rw [← NF.out]; exact hj) ∈ kk.fields)
          obtain ⟨ff, hff⟩ : ∃ ff, ff = kk.fields[j]'(by rw [← NF.out]; exact hj) := ⟨_, rfl⟩
          rw [← hff] at hcl hsz hT
          unfold fldI at hT
          rw [List.append_assoc] at hT
          obtain ⟨n2, hn2⟩ : ∃ n2, n2 = ff.name := ⟨_, rfl⟩
          obtain ⟨b2, hb2⟩ : ∃ b2, b2 = ff.bits := ⟨_, rfl⟩
          obtain ⟨l2, hl2⟩ : ∃ l2, l2 = ff.low := ⟨_, rfl⟩
          rw [← hn2] at hcl hsz hT
          rw [← hb2, ← hl2] at hcl hT
          have e0 := hcl.at 0 (by simp)
          have e1 := hcl.at 1 (by simp)
          have e2 := hcl.at 2 (by simp)
          simp only [List.getElem_cons_zero, List.getElem_cons_succ, Nat.add_zero] at e0 e1 e2
          have hrk := heap_alloc_new wr (.cells #[.string n2, .int .i64 b2, .int .i64 l2] 99 (0, 0))
          have hbk : Below wr.heap.size wr (wr.alloc (.cells #[.string n2, .int .i64 b2, .int .i64 l2] 99 (0, 0))) := (Below.refl _ _).alloc (Nat.le_refl _) _
          have CN := Lib.hid (ints_name n2 hsz B X u L _ (HOUT.out.below hbk) (by omega))
          have HT1 := Lib.hid (step_eq hT)
          have hL1 := LEN.out _ _ HT1.out
          have HRK := Lib.hid hrk
          have HFK := Lib.hid (FrX.of_below (X := X) hble hbk)
          have hKX : wr.heap.size ≠ X := by have := HOUT.out.lt; omega
          obtain ⟨L1, hL1e⟩ : ∃ L1, L1 = L ++ nameI n2 := ⟨_, rfl⟩
          rw [← hL1e] at CN HT1 hL1
          clear hcl hclW hff hT hn2 hb2 hl2 hrk hbk hL1e
          go_wp2_with (first
            | (go_at_call 95; refine CN.out.mono ?_; rintro e w2 ⟨rfl, ⟨v2, ho2⟩, hf2⟩; have HO2 := Lib.hid ho2; have HF2 := Lib.hid hf2; have c2 := ho2.cell; have rk2 := hf2.far _ _ _ _ HRK.out (by decide) hKX; have k21 := cell_of_row _ _ 1 _ _ _ rk2; have k22 := cell_of_row _ _ 2 _ _ _ rk2; clear ho2 hf2 rk2)
            | (at_builtin; go_must (refine wpList_out rfl _ _ rfl rfl _ _ rfl B X v2 L1 rfl (HO2.out.below ((Below.refl _ _).alloc (Nat.le_refl _) _)) (some ⟨w2.heap.size, 0, none⟩) 2 2 [b2, l2] rfl rfl (new_ints2 w2 b2 l2) (by omega) (fun u => rfl) (fun u => rfl) ?_); intro v3 w3 hout hfr; have HO3 := Lib.hid hout; have HF3 := Lib.hid ((FrX.of_below HO2.out.ble ((Below.refl w2.heap.size w2).alloc (Nat.le_refl _) (.cells #[.int .i64 b2, .int .i64 l2] 3))).trans hfr); skip; clear hout hfr))
          have HT2 := Lib.hid (step_eq HT1.out)
          have HFA := Lib.hid (HFR.out.trans (HFK.out.trans (HF2.out.trans HF3.out)))
          clear CN HF2 HF3 HO2 HRK HFK c2 k21 k22 HT1 e0 e1 e2
          go_roundg (nf - (j + 1))
          case measure => rw [J3.out]; omega
          case rel => exact ⟨j + 1, _, _, hj, rfl, by go_num, HO3.out, HT2.out, HFA.out⟩
        · obtain rfl : nf = j := by omega
          have hT := HT.out
          rw [EF.out, HR1.out] at hT
          have HT := Lib.hid hT
          clear hT
          go_wp2
          go_roundg (nk - (i + 1))
          case measure => rw [J2.out]; omega
          case rel => exact ⟨i + 1, _, _, hi, rfl, by go_num, HOUT.out, HT.out, HFR.out⟩
    · obtain rfl : nk = i := by omega
      have hT := HT.out
      rw [EK.out] at hT
      have HT0 := Lib.hid hT
      have HT1 := Lib.hid (step_eq hT)
      have HT2 := Lib.hid (step_eq HT1.out)
      have HT3 := Lib.hid (step_eq HT2.out)
      have hl0 := LEN.out _ _ HT0.out
      have hl1 := LEN.out _ _ HT1.out
      have hl2 := LEN.out _ _ HT2.out
      have hl3 := LEN.out _ _ HT3.out
      have c0 := HOUT.out.cell
      have r1 := cell_of_row _ _ 1 _ _ _ HROWN.out
      have r2 := cell_of_row _ _ 2 _ _ _ HROWN.out
      have ZGr := Lib.hid (ZG.out.below hbW)
      clear hT HT HT0

      go_wp2_with (first
        | (at_builtin; (refine wpList_out rfl _ _ rfl rfl _ _ rfl B X u L rfl (HOUT.out.below ((Below.refl _ _).alloc (Nat.le_refl _) _)) (some ⟨wr.heap.size, 0, none⟩) 1 1 [(ng : Int)] rfl rfl (new_ints1 wr (ng : Int)) (by omega) (fun u => rfl) (fun u => rfl) ?_); intro v5 w5 hout hfr; have HO5 := Lib.hid hout; have HF5 := Lib.hid ((FrX.of_below HOUT.out.ble ((Below.refl wr.heap.size wr).alloc (Nat.le_refl _) (.cells #[.int .i64 (ng : Int)] 3))).trans hfr); have hbW5 := HBW.out.trans (HF5.out.bel.mono (Nat.le_of_lt hNB)); have row5 := HF5.out.low hNB HROWN.out; have c5 := hout.cell; have r15 := cell_of_row _ _ 1 _ _ _ row5; have r25 := cell_of_row _ _ 2 _ _ _ row5; have ZG5 := Lib.hid (ZG.out.below hbW5); have HROWN5 := Lib.hid row5; have HBW5 := Lib.hid hbW5; clear hbW5 row5; clear hout hfr)
        | (at_builtin; (refine wpList_out rfl _ _ rfl rfl _ _ rfl B X v5 (L ++ [(ng : Int)]) rfl HO5.out ag ng cg y.gens rfl NG.out.symm ZG5.out (by have := hl2; rw [List.length_append, ← NG.out] at this; omega) (fun u => rfl) (fun u => rfl) ?_); intro v6 w6 hout hfr; have HO6 := Lib.hid hout; have HF6 := Lib.hid hfr; have hbW6 := HBW5.out.trans (HF6.out.bel.mono (Nat.le_of_lt hNB)); have row6 := HF6.out.low hNB HROWN5.out; have c6 := hout.cell; have r16 := cell_of_row _ _ 1 _ _ _ row6; have r26 := cell_of_row _ _ 2 _ _ _ row6; have ZG6 := Lib.hid (ZG.out.below hbW6); have HROWN6 := Lib.hid row6; have HBW6 := Lib.hid hbW6; clear hbW6 row6; clear hout hfr)
        | (at_builtin; (refine wpList_out rfl _ _ rfl rfl _ _ rfl B X v6 (L ++ [(ng : Int)] ++ y.gens) rfl (HO6.out.below ((Below.refl _ _).alloc (Nat.le_refl _) _)) (some ⟨w6.heap.size, 0, none⟩) 1 1 [(ni : Int)] rfl rfl (new_ints1 w6 (ni : Int)) (by omega) (fun u => rfl) (fun u => rfl) ?_); intro v7 w7 hout hfr; have HO7 := Lib.hid hout; have HF7 := Lib.hid ((FrX.of_below HO6.out.ble ((Below.refl w6.heap.size w6).alloc (Nat.le_refl _) (.cells #[.int .i64 (ni : Int)] 3))).trans hfr); have hbW7 := HBW6.out.trans (HF7.out.bel.mono (Nat.le_of_lt hNB)); have row7 := HF7.out.low hNB HROWN6.out; have c7 := hout.cell; have r17 := cell_of_row _ _ 1 _ _ _ row7; have r27 := cell_of_row _ _ 2 _ _ _ row7; have ZG7 := Lib.hid (ZG.out.below hbW7); have HROWN7 := Lib.hid row7; have HBW7 := Lib.hid hbW7; clear hbW7 row7; clear hout hfr))
      have HFB := Lib.hid (HFR.out.trans (HF5.out.trans (HF6.out.trans HF7.out)))
      have hT3 : (L ++ [(ng : Int)] ++ y.gens ++ [(ni : Int)]) ++ (FI 0 ++ []) = TOT := by rw [List.append_nil]; exact HT3.out
      clear HF5 HF6 HF7 HO5 HO6 c5 c6 c0 r1 r2 r15 r16 r25 r26 ZGr ZG5 ZG6 ZG7 HT1 HT2 HT3 HROWN HROWN5 HROWN6 HBW HBW5 HBW6 hl0 hl1 hl2 HOUT HFR
      go_loopg [74, 10, 93, 12] ni (fun gk v1 _ _ _ wx => ∃ (i : Nat) (u : Value) (L : List Int), i ≤ ni ∧ gk = ni - i ∧ v1 = .int .i64 i ∧ OutV wx B X u L ∧ L ++ (FI i ++ []) = TOT ∧ FrX B X W0 wx)
      case atStart => exact ⟨0, _, _, Nat.zero_le _, rfl, rfl, HO7.out, hT3, HFB.out⟩
      case round =>
        clear HO7 hT3 HFB hl3 c7 r17 r27 HROWN7 HBW7
        obtain ⟨i, u, L, j1, j2, rfl, hout, hT, hfr⟩ := hrel
        have J2 := Lib.hid j2
        have HOUT := Lib.hid hout
        have HFR := Lib.hid hfr
        have HT := Lib.hid hT
        have hbW : Below W.heap.size W wr := HB0.out.trans (hfr.bel.mono (Nat.le_of_lt hNB))
        have HBW := Lib.hid hbW
        have hble := hout.ble
        have c0 := hout.cell
        clear j2 hout hfr hT
        by_cases hi : i < ni
        · obtain ⟨x, rfl, _, _⟩ := ZI.out (by rw [← NI.out]; omega)
          obtain ⟨ib, io, rfl, ac, cc, hclW, hcoW⟩ := item_cells ZI.out i (by rw [← NI.out]; exact hi)
          have hcl := hclW.below hbW
          have hsz := HI.out _ (List.getElem_mem (by rw [← NI.out]; exact hi) : y.items[i]'(by rw [← NI.out]; exact hi) ∈ y.items)
          have hT := HT.out
          rw [DI.out i (by rw [← NI.out]; exact hi)] at hT
          obtain ⟨it, hit⟩ : ∃ it, it = y.items[i]'(by rw [← NI.out]; exact hi) := ⟨_, rfl⟩
          rw [← hit] at hcl hcoW hsz hT
          unfold itemI at hT
          obtain ⟨q1, q2⟩ := hsz
          obtain ⟨FC, hFC⟩ : ∃ F : Nat → List Int, F = fun j => ((it.comps.drop j).map compI).flatten := ⟨_, rfl⟩
          have df : ∀ j (h : j < it.comps.length) R, FC j ++ R = compI it.comps[j] ++ (FC (j + 1) ++ R) := fun j h R => by rw [hFC]; exact drop_flat compI it.comps j h R
          have ef : ∀ R, FC it.comps.length ++ R = R := fun R => by rw [hFC]; exact drop_end compI it.comps R
          rw [show (it.comps.map compI).flatten = FC 0 from by rw [hFC]; rfl, List.append_assoc] at hT
          obtain ⟨nc, hnc⟩ : ∃ nc, nc = it.comps.length := ⟨_, rfl⟩
          obtain ⟨kn, hkn⟩ : ∃ kn, kn = it.n := ⟨_, rfl⟩
          obtain ⟨kg, hkg⟩ : ∃ kg, kg = it.gen := ⟨_, rfl⟩
          rw [← hnc] at hcl hT ef q1
          rw [← hkn, ← hkg] at hcl hT
          have e0 := hcl.at 0 (by simp)
          have e1 := hcl.at 1 (by simp)
          have e2 := hcl.at 2 (by simp)
          simp only [List.getElem_cons_zero, List.getElem_cons_succ, Nat.add_zero] at e0 e1 e2
          have hrk := heap_alloc_new wr (.cells #[.int .i64 kn, .int .i64 kg, .slice ac nc cc] 72 (0, 0))
          have hbk : Below wr.heap.size wr (wr.alloc (.cells #[.int .i64 kn, .int .i64 kg, .slice ac nc cc] 72 (0, 0))) := (Below.refl _ _).alloc (Nat.le_refl _) _
          obtain ⟨WA, hWA⟩ : ∃ WA, WA = wr.alloc (.cells #[.int .i64 kn, .int .i64 kg, .slice ac nc cc] 72 (0, 0)) := ⟨_, rfl⟩
          have HT1 := Lib.hid (step_eq hT)
          have hLl := LEN.out _ _ HT.out
          have hL1 := LEN.out _ _ HT1.out
          have HRK := Lib.hid hrk
          have HOA := Lib.hid (HOUT.out.below hbk)
          have cA := (HOUT.out.below hbk).cell
          have HFA0 := Lib.hid (FrX.of_below (X := X) hble hbk)
          have DF := Lib.hid df
          have EF := Lib.hid ef
          have Q2 := Lib.hid q2
          have NC := Lib.hid hnc
          have HCO := Lib.hid hcoW
          have hKX : wr.heap.size ≠ X := by have := HOUT.out.lt; omega
          clear hcl hclW hcoW hit hT hFC df ef hnc hkn hkg hrk hbk hWA WA q2
          go_wp2_with (at_builtin; go_must (refine wpList_out rfl _ _ rfl rfl _ _ rfl B X u L rfl (HOA.out.below ((Below.refl _ _).alloc (Nat.le_refl _) _)) (some ⟨wr.heap.size + 1, 0, none⟩) 3 3 [kn, kg, (nc : Int)] rfl rfl (by have h := new_ints3 (wr.alloc (.cells #[.int .i64 kn, .int .i64 kg, .slice ac nc cc] 72 (0, 0))) kn kg (nc : Int); rw [World.size_alloc] at h; exact h) (by omega) (fun u => rfl) (fun u => rfl) ?_); intro v3 w3 hout hfr; have HO3 := Lib.hid hout; have HF3 := Lib.hid ((FrX.of_below HOA.out.ble ((Below.refl (wr.alloc (.cells #[.int .i64 kn, .int .i64 kg, .slice ac nc cc] 72 (0, 0))).heap.size (wr.alloc (.cells #[.int .i64 kn, .int .i64 kg, .slice ac nc cc] 72 (0, 0)))).alloc (Nat.le_refl _) (.cells #[.int .i64 kn, .int .i64 kg, .int .i64 (nc : Int)] 3))).trans hfr); have rk3 := hfr.far _ _ _ _ (heap_keep HRK.out _) (by decide) hKX; have k32 := cell_of_row _ _ 2 _ _ _ rk3; clear rk3; clear hout hfr)
          have HFB := Lib.hid (HFR.out.trans (HFA0.out.trans HF3.out))
          clear HFA0 HF3 HOA HRK c0 cA e0 e1 e2
          obtain ⟨R1, hR1⟩ : ∃ R1, R1 = FI (i + 1) ++ [] := ⟨_, rfl⟩
          rw [← hR1] at HT1
          have HR1 := Lib.hid hR1
          clear hR1
          go_loopg [93, 12] nc (fun gk v1 _ wx => ∃ (j : Nat) (u : Value) (L : List Int), j ≤ nc ∧ gk = nc - j ∧ v1 = .int .i64 j ∧ OutV wx B X u L ∧ L ++ (FC j ++ R1) = TOT ∧ FrX B X W0 wx)
          case atStart => exact ⟨0, _, _, Nat.zero_le _, rfl, rfl, HO3.out, HT1.out, HFB.out⟩
          case round =>
            clear HO3 HT1 HFB k32
            obtain ⟨j, u, L, l1, l2, rfl, hout, hT, hfr⟩ := hrel
            have J3 := Lib.hid l2
            have HOUT := Lib.hid hout
            have HFR := Lib.hid hfr
            have HT := Lib.hid hT
            have hbW : Below W.heap.size W wr := HB0.out.trans (hfr.bel.mono (Nat.le_of_lt hNB))
            have hble := hout.ble
            have c0 := hout.cell
            have hLl := LEN.out _ _ hT
            clear l2 hout hfr hT
            by_cases hj : j < nc
            · obtain ⟨x, rfl, _, _⟩ := HCO.out (by rw [← NC.out]; omega)
              obtain ⟨cb, co, rfl, av, cv, hclW, hvW⟩ := comp_cells HCO.out j (by rw [← NC.out]; exact hj)
              have hcl := hclW.below hbW
              have hT := HT.out
              rw [DF.out j (by rw [← NC.out]; exact hj)] at hT
              have hsz := Q2.out _ (List.getElem_mem (by rw [← NC.out]; exact hj) : it.comps[j]'(by rw [← NC.out]; exact hj) ∈ it.comps)
              obtain ⟨cm, hcm⟩ : ∃ cm, cm = it.comps[j]'(by rw [← NC.out]; exact hj) := ⟨_, rfl⟩
              rw [← hcm] at hcl hvW hsz hT
              unfold compI at hT
              rw [List.append_assoc] at hT
              obtain ⟨nv, hnv⟩ : ∃ nv, nv = cm.vals.length := ⟨_, rfl⟩
              obtain ⟨kq, hkq⟩ : ∃ kq, kq = cm.kind := ⟨_, rfl⟩
              rw [← hnv] at hcl hsz hT
              rw [← hkq] at hcl hT
              have e0 := hcl.at 0 (by simp)
              have e1 := hcl.at 1 (by simp)
              simp only [List.getElem_cons_zero, List.getElem_cons_succ, Nat.add_zero] at e0 e1
              have hrk := heap_alloc_new wr (.cells #[.int .i64 kq, .slice av nv cv] 95 (0, 0))
              have hbk : Below wr.heap.size wr (wr.alloc (.cells #[.int .i64 kq, .slice av nv cv] 95 (0, 0))) := (Below.refl _ _).alloc (Nat.le_refl _) _
              have HT1 := Lib.hid (step_eq hT)
              have HT2 := Lib.hid (step_eq HT1.out)
              have hL2 := LEN.out _ _ HT2.out
              have HRK := Lib.hid hrk
              have HOA := Lib.hid (HOUT.out.below hbk)
              have cA := (HOUT.out.below hbk).cell
              have HFA0 := Lib.hid (FrX.of_below (X := X) hble hbk)
              have HVW := Lib.hid hvW
              have NV := Lib.hid hnv
              have hKX : wr.heap.size ≠ X := by have := HOUT.out.lt; omega
              rw [List.length_append, ← NV.out] at hL2
              have hL2' : L.length + 2 + nv ≤ TL := by simpa using hL2
              clear hcl hclW hvW hcm hT hnv hkq hrk hbk hL2
              go_wp2_with (first
                | (at_builtin; (refine wpList_out rfl _ _ rfl rfl _ _ rfl B X u L rfl (HOA.out.below ((Below.refl _ _).alloc (Nat.le_refl _) _)) (some ⟨wr.heap.size + 1, 0, none⟩) 2 2 [kq, (nv : Int)] rfl rfl (by have h := new_ints2 (wr.alloc (.cells #[.int .i64 kq, .slice av nv cv] 95 (0, 0))) kq (nv : Int); rw [World.size_alloc] at h; exact h) (by omega) (fun u => rfl) (fun u => rfl) ?_); intro v3 w3 hout hfr; have HO3 := Lib.hid hout; have HF3 := Lib.hid ((FrX.of_below HOA.out.ble ((Below.refl (wr.alloc (.cells #[.int .i64 kq, .slice av nv cv] 95 (0, 0))).heap.size (wr.alloc (.cells #[.int .i64 kq, .slice av nv cv] 95 (0, 0)))).alloc (Nat.le_refl _) (.cells #[.int .i64 kq, .int .i64 (nv : Int)] 3))).trans hfr); have rk3 := hfr.far _ _ _ _ (heap_keep HRK.out _) (by decide) hKX; have k31 := cell_of_row _ _ 1 _ _ _ rk3; have c3 := hout.cell; have HV3 := Lib.hid (HVW.out.below (hbW.trans ((HFA0.out.trans HF3.out).bel.mono (Nat.le_of_lt hNB)))); clear rk3; clear hout hfr)
                | (at_builtin; (refine wpList_out rfl _ _ rfl rfl _ _ rfl B X v3 (L ++ [kq, (nv : Int)]) rfl HO3.out av nv cv cm.vals rfl NV.out.symm HV3.out (by rw [List.length_append]; simp; omega) (fun u => rfl) (fun u => rfl) ?_); intro v4 w4 hout hfr; have HO4 := Lib.hid hout; have HF4 := Lib.hid hfr; clear hout hfr))
              have HFB := Lib.hid (HFR.out.trans (HFA0.out.trans (HF3.out.trans HF4.out)))
              clear HF3 HF4 HFA0 HOA HRK HO3 HV3 c0 cA c3 k31 e0 e1 HT1
              go_roundg (nc - (j + 1))
              case measure => rw [J3.out]; omega
              case rel => exact ⟨j + 1, _, _, hj, rfl, by go_num, HO4.out, HT2.out, HFB.out⟩
            · obtain rfl : nc = j := by omega
              have hT := HT.out
              rw [EF.out, HR1.out] at hT
              have HT := Lib.hid hT
              clear hT
              go_wp2
              go_roundg (ni - (i + 1))
              case measure => rw [J2.out]; omega
              case rel => exact ⟨i + 1, _, _, hi, rfl, by go_num, HOUT.out, HT.out, HFR.out⟩
        · obtain rfl : ni = i := by omega
          have hT := HT.out
          rw [EI.out, List.append_nil] at hT
          have HT := Lib.hid hT
          clear hT
          go_wp2
          go_ret
          obtain ⟨a9, c9, hu, hin⟩ := HOUT.out.ints
          rw [HT.out] at hu hin
          exact ⟨⟨a9, c9, by rw [hu]; rfl, hin⟩, HBW.out⟩
end Go.Proofs.Ytfckbkhnelgjbaa
end
