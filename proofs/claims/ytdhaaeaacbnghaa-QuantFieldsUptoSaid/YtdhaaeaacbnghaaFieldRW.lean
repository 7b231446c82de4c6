/- quant.Put, quant.Get. -/
import Derived.Test.YtdhaaeaacbnghaaField
import Derived.Test.YtdhaaeaacbnghaaWriter
import Derived.Test.YtdhaaeaacbnghaaReadNat
namespace Go.Proofs.Ytdhaaeaacbnghaa
open Go.ChangeShapes Go.WideShapes Go.ChangeAt Go.RowKit Go.Mem Go.Bp
set_option linter.unusedVariables false

theorem gr_below {w w' : World} {r1 r2 : Option Nat} (h : Below w.heap.size w w') : Gr2 w w' r1 r2 := ⟨h.os, h.tape, h.output, h.size, fun k hk _ _ => h.block k hk⟩
/-- A field that the call has boxed. -/
def FAt (w : World) (g : Nat) (s : ByteArray) (b l : Int) : Prop := w.heap[g]? = some (.cells #[.string s, .int .i64 b, .int .i64 l] 92 (0, 0))
theorem FAt.cells {w : World} {g : Nat} {s : ByteArray} {b l : Int} (h : FAt w g s b l) : w.cell? ⟨g, 0, none⟩ = some (.string s) ∧ w.cell? ⟨g, 1, none⟩ = some (.int .i64 b) ∧ w.cell? ⟨g, 2, none⟩ = some (.int .i64 l) :=
  ⟨by rw [cell_of_row w g 0 _ _ _ h]; rfl, by rw [cell_of_row w g 1 _ _ _ h]; rfl, by rw [cell_of_row w g 2 _ _ _ h]; rfl⟩
theorem FAt.below {w w' : World} {g : Nat} {s : ByteArray} {b l : Int} (h : FAt w g s b l) (hb : Below w.heap.size w w') : FAt w' g s b l := heap_below h hb
theorem Wr.below' {w w' : World} {D g : Nat} {v : Value} {L : List Bool} (h : Wr w D g v L) (hb : Below w.heap.size w w') : Wr w' D g v L := ⟨heap_below h.block hb, own_below h.own hb, h.dg⟩
theorem PutPost.from_ {w w1 w' : World} {D g : Nat} {v : Value} {r : Nat × List Bool} {e : Ending} (h : PutPost w1 D g v r e w') (hb : Below w.heap.size w w1) : PutPost w D g v r e w' := by
  obtain ⟨he, v', h1, h2, h3⟩ := h
  exact ⟨he, v', h1, (gr_below hb).step h2 (fun b hb => .inl hb), fun b hv => (h3 b hv).imp id (Nat.le_trans hb.size)⟩
def qputR (L : List Bool) (b l v : Int) : Nat × List Bool := if fIs b l = false then (3, L) else if fitv b l v = v then putR L (v - l).toNat b else (1, L)

set_option maxHeartbeats 8000000 in
set_option maxRecDepth 100000 in
theorem quant_Put (s : ByteArray) (b l v : Int) (hv1 : -9223372036854775808 ≤ v) (hv2 : v ≤ 9223372036854775807) (w : World) (D g : Nat) (x : Value) (L : List Bool) (hl : L.length ≤ 524288) (hD : D ≤ w.heap.size) (hw : Wr w D g x L) :
    Calls Try.prog 65 #[.pointer (some ⟨g, 0, none⟩), .agg #[.string s, .int .i64 b, .int .i64 l], .int .i64 v] w (PutPost w D g x (qputR L b l v)) := by
  have HW := Lib.hid hw
  have HL := Lib.hid hl
  have hb := (Below.refl w.heap.size w).alloc (Nat.le_refl _) (.cells #[.string s, .int .i64 b, .int .i64 l] 92)
  have hf0 : FAt (w.alloc (.cells #[.string s, .int .i64 b, .int .i64 l] 92)) w.heap.size s b l := heap_alloc_new w _
  have HF := Lib.hid hf0
  have CK := quant_Check s b l
  have CF := Lib.hid (quant_Fit s b l v hv1 hv2)
  unfold qputR
  clear hw hl hf0
  cases hf : fIs b l with
  | false =>
    rw [if_pos rfl]
    rw [hf, if_neg (by simp)] at CK
    have CK := Lib.hid CK
    clear hf
    go_enter Try.func65, Try.ntmps65
    go_wp2_with fail
    refine (CK.out _).mono ?_
    rintro e w1 ⟨rfl, hb1⟩
    have hb2 := hb.trans (hb1.mono hb.size)
    clear hb1 hb
    go_wp2_with fail
    go_ret
    exact ⟨rfl, x, HW.out.below' hb2, gr_below hb2, fun b hb => .inl hb⟩
  | true =>
    obtain ⟨h1, h2, h3⟩ := fIs_true hf
    rw [if_neg (by simp)]
    rw [hf, if_pos rfl] at CK
    have CK := Lib.hid CK
    by_cases hfit : fitv b l v = v
    · rw [if_pos hfit]
      have hlb := lim_bd l
      rw [← h3] at hlb
      have hfb : l ≤ v ∧ v - l < 4294967296 := by
        have hx := hfit
        unfold fitv at hx
        rw [← h3, pow_c] at hx
        have p1 : 2 ^ (min (max b 0) 32).toNat ≤ 2 ^ 32 := Nat.pow_le_pow_right (by omega) (by omega)
        have p2 : 2 ^ 32 = 4294967296 := by decide
        have p3 : 1 ≤ 2 ^ (min (max b 0) 32).toNat := Nat.two_pow_pos _
        omega
      obtain ⟨U, hU⟩ : ∃ U, U = (v - l).toNat := ⟨_, rfl⟩
      have eU : (U : Int) = v - l := by omega
      rw [← hU]
      have lU : U < 4294967296 := by omega
      obtain ⟨hl1, hl2⟩ := hlb
      have e1 : IntKind.u64.wrap (v - l) = (U : Int) := by rw [← eU]; exact W64.u_in U (by omega)
      have tf : (v != v) = false := by simp
      have cf := CF.out
      rw [hfit] at cf
      have CF2 := Lib.hid cf
      have cp := fun (W : World) (hs : D ≤ W.heap.size) (h : Wr W D g x L) => wr_Put W D g U b x L (by omega) HL.out hs h
      have CP := Lib.hid cp
      clear hf h3 hfit cf cp hU eU CF
      obtain ⟨hfb1, hfb2⟩ := hfb
      go_enter Try.func65, Try.ntmps65
      go_wp2_with fail
      refine (CK.out _).mono ?_
      rintro e w1 ⟨rfl, hb1⟩
      have hb2 := hb.trans (hb1.mono hb.size)
      have HF1 := Lib.hid (HF.out.below hb1)
      obtain ⟨k0, k1, k2⟩ := HF1.out.cells
      clear hb1 hb HF
      go_wp2_with fail
      refine (CF2.out _).mono ?_
      rintro e w2 ⟨rfl, hb1⟩
      have hb3 := hb2.trans (hb1.mono hb2.size)
      have HF2 := Lib.hid (HF1.out.below hb1)
      clear k0 k1 k2 hb1 hb2
      obtain ⟨k0, k1, k2⟩ := HF2.out.cells
      go_wp2_with fail
      refine (CP.out _ (Nat.le_trans hD hb3.size) (HW.out.below' hb3)).mono ?_
      rintro e w3 ⟨rfl, y, h4, h5, h6⟩
      have H4 := Lib.hid h4
      have H6 := Lib.hid h6
      clear h4 h6
      go_wp2_with fail
      go_ret
      exact PutPost.from_ ⟨rfl, y, H4.out, h5, H6.out⟩ hb3
    · rw [if_neg hfit]
      obtain ⟨F, hF⟩ : ∃ F, F = fitv b l v := ⟨_, rfl⟩
      have cf := CF.out
      rw [← hF] at cf hfit
      have tf : (F != v) = true := by simp; exact hfit
      have CF2 := Lib.hid cf
      clear hf h3 hfit cf hF CF
      go_enter Try.func65, Try.ntmps65
      go_wp2_with fail
      refine (CK.out _).mono ?_
      rintro e w1 ⟨rfl, hb1⟩
      have hb2 := hb.trans (hb1.mono hb.size)
      have HF1 := Lib.hid (HF.out.below hb1)
      obtain ⟨k0, k1, k2⟩ := HF1.out.cells
      clear hb1 hb HF
      go_wp2_with fail
      refine (CF2.out _).mono ?_
      rintro e w2 ⟨rfl, hb1⟩
      have hb3 := hb2.trans (hb1.mono hb2.size)
      clear hb1 hb2
      go_wp2_with fail
      go_ret
      exact ⟨rfl, x, HW.out.below' hb3, gr_below hb3, fun b hb => .inl hb⟩

def QGetPost (w : World) (g : Nat) (a : Option Addr) (m c q : Nat) (v : Value) (w' : World) (e : Ending) : Prop := e = .returned v ∧ RdBlock w' g a m c q ∧ w.grownBy w' (some g)
theorem getR_32 (L : List Bool) (p : Nat) (b : Int) (h : b ≤ 32) : (getR L p b).1 < 4294967296 ∧ ((getR L p b).2.1 ≠ 0 → (getR L p b).1 = 0) := by
  unfold getR
  split
  · simp
  · split
    · simp
    · have h1 := seg_bval_lt L p b.toNat
      have h2 : 2 ^ b.toNat ≤ 2 ^ 32 := Nat.pow_le_pow_right (by omega) (by omega)
      have h3 : 2 ^ 32 = 4294967296 := by decide
      exact ⟨by show bval _ < _; omega, fun h => absurd rfl h⟩
theorem getR_err (L : List Bool) (p : Nat) (b : Int) : (getR L p b).2.1 ≤ 14 := by
  unfold getR
  split
  · simp
  · split <;> simp
def qgetV (L : List Bool) (p : Nat) (b l : Int) : Int × Nat × Nat := if fIs b l = false then (0, 3, p) else if (getR L p b).2.1 = 0 then (l + (getR L p b).1, 0, (getR L p b).2.2) else (0, (getR L p b).2.1, (getR L p b).2.2)

set_option maxHeartbeats 8000000 in
set_option maxRecDepth 100000 in
theorem quant_Get (s : ByteArray) (b l : Int) (ls : List Int) (g m c p : Nat) (a : Option Addr) (w : World) (hl : ls.length = m) (hm : m ≤ 140737488355328) (hp : p ≤ 8 * m) (hu : By8 ls) (hin : IntsAt .u8 w a ls) (ha : ∀ x, a = some x → x.block ≠ g) (hg : RdBlock w g a m c p) :
    Calls Try.prog 66 #[.pointer (some ⟨g, 0, none⟩), .agg #[.string s, .int .i64 b, .int .i64 l]] w fun e w' => QGetPost w g a m c (qgetV (bitsOf ls) p b l).2.2 (.tuple #[.int .i64 (qgetV (bitsOf ls) p b l).1, .int .i64 (qgetV (bitsOf ls) p b l).2.1]) w' e := by
  have hb := (Below.refl w.heap.size w).alloc (Nat.le_refl _) (.cells #[.string s, .int .i64 b, .int .i64 l] 92)
  have hf0 : FAt (w.alloc (.cells #[.string s, .int .i64 b, .int .i64 l] 92)) w.heap.size s b l := heap_alloc_new w _
  have HF := Lib.hid hf0
  have CK := quant_Check s b l
  have HG := Lib.hid hg
  unfold qgetV
  cases hf : fIs b l with
  | false =>
    rw [if_pos rfl]
    rw [hf, if_neg (by simp)] at CK
    have CK := Lib.hid CK
    clear hf hin ha hu hg hf0 hl
    go_enter Try.func66, Try.ntmps66
    go_wp2_with fail
    refine (CK.out _).mono ?_
    rintro e w1 ⟨rfl, hb1⟩
    have hb2 := hb.trans (hb1.mono hb.size)
    clear hb1 hb
    go_wp2_with fail
    go_ret2
    exact ⟨rfl, heap_below HG.out hb2, gb_below hb2⟩
  | true =>
    obtain ⟨h1, h2, h3⟩ := fIs_true hf
    rw [if_neg (by simp)]
    rw [hf, if_pos rfl] at CK
    have CK := Lib.hid CK
    have cg := fun (W : World) (hb : Below w.heap.size w W) => rd_Get_any ls g m c p b a W hl hm hp hu (hin.below hb) ha (heap_below hg hb)
    obtain ⟨hv, hz⟩ := getR_32 (bitsOf ls) p b h2
    have he14 := getR_err (bitsOf ls) p b
    obtain ⟨⟨v, e, q⟩, hR⟩ : ∃ R, R = getR (bitsOf ls) p b := ⟨_, rfl⟩
    rw [← hR] at cg hv hz he14 ⊢
    replace hv : v < 4294967296 := hv
    replace hz : e ≠ 0 → v = 0 := hz
    replace he14 : e ≤ 14 := he14
    have CG := Lib.hid cg
    have hlb := lim_bd l
    rw [← h3] at hlb
    obtain ⟨hl1, hl2⟩ := hlb
    clear hf h3 hin ha hu hg hf0 hl cg hR
    by_cases h0 : e = 0
    · subst h0
      rw [if_pos rfl]
      have e1 : IntKind.i64.wrap (v : Int) = v := by rw [IntKind.wrap_i64]; omega
      clear hz
      go_enter Try.func66, Try.ntmps66
      go_wp2_with fail
      refine (CK.out _).mono ?_
      rintro e w1 ⟨rfl, hb1⟩
      have hb2 := hb.trans (hb1.mono hb.size)
      have HF1 := Lib.hid (HF.out.below hb1)
      obtain ⟨k0, k1, k2⟩ := HF1.out.cells
      clear hb1 hb
      go_wp2_with fail
      refine (CG.out _ hb2).mono ?_
      rintro e w2 ⟨rfl, hr, hgb, hsz⟩
      have hne : some w.heap.size ≠ some g := fun h => by injection h with h; have := lt_of_heap HG.out; omega
      have HF2 := Lib.hid (show FAt w2 w.heap.size s b l from heap_gb HF1.out hgb hne)
      have HR := Lib.hid hr
      clear k0 k1 k2 hr hsz hne
      obtain ⟨k0, k1, k2⟩ := HF2.out.cells
      go_wp2_with fail
      go_ret2
      exact ⟨rfl, HR.out, gb_trans (gb_below hb2) hgb⟩
    · rw [if_neg h0]
      have e0 : ((e : Int) != 0) = true := by simp; omega
      clear hz h0
      go_enter Try.func66, Try.ntmps66
      go_wp2_with fail
      refine (CK.out _).mono ?_
      rintro e w1 ⟨rfl, hb1⟩
      have hb2 := hb.trans (hb1.mono hb.size)
      have HF1 := Lib.hid (HF.out.below hb1)
      obtain ⟨k0, k1, k2⟩ := HF1.out.cells
      clear hb1 hb
      go_wp2_with fail
      refine (CG.out _ hb2).mono ?_
      rintro e w2 ⟨rfl, hr, hgb, hsz⟩
      have HR := Lib.hid hr
      clear k0 k1 k2 hr hsz
      go_wp2_with fail
      go_ret2
      exact ⟨rfl, HR.out, gb_trans (gb_below hb2) hgb⟩
end Go.Proofs.Ytdhaaeaacbnghaa
