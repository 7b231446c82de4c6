/- Lemmas for the law WorldSpawns: WRoom, MapTo, FEnd, InsI. No conditions. -/
import Derived.Test.YtfckbkhnelgjbaaGreatDoorM04
import Derived.Test.YtfckbkhnelgjbaaGreatDoorM21
import Derived.Test.YtfckbkhnelgjbaaGreatDoorM07
import Derived.Test.YtfckbkhnelgjbaaGreatDoorM06
import Derived.Test.YtfckbkhnelgjbaaGreatDoorM02
import Derived.Test.YtfckbkhnelgjbaaGreatDoorRows
import Derived.Test.YtfckbkhnelgjbaaGreatDoorM01
import Derived.Shelf.Spec.SlicesInsert
import Derived.Lib.AppendZerosOnto
import Derived.Laws.CopyRow
import Derived.Laws.NewBlocks
import Derived.Deep.DeepMust
/- The reference's Room. -/
section
namespace Go.Proofs.YtfckbkhnelgjbaaGreatDoor
open Go.ChangeShapes Go.WideShapes Go.ChangeAt Go.RowKit Go.Nm Go.Mem Go.Maps
set_option linter.unusedVariables false
def partP (f : FlatV) (i : Nat) : Bool := (f.parts i).isNone && decide (f.gens.getD i 0 < 1073741824)
def roomN (f : FlatV) : Nat := firstP (partP f) f.gens.length
def roomOk (f : FlatV) : Bool := decide (roomN f < f.gens.length) || decide (f.gens.length < 256)
set_option maxHeartbeats 4000000 in
set_option maxRecDepth 20000 in
theorem flat_Room (f : FlatV) (p : Nat) (W : World) (hf : FlatAt W p f) (hg : f.gens.length ≤ 256) :
    Calls Tryz.prog 16 #[.pointer (some ⟨p, 0, none⟩)] W fun e w' => e = .returned (.tuple #[.int .i64 (roomN f), .bool (roomOk f)]) ∧ Below W.heap.size W w' := by
  obtain ⟨ak, ck, ag, cg, base, b, nm, hrow, hzk, hzg, hmo, hk2, hk3⟩ := hf
  obtain ⟨ng, hng⟩ : ∃ ng, ng = f.gens.length := ⟨_, rfl⟩
  obtain ⟨nk, hnk⟩ : ∃ nk, nk = f.kinds.length := ⟨_, rfl⟩
  rw [← hng, ← hnk] at hrow
  rw [← hng] at hg
  obtain ⟨RN, hRN⟩ : ∃ RN, RN = roomN f := ⟨_, rfl⟩
  obtain ⟨RO, hRO⟩ : ∃ RO, RO = roomOk f := ⟨_, rfl⟩
  have ho : RO = (decide (RN < ng) || decide (ng < 256)) := by rw [hRO, hRN, hng]; rfl
  have hn : RN = firstP (partP f) ng := by rw [hRN, hng]; rfl
  rw [← hRN, ← hRO]
  have HO := Lib.hid ho
  have HN := Lib.hid hn
  have HROW := Lib.hid hrow
  have HZG := Lib.hid hzg
  have HMO := Lib.hid hmo
  have NG := Lib.hid hng
  clear hrow hzk hzg hmo hk2 hk3 hng hnk hRN hRO ho hn
  go_enter Tryz.func16, Tryz.ntmps16
  go_wp2_with fail
  go_loopg [5, 4] 256 (fun gk v5 _ wx => ∃ i : Nat, i ≤ 256 ∧ i ≤ ng ∧ gk = 256 - i ∧ v5 = .int .i64 i ∧ (∀ j, j < i → partP f j = false) ∧ Below W.heap.size W wx)
  case atStart => exact ⟨0, Nat.zero_le _, Nat.zero_le _, rfl, rfl, fun j h => absurd h (by omega), Below.refl _ _⟩
  case round =>
    obtain ⟨i, hi0, hi1, g2, rfl, hat, hb⟩ := hrel
    have G2 := Lib.hid g2
    have HAT := Lib.hid hat
    have HB := Lib.hid hb
    have c1 := cell_of_row _ p 1 _ _ _ (heap_below HROW.out hb)
    have c2 := cell_of_row _ p 2 _ _ _ (heap_below HROW.out hb)
    clear g2 hat hb
    by_cases h256 : i < 256
    · by_cases hi : i < ng
      · obtain ⟨x, rfl, _, _⟩ := HZG.out (by rw [← NG.out]; omega)
        obtain ⟨xb, xo, rfl, hgc⟩ := ints_cell (HZG.out.below HB.out) i (by rw [← NG.out]; exact hi)
        rw [Nat.mul_one] at hgc
        obtain ⟨g, hgv⟩ : ∃ g, g = f.gens.getD i 0 := ⟨_, rfl⟩
        rw [← hgv] at hgc
        obtain ⟨ob, hlk, hln, hls⟩ := MapO.look HMO.out i (by omega)
        have hlk2 := hlk wr HB.out
        have hq := fun wx => run_eql_map_nil (P := Tryz.prog) wx 37 _ _ ob Tryz.underlying37
        have HGV := Lib.hid hgv
        have HLN := Lib.hid hln
        have HLS := Lib.hid hls
        clear hgv hlk hln hls
        have HNX := Lib.hid (fun (h : partP f i = false) => show ∀ j, j < i + 1 → partP f j = false from fun j hj => by
          by_cases e : j < i
          · exact HAT.out j e
          · obtain rfl : j = i := by omega
            exact h)
        cases hG : f.parts i with
        | none =>
          obtain rfl := HLN.out hG
          replace hq : ∀ wx, (binOp .eql 37 (.map none) (.map none)).run Tryz.prog wx = .ok (.bool true) wx := hq
          by_cases hlt : g < 1073741824
          · have HR1 := Lib.hid (show RN = i by rw [HN.out]; exact firstP_at HAT.out (by unfold partP; rw [hG, ← HGV.out, decide_eq_true hlt]; rfl) hi)
            have HR2 := Lib.hid (show RO = true by rw [HO.out, HR1.out, decide_eq_true hi, Bool.true_or])
            clear hG
            go_wp2
            go_ret2
            exact ⟨by rw [HR1.out, HR2.out]; rfl, HB.out⟩
          · have HNX2 := Lib.hid (HNX.out (by unfold partP; rw [← HGV.out, decide_eq_false hlt, Bool.and_false]))
            clear hG
            go_wp2
            go_roundg (256 - (i + 1))
            case measure => rw [G2.out]; omega
            case rel => exact ⟨i + 1, by omega, hi, rfl, by go_num, HNX2.out, HB.out⟩
        | some PF =>
          obtain ⟨bi, m, rfl, _⟩ := HLS.out PF hG
          replace hq : ∀ wx, (binOp .eql 37 (.map (some bi)) (.map none)).run Tryz.prog wx = .ok (.bool false) wx := hq
          have HNX2 := Lib.hid (HNX.out (by unfold partP; rw [hG]; rfl))
          clear hG
          go_wp2
          go_roundg (256 - (i + 1))
          case measure => rw [G2.out]; omega
          case rel => exact ⟨i + 1, by omega, hi, rfl, by go_num, HNX2.out, HB.out⟩
      · obtain rfl : ng = i := by omega
        have HR1 := Lib.hid (show RN = ng by rw [HN.out]; exact firstP_none HAT.out)
        have HR2 := Lib.hid (show RO = true by rw [HO.out, decide_eq_true (p := ng < 256) h256, Bool.or_true])
        go_wp2
        go_ret2
        exact ⟨by rw [HR1.out, HR2.out]; rfl, HB.out⟩
    · obtain rfl : i = 256 := by omega
      have hng : ng = 256 := by omega
      have HR1 := Lib.hid (show RN = ng by rw [HN.out]; exact firstP_none (fun j hj => HAT.out j (by omega)))
      have HR2 := Lib.hid (show RO = false by rw [HO.out, HR1.out, decide_eq_false (Nat.lt_irrefl _), decide_eq_false (by omega)]; rfl)
      clear hng
      go_wp2
      go_ret2
      exact ⟨by rw [HR1.out, HR2.out]; rfl, HB.out⟩
end Go.Proofs.YtfckbkhnelgjbaaGreatDoor
end
/- Maps of the call's own carried from one world to another block by block. -/
section
namespace Go.Proofs.YtfckbkhnelgjbaaGreatDoor
open Go.ChangeShapes Go.WideShapes Go.ChangeAt Go.RowKit Go.Nm Go.Mem Go.Maps
set_option linter.unusedVariables false
theorem IntsU.to {lo : Nat} {w w' : World} {a : Option Addr} {L : List Int} (h : IntsU lo w a L) (hs : w.heap.size ≤ w'.heap.size) (hk : ∀ k, k < w.heap.size → lo ≤ k → (∃ q i v, w.cell? ⟨k, q, none⟩ = some (.int i v)) → w'.heap[k]? = w.heap[k]?) : IntsU lo w' a L :=
  ⟨fun h0 => by
    obtain ⟨x, rfl, hx, hc⟩ := h.ints h0
    obtain ⟨xb, xo, rfl, h1⟩ := ints_cell h.ints 0 h0
    exact ⟨_, rfl, Nat.lt_of_lt_of_le hx hs, fun i hi => by rw [World.cell?_of_block (w := w) (by rw [block_of_add]; exact hk xb hx (h.lo _ rfl) ⟨_, _, _, h1⟩)]; exact hc i hi⟩, h.lo⟩
theorem own_same {w w' : World} {b n : Nat} {D : DataW Value} (h : OwnV w b n D) (e : w'.heap[b]? = w.heap[b]?) : OwnV w' b n D := by
  obtain ⟨es, c, h1, h2⟩ := h
  exact ⟨es, c, e.trans h1, h2⟩
theorem MapI.to {w w' : World} {b n : Nat} {F : Part} (h : MapI w b n F) (hs : w.heap.size ≤ w'.heap.size) (hb : w'.heap[b]? = w.heap[b]?) (hk : ∀ k, k < w.heap.size → b ≤ k → (∃ q i v, w.cell? ⟨k, q, none⟩ = some (.int i v)) → w'.heap[k]? = w.heap[k]?) : MapI w' b n F := by
  obtain ⟨D, h, hF⟩ := h
  refine ⟨D, own_same h hb, fun i => ⟨(hF i).1, fun L hL => ?_⟩⟩
  obtain ⟨a, c, h1, h2⟩ := (hF i).2 L hL
  exact ⟨a, c, h1, h2.to hs hk⟩
theorem MapI.block {w : World} {b n : Nat} {F : Part} (h : MapI w b n F) : ∃ es c, w.heap[b]? = some (.map es c) := by
  obtain ⟨D, h, hF⟩ := h
  exact own_block h
theorem MapO.made {w w' : World} {base b n : Nat} {G : Nat → Option Part} {D : DataW Value} {B : Nat → Nat} (hD : OwnV w b n D) (hG : ∀ i : Nat, Maps.has D (keyN i) = (G i).isSome ∧ (G i = none → D.atKey (keyN i) (.held (.map none)) = .held (.map none)) ∧ ∀ F, G i = some F → D.atKey (keyN i) (.held (.map none)) = .held (.map (some (B i))) ∧ base ≤ B i ∧ B i ≠ b ∧ (∃ m, MapI w' (B i) m F) ∧ ∀ j, (G j).isSome = true → B j = B i → j = i)
    (k : Nat) (F : Part) (bi m : Nat) (hF : MapI w' bi m F) (hbb : base ≤ bi) (hbi : bi ≠ b) (hfr : ∀ j F', G j = some F' → B j ≠ bi) (h' : OwnV w' b (n + 1) (D.put (keyN k) (.held (.map (some bi))))) : MapO w' base b (n + 1) (updF G k F) := by
  refine ⟨_, fun i => if i = k then bi else B i, h', fun i => ?_⟩
  by_cases e : i = k
  · subst e
    refine ⟨?_, ?_, fun F' hF' => ?_⟩
    · rw [updF_same, Maps.has_put_same (World.ownsMap.isMap hD) (show WideAt.IsKeyLit (keyN i) from trivial)]; rfl
    · rw [updF_same]; intro h; cases h
    · rw [updF_same] at hF'
      injection hF' with hF'
      subst hF'
      simp only [if_pos]
      refine ⟨Maps.atKey_put_same (World.ownsMap.isMap hD) (show WideAt.IsKeyLit (keyN i) from trivial) _ _, hbb, hbi, ⟨m, hF⟩, fun j hj hB => ?_⟩
      by_cases ej : j = i
      · exact ej
      · rw [updF_other G F ej] at hj
        rw [if_neg ej] at hB
        obtain ⟨F2, hF2⟩ := Option.isSome_iff_exists.1 hj
        exact absurd hB (hfr j F2 hF2)
  · refine ⟨?_, ?_, fun F' hF' => ?_⟩
    · rw [updF_other G F e, Maps.has_put_other (keyN_ne e)]; exact (hG i).1
    · rw [updF_other G F e, Maps.atKey_put_other (keyN_ne e)]; exact (hG i).2.1
    · rw [updF_other G F e] at hF'
      obtain ⟨h1, h0, h2, ⟨m2, h3⟩, h4⟩ := (hG i).2.2 F' hF'
      simp only [if_neg e]
      refine ⟨by rw [Maps.atKey_put_other (keyN_ne e)]; exact h1, h0, h2, ⟨m2, h3⟩, fun j hj hB => ?_⟩
      by_cases ej : j = k
      · subst ej
        rw [if_pos rfl] at hB
        exact absurd hB.symm (hfr i F' hF')
      · rw [updF_other G F ej] at hj
        rw [if_neg ej] at hB
        exact h4 j hj hB
end Go.Proofs.YtfckbkhnelgjbaaGreatDoor
end
/- What a Flat is behind the reference's Spawn: carried block by block. -/
section
namespace Go.Proofs.YtfckbkhnelgjbaaGreatDoor
open Go.ChangeShapes Go.WideShapes Go.ChangeAt Go.RowKit Go.Nm Go.Mem Go.Maps
set_option linter.unusedVariables false
/-- the blocks that hold a string are as they were -/
def StrKeep (w w' : World) : Prop := ∀ g, (∃ i s, w.cell? ⟨g, i, none⟩ = some (.string s)) → w'.heap[g]? = w.heap[g]?
theorem cell_keep {w w' : World} {p : Addr} (e : w'.heap[p.block]? = w.heap[p.block]?) : w'.cell? p = w.cell? p := World.cell?_of_block e
theorem str_addr {w : World} {x : Addr} {s : ByteArray} (h : w.cell? x = some (.string s)) : ∃ i s, w.cell? ⟨x.block, i, none⟩ = some (.string s) := by
  have hs := World.cell?_spot h
  obtain ⟨xb, xo, sp⟩ := x
  have : sp = none := by simpa using hs
  subst this
  exact ⟨xo, s, h⟩
theorem flds_keep {w w' : World} {a : Option Addr} {l : List FieldV} (h : SlAt 3 FieldAt w a l) (hs : w.heap.size ≤ w'.heap.size) (hk : StrKeep w w') : SlAt 3 FieldAt w' a l := fun h0 => by
  obtain ⟨x, e, h1, h2⟩ := h h0
  refine ⟨x, e, Nat.lt_of_lt_of_le h1 hs, fun i hi => ?_⟩
  have hb : w'.heap[x.block]? = w.heap[x.block]? := by
    obtain ⟨c0, _⟩ := h2 0 (by omega)
    have := hk _ (str_addr c0)
    rwa [block_of_add] at this
  obtain ⟨k0, k1, k2, k3⟩ := h2 i hi
  exact ⟨(cell_keep (by rw [block_of_add]; exact hb)).trans k0, (cell_keep (by show w'.heap[(x.add (i * 3)).block]? = _; rw [block_of_add]; exact hb)).trans k1, (cell_keep (by show w'.heap[(x.add (i * 3)).block]? = _; rw [block_of_add]; exact hb)).trans k2, k3⟩
theorem kinds_keep {w w' : World} {a : Option Addr} {l : List KindV} (h : SlAt 2 KindAt w a l) (hs : w.heap.size ≤ w'.heap.size) (hk : StrKeep w w') : SlAt 2 KindAt w' a l := fun h0 => by
  obtain ⟨x, e, h1, h2⟩ := h h0
  refine ⟨x, e, Nat.lt_of_lt_of_le h1 hs, fun i hi => ?_⟩
  have hb : w'.heap[x.block]? = w.heap[x.block]? := by
    obtain ⟨c0, _⟩ := h2 0 (by omega)
    have := hk _ (str_addr c0)
    rwa [block_of_add] at this
  obtain ⟨k0, k1, a2, c2, k2, k3, k4, k5⟩ := h2 i hi
  exact ⟨(cell_keep (by rw [block_of_add]; exact hb)).trans k0, k1, a2, c2, (cell_keep (by show w'.heap[(x.add (i * 2)).block]? = _; rw [block_of_add]; exact hb)).trans k2, k3, k4, flds_keep k5 hs hk⟩
theorem put_gb {w w2 : World} {g : Nat} {t : TypeId} {cs : Array Value} (h : PutR w w2 g t cs) : w.grownBy w2 (some g) := ⟨h.os, h.tape, h.output, by rw [h.size]; exact Nat.le_refl _, fun k _ hne => h.else_ k (fun e => hne (by rw [e]))⟩
theorem mapo_end {W w2 w10 : World} {p b nm bm mm k0 : Nat} {G : Nat → Option Part} {F : Part} {D : DataW Value} {B : Nat → Nat} {vg : Value} {cs : Array Value} {t : TypeId} {fr : Nat × Nat} (hown : OwnV W b nm D)
    (hG : ∀ i : Nat, Maps.has D (keyN i) = (G i).isSome ∧ (G i = none → D.atKey (keyN i) (.held (.map none)) = .held (.map none)) ∧ ∀ F, G i = some F → D.atKey (keyN i) (.held (.map none)) = .held (.map (some (B i))) ∧ b ≤ B i ∧ B i ≠ b ∧ (∃ m, MapI W (B i) m F) ∧ ∀ j, (G j).isSome = true → B j = B i → j = i)
    (hp : W.heap[p]? = some (.cells cs t fr)) (hni : ∀ (q : Nat) (i : IntKind) (v : Int), cs[q]? ≠ some (Value.int i v)) (hg : ∀ g, vg.ownBlock = some g → g < b)
    (hs : ∀ k, k < W.heap.size → k ≠ p → (∀ g, vg.ownBlock = some g → k ≠ g) → k ≠ b → w10.heap[k]? = W.heap[k]?) (hsz : W.heap.size ≤ w10.heap.size) (hm : MapI w2 bm mm F) (hbm : W.heap.size + 1 ≤ bm) (hs2 : ∀ k, k < w2.heap.size → W.heap.size + 1 ≤ k → w10.heap[k]? = w2.heap[k]?) (hsz2 : w2.heap.size ≤ w10.heap.size)
    (ho : OwnV w10 b (nm + 1) (D.put (keyN k0) (.held (.map (some bm))))) : MapO w10 b b (nm + 1) (updF G k0 F) := by
  have hbl := World.ownsMap.lt hown
  refine MapO.made (base := b) (B := B) hown (fun j => ⟨(hG j).1, (hG j).2.1, fun F' hF => ?_⟩) k0 F bm mm (hm.to hsz2 (hs2 _ hm.lt hbm) (fun k h1 h2 _ => hs2 k h1 (by omega))) (by omega) (by omega) (fun j F' h e => ?_) ho
  · obtain ⟨h1, h0, h2, ⟨m, h3⟩, h4⟩ := (hG j).2.2 F' hF
    obtain ⟨es, c, hbk⟩ := h3.block
    have hbp : B j ≠ p := fun e => by rw [e, hp] at hbk; cases hbk
    refine ⟨h1, h0, h2, ⟨m, h3.to hsz (hs _ h3.lt hbp (fun g hv e => by have := hg g hv; omega) h2) (fun k k1 k2 k3 => ?_)⟩, h4⟩
    obtain ⟨q, i, v, hc⟩ := k3
    refine hs k k1 (fun e => ?_) (fun g hv e => by have := hg g hv; omega) (fun e => ?_)
    · subst e
      exact hni _ _ _ ((cell_of_row _ _ q _ _ _ hp).symm.trans hc)
    · subst e
      rw [own_nocell hown] at hc
      cases hc
  · obtain ⟨_, _, _, ⟨m, h3⟩, _⟩ := (hG j).2.2 F' h
    have := h3.lt
    omega
theorem row_noint {a : Option Addr} {n c b : Nat} {vg : Value} (hv : ∃ g m d, vg = .slice g m d) (q : Nat) (i : IntKind) (v : Int) : (#[.slice a n c, vg, .map (some b)] : Array Value)[q]? ≠ some (Value.int i v) := by
  obtain ⟨g, m, d, rfl⟩ := hv
  match q with
  | 0 => simp
  | 1 => simp
  | 2 => simp
  | q + 3 => simp
theorem row_nostr {a : Option Addr} {n c b : Nat} {vg : Value} (hv : ∃ g m d, vg = .slice g m d) (q : Nat) (s : ByteArray) : (#[.slice a n c, vg, .map (some b)] : Array Value)[q]? ≠ some (Value.string s) := by
  obtain ⟨g, m, d, rfl⟩ := hv
  match q with
  | 0 => simp
  | 1 => simp
  | 2 => simp
  | q + 3 => simp
/-- the Flat at the end: w2 the world behind the look for a slot, w9 behind the map's update, W10 behind the store of the entity's row -/
theorem fspawn_end {base p b nm bm mm ck cg c9 RN : Nat} {ak ag a9 : Option Addr} {f : FlatV} {L9 : List Int} {FM : Part} {D : DataW Value} {B : Nat → Nat} {W w2 w9 W10 : World} {cs : Array Value} {t : TypeId}
    (hrow : W.heap[p]? = some (.cells #[.slice ak f.kinds.length ck, .slice ag f.gens.length cg, .map (some b)] 96 (0, 0))) (hzk : SlAt 2 KindAt W ak f.kinds) (hck : f.kinds.length ≤ ck ∧ ck ≤ 9223372036854775807)
    (hgo : W.ownsRow base 3 1 (.slice ag f.gens.length cg) f.gens.length (vints .i64 f.gens)) (hlt : ∀ g, (Value.slice ag f.gens.length cg).ownBlock = some g → g < b ∧ NoStr W g) (hbp : base ≤ p) (hbb : base ≤ b) (hown : OwnV W b nm D)
    (hG : ∀ i : Nat, Maps.has D (keyN i) = (f.parts i).isSome ∧ (f.parts i = none → D.atKey (keyN i) (.held (.map none)) = .held (.map none)) ∧ ∀ F, f.parts i = some F → D.atKey (keyN i) (.held (.map none)) = .held (.map (some (B i))) ∧ b ≤ B i ∧ B i ≠ b ∧ (∃ m, MapI W (B i) m F) ∧ ∀ j, (f.parts j).isSome = true → B j = B i → j = i)
    (hB : Below W.heap.size W w2) (hw2 : W.heap.size + 1 ≤ w2.heap.size) (hent : w2.heap[W.heap.size]? = some (.cells cs t (0, 0))) (hcs : ∀ (q : Nat) (s : ByteArray), cs[q]? ≠ some (Value.string s))
    (hmi : MapI w2 bm mm FM) (hbm : W.heap.size + 1 ≤ bm)
    (hs9 : ∀ k, k < w2.heap.size → k ≠ p → (∀ g, (Value.slice ag f.gens.length cg).ownBlock = some g → k ≠ g) → k ≠ b → w9.heap[k]? = w2.heap[k]?) (hz9 : w2.heap.size ≤ w9.heap.size) (hot : w9.os = w2.os ∧ w9.tape = w2.tape ∧ w9.output = w2.output)
    {cs2 : Array Value} (hput : PutR w9 W10 W.heap.size 29 cs2)
    (h9p : w9.heap[p]? = some (.cells #[.slice ak f.kinds.length ck, .slice a9 L9.length c9, .map (some b)] 96 (0, 0))) (hg9 : w9.ownsRow base 3 1 (.slice a9 L9.length c9) L9.length (vints .i64 L9)) (hge : ∀ g, (Value.slice a9 L9.length c9).ownBlock = some g → g ≠ W.heap.size)
    (ho9 : OwnV w9 b (nm + 1) (D.put (keyN RN) (.held (.map (some bm))))) : FlatAt W10 p ⟨f.kinds, L9, updF f.parts RN FM⟩ ∧ Below base W W10 := by
  have hpl := lt_of_heap hrow
  have hbl := World.ownsMap.lt hown
  have hne : p ≠ W.heap.size := by omega
  have hkeep : ∀ k, k < W.heap.size → k ≠ p → (∀ g, (Value.slice ag f.gens.length cg).ownBlock = some g → k ≠ g) → k ≠ b → W10.heap[k]? = W.heap[k]? := fun k h1 h2 h3 h4 => (hput.else_ k (by omega)).trans ((hs9 k (by omega) h2 h3 h4).trans (hB.block k h1))
  have hs10 : W.heap.size ≤ W10.heap.size := by rw [hput.size]; omega
  refine ⟨⟨ak, ck, a9, c9, b, b, nm + 1, (hput.else_ p hne).trans h9p, ?_, ?_, ?_, hck⟩, ?_⟩
  · refine kinds_keep hzk hs10 (fun g ⟨i, s, hc⟩ => ?_)
    have hgl : g < W.heap.size := World.block_lt_of_cell? _ _ hc
    refine hkeep g hgl (fun e => ?_) (fun g' hg' e => ?_) (fun e => ?_)
    · subst e
      exact row_nostr ⟨_, _, _, rfl⟩ i s ((cell_of_row _ _ i _ _ _ hrow).symm.trans hc)
    · subst e
      exact (hlt g hg').2 i s hc
    · subst e
      rw [own_nocell hown] at hc
      cases hc
  · exact IntsAt.of_own (own_grown hg9 (put_gb hput) (fun g hg e => hge g hg (by injection e))) rfl
  · exact mapo_end (vg := .slice ag f.gens.length cg) hown hG hrow (row_noint ⟨_, _, _, rfl⟩) (fun g hg => (hlt g hg).1) hkeep hs10 hmi hbm (fun k h1 h2 => (hput.else_ k (by omega)).trans (hs9 k h1 (by omega) (fun g hg e => by have := (hlt g hg).1; omega) (by omega))) (by rw [hput.size]; exact hz9) (own_same ho9 (hput.else_ b (by omega)))
  · refine ⟨hput.os.trans (hot.1.trans hB.os), hput.tape.trans (hot.2.1.trans hB.tape), hput.output.trans (hot.2.2.trans hB.output), hs10, fun k hk => hkeep k (by omega) (by omega) (fun g hg e => ?_) (by omega)⟩
    have := (own_lt hgo g hg).1
    omega
end Go.Proofs.YtfckbkhnelgjbaaGreatDoor
end
/- slices.Insert of one item into a full slice of items. -/
section
namespace Go.Proofs.YtfckbkhnelgjbaaGreatDoor
open Go.ChangeShapes Go.WideShapes Go.ChangeAt Go.RowKit Go.Mem Go.Lib Go.Shelf
set_option linter.unusedVariables false
set_option linter.unusedSimpArgs false
theorem run_copy_rowK {P : Program} (w : World) (dT sT ty elem : TypeId) (k : Nat) (g o dLen dCap : Nat) (a : Addr) (sLen sCap m : Nat) (cur : Array Value) (t : TypeId) (cs : List Value)
    (hu : P.underlying dT = some (.slice elem)) (hs : (P.info? elem).map (·.size) = some k)
    (hg : w.heap[g]? = some (.cells cur t (0, 0))) (hm : m = Nat.min sLen dLen) (hn : cs.length = m * k)
    (hsrc : ∀ j v, cs[j]? = some v → w.cell? (a.add j) = some v) (hfit : o + cs.length ≤ cur.size) (h1 : ∀ v ∈ cs, v.oneCell' = true) :
    (Builtin.copy_ #[dT, sT] ty #[.slice (some ⟨g, o, none⟩) dLen dCap, .slice (some a) sLen sCap]).run P w =
      .ok (goInt m) (w.setRow g (cur.toList.take o ++ cs ++ cur.toList.drop (o + cs.length)).toArray) := by
  have hl := run_loadCells_list (P := P) w a cs hsrc
  have hst := run_storeCells_at P g o t cs 0 cur w hg (by simpa using hfit) h1
  cases hq : P.info? elem with
  | none => simp [hq] at hs
  | some i =>
    have hi : i.size = k := by simpa [hq] using hs
    rw [hn] at hl
    rw [Nat.add_zero] at hst
    simp [Builtin.copy_, run_underlying hu, Builtin.lenOf, Builtin.firstCells, sizeOf, typeInfo, hq, hi, ← hm, hl, hst]
theorem splice_take {α : Type} (cs vs zs : List α) (p q : Nat) (hp : p ≤ cs.length) (hv : vs.length = q) (hz : cs.length - p + q ≤ zs.length) :
    ((((cs.take p ++ zs).take p ++ vs ++ (cs.take p ++ zs).drop (p + q)).take (p + q) ++ cs.drop p ++ ((cs.take p ++ zs).take p ++ vs ++ (cs.take p ++ zs).drop (p + q)).drop (p + q + (cs.drop p).length)).take (cs.length + q)) = cs.take p ++ vs ++ cs.drop p := by
  have e1 : (cs.take p).length = p := by rw [List.length_take]; omega
  have e2 : (cs.take p ++ zs).take p = cs.take p := by
    rw [List.take_append_of_le_length (by omega), List.take_of_length_le (by omega)]
  rw [e2]
  have e3 : (cs.take p ++ vs ++ (cs.take p ++ zs).drop (p + q)).take (p + q) = cs.take p ++ vs := by
    rw [List.take_append_of_le_length (by rw [List.length_append]; omega), List.take_of_length_le (by rw [List.length_append]; omega)]
  rw [e3, List.take_append_of_le_length (by simp only [List.length_append, List.length_drop]; omega), List.take_of_length_le (by simp only [List.length_append, List.length_drop]; omega)]
set_option maxHeartbeats 8000000 in
set_option maxRecDepth 100000 in
theorem ins_items (cs vs : List Value) (b n i vb : Nat) (W : World) (hown : W.ownsRow b 61 3 (.slice (some ⟨b, 0, none⟩) n n) n cs) (hin : i ≤ n) (hn : n ≤ 1048576) (hvl : vs.length = 3) (hvs : ∀ j v, vs[j]? = some v → W.cell? ⟨vb, j, none⟩ = some v) (h1c : ∀ v ∈ cs, v.oneCell' = true) (h1v : ∀ v ∈ vs, v.oneCell' = true) :
    Calls Tryz.prog 38 #[.slice (some ⟨b, 0, none⟩) n n, .int .i64 i, .slice (some ⟨vb, 0, none⟩) 1 1] W fun e w' => ∃ v', e = .returned v' ∧ w'.ownsRow b 61 3 v' (n + 1) (cs.take (i * 3) ++ vs ++ cs.drop (i * 3)) ∧ W.grownBy w' (some b) := by
  have hcl : cs.length = n * 3 := hown.1
  have hcs : ∀ j v, cs[j]? = some v → W.cell? ⟨b, j, none⟩ = some v := fun j v hj => by
    have hj2 : j < n * 3 := by rw [← hcl]; exact (List.getElem?_eq_some_iff.1 hj).1
    rw [hown.cellAt j hj2]; exact hj
  have hbl : b < W.heap.size := by
    rcases hown.2 with ⟨h, _⟩ | ⟨g, cap, cur, h, _, hh, _⟩
    · cases h
    · injection h with h _ _
      injection h with h
      injection h with h
      rw [h]; exact lt_of_heap hh
  have hvw : vb < W.heap.size := block_lt_of_cell (hvs 0 _ (List.getElem?_eq_getElem (by omega)))
  obtain ⟨i0, hi0, hz0, hzs, hzb⟩ := info_parts (show (Tryz.prog.info? 61).map (fun i => (i.zero, i.size, i.bytes)) = some (some (.agg #[.int .i64 0, .int .i64 0, .slice none 0 0]), 3, 40) by kernel_rfl)
  have hsz : (Tryz.prog.info? 61).map (·.size) = some 3 := by rw [hi0]; simp [hzs]
  by_cases hie : i = n
  · subst hie
    have HE := Lib.hid (show cs.take (i * 3) ++ vs ++ cs.drop (i * 3) = cs ++ vs by rw [List.take_of_length_le (by omega), List.drop_of_length_le (by omega), List.append_nil])
    have hca : CellsAt W (some ⟨vb, 0, none⟩) vs := fun _ => ⟨_, rfl, hvw, fun j u hj => by rw [add_zero_block]; exact hvs j u hj⟩
    rw [HE.out]
    clear hcs hcl hi0 hz0 hzs hzb hsz hvs h1c
    go_enter Tryz.func38, Tryz.ntmps38
    go_wp2_with (at_builtin; go_must (refine wpList_append_cells rfl _ _ 24 rfl b 61 (.agg #[.int .i64 0, .int .i64 0, .slice none 0 0]) 3 40 Tryz.underlying24 (by kernel_rfl) rfl (by decide) _ i cs rfl hown (some ⟨vb, 0, none⟩) 1 1 vs rfl (by omega) hca h1v (by unfold maxLen; omega) (by omega) (by omega) ?_); intro v3 w3 hown3 hg3 hat3; have HO3 := Lib.hid hown3; have HG3 := Lib.hid hg3; clear hown3 hg3 hat3)
    go_ret
    exact ⟨_, rfl, HO3.out, HG3.out⟩
  · have hlt : i < n := by omega
    have hz1 : ¬ ((i : Int) = (n : Int)) := by omega
    have hz3 : (n : Int) < (n : Int) + 1 := by omega
    have hkk : (n : Int) + 1 - (i : Int) = ((n + 1 - i : Nat) : Int) := by omega
    have hik : i + (n + 1 - i) = n + 1 := by omega
    have hold : (Builtin.firstCells i0.size i (.slice (some ⟨b, 0, none⟩) i n)).run Tryz.prog W.drew = .ok (cs.take (i * 3)).toArray W.drew := by
      rw [hzs]
      exact run_firstCells_some W.drew 3 i ⟨b, 0, none⟩ i n (cs.take (i * 3)) (by rw [List.length_take]; omega) (fun j v hj => by
        rw [add_zero_block]
        rw [List.getElem?_take] at hj
        split at hj
        · exact hcs j v hj
        · cases hj)
    obtain ⟨G, hG⟩ : ∃ G, G = grownCap W (n + 1) n 61 := ⟨_, rfl⟩
    obtain ⟨Z, hZ⟩ : ∃ Z : List Value, Z = (Builtin.zeroCells (Value.agg #[.int .i64 0, .int .i64 0, .slice none 0 0]).cells (n + 1 - i)).toList ++ (Builtin.zeroCells (Value.agg #[.int .i64 0, .int .i64 0, .slice none 0 0]).cells (G - (n + 1))).toList := ⟨_, rfl⟩
    obtain ⟨ROW, hROW⟩ : ∃ ROW : Array Value, ROW = (cs.take (i * 3) ++ Z).toArray := ⟨_, rfl⟩
    have hrz : ∀ ty, (Builtin.append_ #[24, 3] ty #[.slice (some ⟨b, 0, none⟩) i n, .int .i64 ((n : Int) + 1 - (i : Int))]).run Tryz.prog W = .ok (.slice (some ⟨W.heap.size, 0, none⟩) (n + 1) G) (W.drew.alloc (.cells ROW 61)) := fun ty => by
      have h := Lib.run_append_grow_zeros W 24 3 ty 61 i0 _ .i64 .i64 Tryz.underlying24 Tryz.underlying3 hi0 hz0 (some ⟨b, 0, none⟩) i n (cs.take (i * 3)) hold (n + 1 - i) (by omega) (by omega) (by omega) (by omega) (by rw [hzb]; omega) (by rw [hzb, hik]; exact growslice_fits (by omega) (by omega))
      rw [hik, ← hG] at h
      rw [hkk, h, hROW, hZ]
      congr 3
      apply Array.toList_inj.1
      simp [List.append_assoc]
    have hGn : n + 1 ≤ G := by rw [hG]; exact grownCap_ge W _ _ _
    have hG63 : G ≤ 9223372036854775807 := by
      have := grownCap_le_maxLen W (n + 1) n 61 (by unfold maxLen; omega)
      rw [← hG] at this
      unfold maxLen at this
      omega
    have hZl : Z.length = (G - i) * 3 := by
      rw [hZ]
      simp [Builtin.zeroCells, Value.cells]
      omega
    have hRl : ROW.toList.length = G * 3 := by
      rw [hROW]
      simp [hZl]
      omega
    obtain ⟨cur1, hc1⟩ : ∃ c : Array Value, c = (ROW.toList.take (i * 3) ++ vs ++ ROW.toList.drop (i * 3 + vs.length)).toArray := ⟨_, rfl⟩
    obtain ⟨cur2, hc2⟩ : ∃ c : Array Value, c = (cur1.toList.take ((i + 1) * 3) ++ cs.drop (i * 3) ++ cur1.toList.drop ((i + 1) * 3 + (cs.drop (i * 3)).length)).toArray := ⟨_, rfl⟩
    have hc1l : cur1.size = G * 3 := by rw [hc1]; simp only [List.size_toArray, List.length_append, List.length_take, List.length_drop, hRl, hvl]; omega
    have hdl : (cs.drop (i * 3)).length = (n - i) * 3 := by rw [List.length_drop, hcl]; omega
    have hc2l : cur2.size = G * 3 := by rw [hc2]; simp only [List.size_toArray, List.length_append, List.length_take, List.length_drop, Array.length_toList, hc1l, hcl]; omega
    have hcpA : ∀ (w : World), w.heap[W.heap.size]? = some (.cells ROW 61 (0, 0)) → (∀ k, k < W.heap.size → w.heap[k]? = W.heap[k]?) → ∀ ty dc, (Builtin.copy_ #[24, 24] ty #[.slice (some ⟨W.heap.size, i * 3, none⟩) (n + 1 - i) dc, .slice (some ⟨vb, 0, none⟩) 1 1]).run Tryz.prog w = .ok (goInt 1) (w.setRow W.heap.size cur1) := fun w hw hold ty dc => by
      rw [hc1]
      exact run_copy_rowK w _ _ ty 61 3 W.heap.size (i * 3) (n + 1 - i) dc ⟨vb, 0, none⟩ 1 1 1 ROW 61 vs Tryz.underlying24 hsz hw (by simp only [Nat.min_def]; split <;> omega) (by omega)
        (fun j v hj => by rw [add_zero_block, World.cell?_of_block (hold vb hvw)]; exact hvs j v hj) (by rw [← Array.length_toList, hRl, hvl]; omega) h1v
    have hcpB : ∀ (w : World), w.heap[W.heap.size]? = some (.cells cur1 61 (0, 0)) → (∀ k, k < W.heap.size → w.heap[k]? = W.heap[k]?) → ∀ ty dc sc, (Builtin.copy_ #[24, 24] ty #[.slice (some ⟨W.heap.size, (i + 1) * 3, none⟩) (n + 1 - (i + 1)) dc, .slice (some ⟨b, i * 3, none⟩) (n - i) sc]).run Tryz.prog w = .ok (goInt ((n - i : Nat) : Int)) (w.setRow W.heap.size cur2) := fun w hw hold ty dc sc => by
      rw [hc2]
      exact run_copy_rowK w _ _ ty 61 3 W.heap.size ((i + 1) * 3) (n + 1 - (i + 1)) dc ⟨b, i * 3, none⟩ (n - i) sc (n - i) cur1 61 (cs.drop (i * 3)) Tryz.underlying24 hsz hw (by simp only [Nat.min_def]; split <;> omega) hdl
        (fun j v hj => by rw [Addr.add_lit, World.cell?_of_block (hold b hbl)]; rw [List.getElem?_drop] at hj; exact hcs _ v hj) (by rw [hc1l, hdl]; omega) (fun v hv => h1c v (List.mem_of_mem_drop hv))
    have HFIN := Lib.hid (show cur2.toList.take ((n + 1) * 3) = cs.take (i * 3) ++ vs ++ cs.drop (i * 3) by
      have h := splice_take cs vs Z (i * 3) 3 (by omega) hvl (by rw [hcl, hZl]; omega)
      rw [hcl, show n * 3 + 3 = (n + 1) * 3 by omega] at h
      rw [← h, hc2, hc1, hROW, hvl, show (i + 1) * 3 = i * 3 + 3 by omega])
    have hw0 : ((W.alloc (.cells ROW 61)).drew).heap[W.heap.size]? = some (.cells ROW 61 (0, 0)) := heap_alloc_new W _
    have hlw : ∀ k, k < W.heap.size → ((W.alloc (.cells ROW 61)).drew).heap[k]? = W.heap[k]? := fun k hk => Below.heap_alloc W _ k hk
    have hA := hcpA ((W.alloc (.cells ROW 61)).drew) hw0 hlw 3 (G - i)
    obtain ⟨W2, hW2⟩ : ∃ W2, W2 = ((W.alloc (.cells ROW 61)).drew).setRow W.heap.size cur1 := ⟨_, rfl⟩
    have hw2 : W2.heap[W.heap.size]? = some (.cells cur1 61 (0, 0)) := by rw [hW2]; exact setRow_heap _ _ _ _ _ _ hw0
    have hlw2 : ∀ k, k < W.heap.size → W2.heap[k]? = W.heap[k]? := fun k hk => by rw [hW2, setRow_other _ _ _ _ (by omega)]; exact hlw k hk
    have hsz2 : W2.heap.size = W.heap.size + 1 := by rw [hW2]; simp [World.setRow]
    have hos2 : W2.os = W.os ∧ W2.tape = W.tape ∧ W2.output = W.output := by rw [hW2]; exact ⟨rfl, rfl, rfl⟩
    rw [← hW2] at hA
    have HB := Lib.hid (hcpB W2.drew hw2 hlw2 3)
    have HW2 := Lib.hid hw2
    have HLW2 := Lib.hid hlw2
    have HSZ2 := Lib.hid hsz2
    have HOS2 := Lib.hid hos2
    have hwi : IntKind.i64.wrap ((i : Int) + 1) = (i : Int) + 1 := by rw [IntKind.wrap_i64]; omega
    have htn : ((i : Int) + 1).toNat = i + 1 := by omega
    have hb1 : (0 : Int) ≤ (i : Int) + 1 := by omega
    have hb3 : (i : Int) ≤ (n : Int) := by omega
    have hGi : ¬ (G = i) := by omega
    have hGim : ¬ (G = i + 1) := by omega
    have hni : ¬ (n = i) := by omega
    clear hcpA hcpB hw0 hlw hW2 hw2 hlw2 hsz2 hos2 hold hc1 hc2 hROW hZ hZl hRl hG hdl hkk hik hcs hvs hi0 hz0 hzs hzb hsz h1c h1v
    go_enter Tryz.func38, Tryz.ntmps38
    go_wp2_with (at_builtin; refine Lib.wpList_append_run _ rfl _ _ _ _ rfl _ _ rfl rfl _ _ (hrz _) ?_)
    clear hA hrz
    have mixed : Tryz.prog.follows Departure.mixedOrders = true := rfl
    go_region_law_o (refine step_copy_runI rfl _ _ 24 24 rfl (.slice (some ⟨W.heap.size, (i + 1) * 3, none⟩) (n + 1 - (i + 1)) (G - (i + 1))) (.slice (some ⟨b, i * 3, none⟩) (n - i) (n - i)) (by simp [Act.eval, Act.put]) (by simp [Act.eval, Act.put]) (HB.out (G - (i + 1)) (n - i)) ?_)
    go_wp2
    go_ret
    have hh := setRow_heap W2.drew W.heap.size cur1 cur2 _ _ HW2.out
    refine ⟨_, rfl, ⟨by simp only [List.length_append, List.length_take, List.length_drop]; omega, Or.inr ⟨W.heap.size, G, cur2, rfl, Nat.le_of_lt hbl, hh, hGn, by unfold maxLen; omega, hc2l, HFIN.out⟩⟩, ⟨HOS2.out.1, HOS2.out.2.1, HOS2.out.2.2, ?_, fun k hk hne => ?_⟩⟩
    · have h : (W2.drew.setRow W.heap.size cur2).heap.size = W2.heap.size := by simp [World.setRow]
      rw [h, HSZ2.out]; omega
    · rw [setRow_other _ _ _ _ (by omega)]
      exact HLW2.out k hk
end Go.Proofs.YtfckbkhnelgjbaaGreatDoor
end
