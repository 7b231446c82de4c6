/- Lemmas for the law TopDigestPlace: H6P, SumInts, OutB, WName, WIntsP, H6Leaves. No conditions. -/
import Derived.Test.YtncnbfefciobcaaM11
import Derived.Test.YtncnbfefciobcaaM01
import Derived.Deep.DeepMust
import Derived.OwnWalk
import Derived.Test.YtncnbfefciobcaaM03
import Derived.Test.YtncnbfefciobcaaRows
import Derived.Test.YtncnbfefciobcaaM06
import Derived.Test.YtncnbfefciobcaaM08
import Derived.Deep.LoopGhost
import Derived.Lib.ConvBytes
import Derived.Lib.SmallJoins
import Derived.Test.YtncnbfefciobcaaM09
import Derived.Test.YtncnbfefciobcaaM10
import Derived.Deep.DeepCutAuto
import Derived.RegionTactic
/- A world in which one value is changed: plain; tourmake.Below, told exactly. -/
section
namespace Go.Proofs.Ytncnbfefciobcaa
open Go.ChangeShapes Go.WideShapes Go.ChangeAt Go.RowKit Go.Nm Go.Mem
set_option linter.unusedVariables false
theorem tm_BelowE (x n : Int) (h1 : 1 ≤ n) (h2 : n ≤ 9223372036854775807) (w : World) : Calls Try.prog 23 #[.int .i64 x, .int .i64 n] w fun e w' => e = .returned (.int .i64 (x % n)) ∧ w' = w := by
  obtain ⟨t, ht⟩ : ∃ t, t = x.tmod n := ⟨_, rfl⟩
  have hb : -n < t ∧ t < n := by
    rw [ht]
    rcases Int.le_total 0 x with h | h
    · have := Int.tmod_nonneg n h; have := Int.tmod_lt_of_pos x (show 0 < n by omega); omega
    · have h3 := Int.lt_tmod_of_pos x (show 0 < n by omega); have := Int.tmod_lt_of_pos x (show 0 < n by omega); omega
  have ht' : x.tmod n = t := ht.symm
  have hq : x % n = t % n := by
    have h := Int.tmod_add_mul_tdiv x n
    rw [ht'] at h
    rw [← h, Int.add_mul_emod_self_left]
  have hnb : (n == 0) = false := by simp; omega
  by_cases hneg : t < 0
  · have hr : x % n = t + n := by rw [hq, ← Int.add_emod_right, Int.emod_eq_of_lt (by omega) (by omega)]
    obtain ⟨r, hrr⟩ : ∃ r, r = x % n := ⟨_, rfl⟩
    rw [← hrr] at hr ⊢
    have wr : IntKind.i64.wrap (t + n) = r := by rw [IntKind.wrap_i64]; omega
    clear ht hq hrr hr
    go_enter Try.func23, Try.ntmps23
    go_wp2_with fail
    go_ret
    exact ⟨rfl, rfl⟩
  · have hr : x % n = t := by rw [hq, Int.emod_eq_of_lt (by omega) (by omega)]
    rw [hr]
    clear ht hq hr
    go_enter Try.func23, Try.ntmps23
    go_wp2_with fail
    go_ret
    exact ⟨rfl, rfl⟩
/-- the changed value -/
def newv (b : Int) (f : FieldV) (v : Int) : Int := f.low + (v - f.low + 1 + b % (((2 ^ f.bits.toNat : Nat) : Int) - 1)) % ((2 ^ f.bits.toNat : Nat) : Int)
theorem newv_ok {j : Nat} {f : FieldV} {v : Int} (hf : FldOk j f) (hv : ValOk f v) (b : Int) : ValOk f (newv b f v) ∧ newv b f v ≠ v := by
  obtain ⟨n, hn, hn1, _, _, _⟩ := fld_range hf
  unfold ValOk newv
  unfold ValOk at hv
  have hbn : f.bits.toNat = n := by rw [hn]; rfl
  rw [hbn] at hv ⊢
  have hp : 2 ≤ 2 ^ n := by have := Nat.pow_le_pow_right (show 1 ≤ 2 by decide) hn1; omega
  generalize 2 ^ n = P at hp hv ⊢
  have e1 := Int.emod_nonneg b (show ((P : Nat) : Int) - 1 ≠ 0 by omega)
  have e2 := Int.emod_lt_of_pos b (show 0 < ((P : Nat) : Int) - 1 by omega)
  generalize b % ((P : Int) - 1) = q at e1 e2 ⊢
  have e3 := Int.emod_nonneg (v - f.low + 1 + q) (show (P : Int) ≠ 0 by omega)
  have e4 := Int.emod_lt_of_pos (v - f.low + 1 + q) (show 0 < (P : Int) by omega)
  refine ⟨⟨by omega, by omega⟩, ?_⟩
  by_cases h : v - f.low + 1 + q < P
  · rw [Int.emod_eq_of_lt (by omega) h]; omega
  · have : (v - f.low + 1 + q) % (P : Int) = v - f.low + 1 + q - P := by
      rw [← Int.sub_emod_right, Int.emod_eq_of_lt (by omega) (by omega)]
    rw [this]; omega
def chV (b : Int) (fs : List FieldV) (i : Int) (vs : List Int) : List Int := if 0 ≤ i ∧ i < (vs.length : Int) then vs.set i.toNat (newv b (fs.getD i.toNat default) (vs.getD i.toNat 0)) else vs
def totC (cs : List CompV) : Nat := (cs.map fun c => c.vals.length).sum
def totI (its : List ItemV) : Nat := (its.map fun t => totC t.comps).sum
def fieldsC (ks : List KindV) (c : CompV) : List FieldV := (ks.getD c.kind.toNat default).fields
def chC (b : Int) (ks : List KindV) : Int → List CompV → List CompV
  | _, [] => []
  | i, c :: r => ⟨c.kind, chV b (fieldsC ks c) i c.vals⟩ :: chC b ks (i - (c.vals.length : Int)) r
def chI (b : Int) (ks : List KindV) : Int → List ItemV → List ItemV
  | _, [] => []
  | i, t :: r => ⟨t.n, t.gen, chC b ks i t.comps⟩ :: chI b ks (i - (totC t.comps : Int)) r
def atI : List ItemV → Int → Nat → Nat
  | [], _, _ => 0
  | t :: r, i, k => if 0 ≤ i ∧ i < (totC t.comps : Int) then k else atI r (i - (totC t.comps : Int)) (k + 1)
theorem chV_len (b : Int) (fs : List FieldV) (i : Int) (vs : List Int) : (chV b fs i vs).length = vs.length := by unfold chV; split <;> simp
theorem chC_len (b : Int) (ks : List KindV) : ∀ (cs : List CompV) (i : Int), (chC b ks i cs).length = cs.length
  | [], _ => rfl
  | c :: r, i => by unfold chC; rw [List.length_cons, List.length_cons, chC_len b ks r]
theorem chI_len (b : Int) (ks : List KindV) : ∀ (its : List ItemV) (i : Int), (chI b ks i its).length = its.length
  | [], _ => rfl
  | t :: r, i => by unfold chI; rw [List.length_cons, List.length_cons, chI_len b ks r]
theorem chV_neg (b : Int) (fs : List FieldV) (i : Int) (vs : List Int) (h : ¬ (0 ≤ i ∧ i < (vs.length : Int))) : chV b fs i vs = vs := if_neg h
theorem chC_neg (b : Int) (ks : List KindV) : ∀ (cs : List CompV) (i : Int), ¬ (0 ≤ i ∧ i < (totC cs : Int)) → chC b ks i cs = cs
  | [], _, _ => rfl
  | c :: r, i, h => by
    have ht : totC (c :: r) = c.vals.length + totC r := by unfold totC; rw [List.map_cons, List.sum_cons]
    rw [ht] at h
    unfold chC
    rw [chV_neg _ _ _ _ (by omega), chC_neg b ks r _ (by omega)]
theorem chI_neg (b : Int) (ks : List KindV) : ∀ (its : List ItemV) (i : Int), ¬ (0 ≤ i ∧ i < (totI its : Int)) → chI b ks i its = its
  | [], _, _ => rfl
  | t :: r, i, h => by
    have ht : totI (t :: r) = totC t.comps + totI r := by unfold totI; rw [List.map_cons, List.sum_cons]
    rw [ht] at h
    unfold chI
    rw [chC_neg _ _ _ _ (by omega), chI_neg b ks r _ (by omega)]
/-- where the change stands in a component list -/
theorem chC_split (b : Int) (ks : List KindV) : ∀ (cs : List CompV) (i : Int), 0 ≤ i → i < (totC cs : Int) → ∃ (C1 : List CompV) (c : CompV) (C2 : List CompV) (j : Nat), cs = C1 ++ c :: C2 ∧ j < c.vals.length ∧ chC b ks i cs = C1 ++ ⟨c.kind, c.vals.set j (newv b ((fieldsC ks c).getD j default) (c.vals.getD j 0))⟩ :: C2
  | [], i, h0, h => by unfold totC at h; simp at h; omega
  | c :: r, i, h0, h => by
    have ht : totC (c :: r) = c.vals.length + totC r := by unfold totC; rw [List.map_cons, List.sum_cons]
    rw [ht] at h
    by_cases hc : i < (c.vals.length : Int)
    · refine ⟨[], c, r, i.toNat, rfl, by omega, ?_⟩
      unfold chC
      rw [chC_neg _ _ _ _ (by omega)]
      unfold chV
      rw [if_pos ⟨h0, hc⟩]; rfl
    · obtain ⟨C1, c', C2, j, e1, e2, e3⟩ := chC_split b ks r (i - (c.vals.length : Int)) (by omega) (by omega)
      refine ⟨c :: C1, c', C2, j, by rw [e1]; rfl, e2, ?_⟩
      unfold chC
      rw [chV_neg _ _ _ _ (by omega), e3]; rfl
theorem chI_split (b : Int) (ks : List KindV) : ∀ (its : List ItemV) (i : Int) (k : Nat), 0 ≤ i → i < (totI its : Int) → ∃ (I1 : List ItemV) (t : ItemV) (I2 : List ItemV) (i' : Int), its = I1 ++ t :: I2 ∧ 0 ≤ i' ∧ i' < (totC t.comps : Int) ∧ chI b ks i its = I1 ++ ⟨t.n, t.gen, chC b ks i' t.comps⟩ :: I2 ∧ atI its i k = k + I1.length
  | [], i, k, h0, h => by unfold totI at h; simp at h; omega
  | t :: r, i, k, h0, h => by
    have ht : totI (t :: r) = totC t.comps + totI r := by unfold totI; rw [List.map_cons, List.sum_cons]
    rw [ht] at h
    by_cases hc : i < (totC t.comps : Int)
    · refine ⟨[], t, r, i, rfl, h0, hc, ?_, ?_⟩
      · unfold chI
        rw [chI_neg _ _ _ _ (by omega)]; rfl
      · unfold atI; rw [if_pos ⟨h0, hc⟩]; rfl
    · obtain ⟨I1, t', I2, i', e1, e2, e3, e4, e5⟩ := chI_split b ks r (i - (totC t.comps : Int)) (k + 1) (by omega) (by omega)
      refine ⟨t :: I1, t', I2, i', by rw [e1]; rfl, e2, e3, ?_, ?_⟩
      · unfold chI
        rw [chC_neg _ _ _ _ (by omega), e4]; rfl
      · unfold atI; rw [if_neg (by omega), e5, List.length_cons]; omega
end Go.Proofs.Ytncnbfefciobcaa
end
/- sum.Ints. -/
section
namespace Go.Proofs.Ytncnbfefciobcaa
open Go.ChangeShapes Go.WideShapes Go.ChangeAt Go.RowKit Go.Mem
set_option linter.unusedVariables false

theorem dig_of_u (l o : List Int) (hl : o.length = l.length) (h : ∀ j, j < l.length → o.getD j 0 = (W64.u (l.getD j 0) : Int)) : dig o = dig l ∧ U64s o := by
  have e : o = l.map fun z => (W64.u z : Int) := by
    apply getD_eq_of_ext (by simpa using hl)
    intro j hj
    rw [h j (by omega)]
    have : j < l.length := by omega
    simp [this]
  subst e
  refine ⟨dig_map l, fun z hz => ?_⟩
  obtain ⟨y, _, rfl⟩ := List.mem_map.1 hz
  have := W64.u_lt y
  omega

set_option maxHeartbeats 4000000 in
theorem sum_Ints (a : Option Addr) (cap : Nat) (l : List Int) (hl : l.length ≤ 17592186044416) (w : World) (hin : Mem.IntsAt .i64 w a l) :
    Calls Try.prog 25 #[.slice a l.length cap] w fun e w' => e = .returned (.int .u64 (dig l : Nat)) ∧ Below w.heap.size w w' := by
  obtain ⟨n, hn⟩ : ∃ n, n = l.length := ⟨_, rfl⟩
  rw [← hn]
  have HN := Lib.hid hn
  have HI := Lib.hid hin
  have h63 : n ≤ 17592186044416 := by omega
  clear hin hn hl
  obtain ⟨i0, hi, hz0, hz1, hz2⟩ := info_parts (show (Try.prog.info? 31).map (fun i => (i.zero, i.size, i.bytes)) = some (some (.int .u64 0), 1, 8) by kernel_rfl)
  go_enter Try.func25, Try.ntmps25
  go_wp2_with (at_make; go_must (refine wpList_make_full _ rfl _ _ 34 rfl w.heap.size 31 i0 (.int .u64 0) 1 Try.underlying34 hi hz0 hz1 _ _ _ _ n rfl rfl rfl rfl ?b1 ?b2 ?b3 ?_))
  case b1 => rw [hz2]; omega
  case b2 => unfold maxLen; omega
  case b3 => omega
  intro w1 hown hgr
  rw [toList_madeCells_one, vints_replicate] at hown
  have hb1 : Below w.heap.size w w1 := (Below.refl _ _).grown hgr (Nat.le_refl _) (fun k hk => by cases hk)
  clear hgr hi hz0 hz1 hz2
  go_wp2
  go_loopg [4, 5, 11] n (fun gk _ _ vi wr => ∃ (k : Nat) (out : List Int), k ≤ n ∧ gk = n - k ∧ vi = .int .i64 k ∧ out.length = n ∧ (∀ j, j < k → out.getD j 0 = (W64.u (l.getD j 0) : Int)) ∧
      wr.ownsRow w.heap.size 31 1 (.slice (some ⟨w.heap.size, 0, none⟩) n n) n (vints .u64 out) ∧ Below w.heap.size w wr)
  case atStart => exact ⟨0, List.replicate n 0, by omega, rfl, rfl, by simp, fun j h => by omega, hown, hb1⟩
  case round =>
    clear hown hb1
    obtain ⟨k, out, hk, h2, rfl, hlen, hout, hown, hb⟩ := hrel
    have H2 := Lib.hid h2
    have HLEN := Lib.hid hlen
    have HOUT := Lib.hid hout
    clear h2 hout
    by_cases hlt : k < n
    · obtain ⟨x, rfl, hx, hc⟩ := (HI.out.below hb) (by rw [← HN.out]; omega)
      have hcell := hc k (by rw [← HN.out]; omega)
      obtain ⟨z, hz⟩ : ∃ z, z = l.getD k 0 := ⟨_, rfl⟩
      rw [← hz] at hcell
      have HZ := Lib.hid hz
      have eu : IntKind.u64.wrap z = W64.u z := W64.u_eq z
      have e1 := (hown.cellAt k (by omega)).trans (vints_get .u64 out k (by omega))
      have e2 := hown.frozenAt k
      have hst := (hown.stored k (.int .u64 (W64.u z : Nat)))
      rw [vints_set] at hst
      have HST := Lib.hid hst
      clear hc hz hst hown hlen
      go_wp2
      go_roundg (n - (k + 1))
      case measure => rw [H2.out]; omega
      case rel =>
        refine ⟨k + 1, out.set k (W64.u z), by omega, rfl, by go_num, by rw [List.length_set]; exact HLEN.out, fun j hj => ?_, HST.out.1, hb.setCell (by simp) _⟩
        by_cases q : j = k
        · subst q
          have := HLEN.out
          have h3 : j < out.length := by omega
          rw [← HZ.out]; simp [h3]
        · rw [List.getD_eq_getElem?_getD, List.getElem?_set_ne (by omega), ← List.getD_eq_getElem?_getD]
          exact HOUT.out j (by omega)
    · obtain rfl : k = n := by omega
      obtain ⟨q1, q2⟩ := dig_of_u l out (by rw [HLEN.out, HN.out]) (fun j hj => HOUT.out j (by rw [HN.out]; exact hj))
      have cw := sum_Words (some ⟨w.heap.size, 0, none⟩) k out (by rw [HLEN.out]; omega) q2 wr (IntsAt.of_own hown HLEN.out.symm)
      rw [HLEN.out, q1] at cw
      have CW := Lib.hid cw
      clear cw q1 q2 hlen hown
      go_wp2_with (go_at_call 18; refine (CW.out).mono ?_; rintro e w2 ⟨rfl, rfl⟩)
      go_ret
      exact ⟨rfl, hb⟩
end Go.Proofs.Ytncnbfefciobcaa
end
/- A boxed slice of ints that grows by append: the variable in block X, its row in a block of its own. -/
section
namespace Go.Proofs.Ytncnbfefciobcaa
open Go.ChangeShapes Go.WideShapes Go.ChangeAt Go.RowKit Go.Mem
set_option linter.unusedVariables false
/-- the variable in block X holds v, and v is the call's own row of these numbers; all that turns lies at or beyond B -/
structure OutV (w : World) (B X : Nat) (v : Value) (L : List Int) : Prop where
  le : B ≤ X
  box : w.heap[X]? = some (.cells #[v] 22 (0, 0))
  row : w.ownsRow B 3 1 v L.length (vints .i64 L)
/-- nothing has turned but block X and rows of ints at or beyond B -/
structure FrX (B X : Nat) (w w' : World) : Prop where
  bel : Below B w w'
  far : ∀ (k : Nat) (cs : Array Value) (t : TypeId) (fr : Nat × Nat), w.heap[k]? = some (.cells cs t fr) → t ≠ 3 → k ≠ X → w'.heap[k]? = some (.cells cs t fr)
theorem FrX.refl (B X : Nat) (w : World) : FrX B X w w := ⟨Below.refl _ _, fun k cs t fr h _ _ => h⟩
theorem FrX.trans {B X : Nat} {a b c : World} (h : FrX B X a b) (h2 : FrX B X b c) : FrX B X a c := ⟨h.bel.trans h2.bel, fun k cs t fr h3 h4 h5 => h2.far k cs t fr (h.far k cs t fr h3 h4 h5) h4 h5⟩
theorem FrX.below {B X : Nat} {a b c : World} (h : FrX B X a b) (hB : B ≤ a.heap.size) (hb : Below b.heap.size b c) : FrX B X a c :=
  ⟨h.bel.trans (hb.mono (Nat.le_trans hB h.bel.size)), fun k cs t fr h3 h4 h5 => heap_below (h.far k cs t fr h3 h4 h5) hb⟩
theorem FrX.of_below {B X : Nat} {a b : World} (hB : B ≤ a.heap.size) (hb : Below a.heap.size a b) : FrX B X a b := (FrX.refl B X a).below hB hb
theorem FrX.low {B X N : Nat} {a b : World} {o : Obj} (h : FrX B X a b) (hN : N < B) (hr : a.heap[N]? = some o) : b.heap[N]? = some o := (h.bel.block N hN).trans hr
theorem OutV.cell {w : World} {B X : Nat} {v : Value} {L : List Int} (h : OutV w B X v L) : w.cell? ⟨X, 0, none⟩ = some v := cell_of_row _ _ 0 _ _ _ h.box
theorem OutV.lt {w : World} {B X : Nat} {v : Value} {L : List Int} (h : OutV w B X v L) : X < w.heap.size := lt_of_heap h.box
theorem OutV.ble {w : World} {B X : Nat} {v : Value} {L : List Int} (h : OutV w B X v L) : B ≤ w.heap.size := Nat.le_trans h.le (Nat.le_of_lt h.lt)
theorem OutV.free {w : World} {B X : Nat} {v : Value} {L : List Int} (h : OutV w B X v L) : w.frozen? ⟨X, 0, none⟩ = false := Mem.frozen_of_row h.box 0
theorem OutV.below {w w' : World} {B X : Nat} {v : Value} {L : List Int} (h : OutV w B X v L) (hb : Below w.heap.size w w') : OutV w' B X v L := ⟨h.le, heap_below h.box hb, own_below h.row hb⟩
theorem OutV.one {w : World} {B X : Nat} {v : Value} {L : List Int} (h : OutV w B X v L) : v.oneCell' = true ∧ v.cells = #[v] := by
  rcases h.row.2 with ⟨rfl, _⟩ | ⟨g, cap, cur, rfl, _⟩
  · exact ⟨rfl, rfl⟩
  · exact ⟨rfl, rfl⟩
theorem OutV.len {w : World} {B X : Nat} {v : Value} {L : List Int} (h : OutV w B X v L) : ∃ a c, v = .slice a L.length c := by
  rcases h.row.2 with ⟨rfl, h0⟩ | ⟨g, cap, cur, rfl, _⟩
  · exact ⟨none, 0, by rw [h0]⟩
  · exact ⟨_, _, rfl⟩
theorem OutV.ints {w : World} {B X : Nat} {v : Value} {L : List Int} (h : OutV w B X v L) : ∃ a c, v = .slice a L.length c ∧ IntsAt .i64 w a L := by
  obtain ⟨a, c, rfl⟩ := h.len
  exact ⟨a, c, rfl, IntsAt.of_own h.row rfl⟩
/-- the row's block is a block of ints at or beyond B -/
theorem OutV.own {w : World} {B X : Nat} {v : Value} {L : List Int} (h : OutV w B X v L) (g : Nat) (hv : v.ownBlock = some g) : B ≤ g ∧ g < w.heap.size ∧ ∃ cs fr, w.heap[g]? = some (.cells cs 3 fr) := by
  rcases h.row.2 with ⟨rfl, _⟩ | ⟨g', cap, cur, rfl, hb, hh, _⟩
  · cases hv
  · injection hv with hv
    have hv : g' = g := hv
    subst hv
    exact ⟨hb, lt_of_heap hh, _, _, hh⟩
theorem int_ne {w : World} {X g : Nat} {v : Value} {cs : Array Value} {fr : Nat × Nat} (hX : w.heap[X]? = some (.cells #[v] 22 (0, 0))) (hg : w.heap[g]? = some (.cells cs 3 fr)) : g ≠ X := fun e => by
  subst e
  rw [hX] at hg
  injection hg with hg
  injection hg with _ h7 _
  exact absurd h7 (by decide)
theorem new_ints1 (w : World) (a : Int) : IntsAt .i64 (w.alloc (.cells #[.int .i64 a] 3 (0, 0))) (some ⟨w.heap.size, 0, none⟩) [a] := RowB.ints (k := .i64) (zs := [a]) (heap_alloc_new w _)
theorem new_ints2 (w : World) (a b : Int) : IntsAt .i64 (w.alloc (.cells #[.int .i64 a, .int .i64 b] 3 (0, 0))) (some ⟨w.heap.size, 0, none⟩) [a, b] := RowB.ints (k := .i64) (zs := [a, b]) (heap_alloc_new w _)
theorem new_ints3 (w : World) (a b c : Int) : IntsAt .i64 (w.alloc (.cells #[.int .i64 a, .int .i64 b, .int .i64 c] 3 (0, 0))) (some ⟨w.heap.size, 0, none⟩) [a, b, c] := RowB.ints (k := .i64) (zs := [a, b, c]) (heap_alloc_new w _)
/-- as FrX, and block X too is as it was -/
structure FrY (B X : Nat) (w w' : World) : Prop where
  fr : FrX B X w w'
  box : ∀ o, w.heap[X]? = some o → w'.heap[X]? = some o
theorem FrY.refl (B X : Nat) (w : World) : FrY B X w w := ⟨FrX.refl _ _ _, fun o h => h⟩
theorem FrY.trans {B X : Nat} {a b c : World} (h : FrY B X a b) (h2 : FrY B X b c) : FrY B X a c := ⟨h.fr.trans h2.fr, fun o ho => h2.box o (h.box o ho)⟩
theorem FrY.of_below {B X : Nat} {a b : World} (hB : B ≤ a.heap.size) (hb : Below a.heap.size a b) : FrY B X a b := ⟨FrX.of_below hB hb, fun o ho => heap_below ho hb⟩
theorem FrY.drew (B X : Nat) (w : World) : FrY B X w w.drew := ⟨⟨(Below.refl _ _).drew, fun k cs t fr h _ _ => h⟩, fun o h => h⟩
theorem row_own {w : World} {B n : Nat} {v : Value} {xs : List Value} (h : w.ownsRow B 3 1 v n xs) (g : Nat) (hv : v.ownBlock = some g) : B ≤ g ∧ g < w.heap.size ∧ ∃ cs fr, w.heap[g]? = some (.cells cs 3 fr) := by
  rcases h.2 with ⟨rfl, _⟩ | ⟨g', cap, cur, rfl, hb, hh, _⟩
  · cases hv
  · injection hv with hv
    have hv : g' = g := hv
    subst hv
    exact ⟨hb, lt_of_heap hh, _, _, hh⟩
theorem own_frY {w w' : World} {B X n : Nat} {u v : Value} {xs : List Value} (hB : B ≤ w.heap.size) (hbox : w.heap[X]? = some (.cells #[u] 22 (0, 0))) (h : w.ownsRow B 3 1 v n xs) (hg : w.grownBy w' v.ownBlock) : FrY B X w w' := by
  refine ⟨⟨⟨hg.os, hg.tape, hg.output, hg.size, fun k hk => ?_⟩, fun k cs t fr h3 h4 h5 => ?_⟩, fun o ho => (hg.block X (lt_of_heap hbox) (fun e => ?_)).trans ho⟩
  · exact hg.block k (Nat.lt_of_lt_of_le hk hB) (fun e => by have := (row_own h k e.symm).1; omega)
  · refine (hg.block k (lt_of_heap h3) (fun e => ?_)).trans h3
    obtain ⟨_, _, cs2, fr2, h6⟩ := row_own h k e.symm
    rw [h3] at h6
    injection h6 with h6
    injection h6 with _ h7 _
    exact h4 h7
  · obtain ⟨_, _, cs, fr, h6⟩ := row_own h X e.symm
    exact int_ne hbox h6 rfl
/-- .. and the store into the variable -/
theorem out_store {w w2 : World} {B X : Nat} {v v' : Value} {L : List Int} (hle : B ≤ X) (hb : w.heap[X]? = some (.cells #[v] 22 (0, 0))) (hown : w.ownsRow B 3 1 v' L.length (vints .i64 L)) (hput : Put w w2 X 22 v') : OutV w2 B X v' L ∧ FrX B X w w2 := by
  refine ⟨⟨hle, hput.here, own_keep hown (fun g hg => ?_)⟩, ⟨hput.below hle, fun k cs t fr h3 h4 h5 => (hput.else_ k h5).trans h3⟩⟩
  refine hput.else_ g ?_
  rcases hown.2 with ⟨rfl, _⟩ | ⟨g', cap, cur, rfl, _, hh, _⟩
  · cases hg
  · injection hg with hg
    have hg : g' = g := hg
    subst hg
    exact int_ne hb hh
/-- both, in the walk: the variable holds u, the row that grows is v -/
theorem wpList_out2 {w : World} {ops : Array Oper} {rest : List Oper} {o o2 : Oper} {a : Act} {Q : Exit → Act → World → Prop} (hgd : o.guard = none) (s x : Operand)
    (ho : o.op = .call { callee := .builtin .append, args := #[s, x], argTypes := #[22, 22] }) (hgd2 : o2.guard = none) (p y : Operand) (ho2 : o2.op = .store 22 p y)
    (B X : Nat) (u v : Value) (L : List Int) (hs : a.eval s = v) (hle : B ≤ X) (hbox : w.heap[X]? = some (.cells #[u] 22 (0, 0))) (hrow : w.ownsRow B 3 1 v L.length (vints .i64 L)) (A : Option Addr) (m c : Nat) (zs : List Int) (hx : a.eval x = .slice A m c) (hm : zs.length = m) (hr : IntsAt .i64 w A zs)
    (hn : (L.length + m) * 8 ≤ 140737488355328) (hp : ∀ u, (a.put o.dst u).eval p = .pointer (some ⟨X, 0, none⟩)) (hy : ∀ u, (a.put o.dst u).eval y = u)
    (hK : ∀ v2 w2, OutV w2 B X v2 (L ++ zs) → FrX B X w w2 → wpList Try.prog ops Q rest ((a.put o.dst v2).put o2.dst undef) w2) : wpList Try.prog ops Q (o :: o2 :: rest) a w := by
  have hBw : B ≤ w.heap.size := Nat.le_trans hle (Nat.le_of_lt (lt_of_heap hbox))
  refine wpList_append_ints hgd s x 22 ho B 3 .i64 8 Try.underlying22 (by kernel_rfl) v L.length L hs hrow A m c zs hx hm hr (by unfold maxLen; omega) hn hBw fun v' w' hown hg hor => ?_
  rw [← hm] at hown
  have hfr := own_frY hBw hbox hrow hg
  have hb := hfr.box _ hbox
  have hown2 : w'.ownsRow B 3 1 v' (L ++ zs).length (vints .i64 (L ++ zs)) := by rw [List.length_append]; exact hown
  have hone : v'.oneCell' = true ∧ v'.cells = #[v'] := by
    rcases hown.2 with ⟨rfl, _⟩ | ⟨g, cap, cur, rfl, _⟩
    · exact ⟨rfl, rfl⟩
    · exact ⟨rfl, rfl⟩
  refine wpList_store_var hgd2 22 p y ho2 X v' (hp v') (hy v') hone.2 hone.1 22 u hb (by kernel_rfl) fun w2 hput => ?_
  obtain ⟨h1, h2⟩ := out_store hle hb hown2 hput
  exact hK v' w2 h1 (hfr.fr.trans h2)
theorem wpList_out {w : World} {ops : Array Oper} {rest : List Oper} {o o2 : Oper} {a : Act} {Q : Exit → Act → World → Prop} (hgd : o.guard = none) (s x : Operand)
    (ho : o.op = .call { callee := .builtin .append, args := #[s, x], argTypes := #[22, 22] }) (hgd2 : o2.guard = none) (p y : Operand) (ho2 : o2.op = .store 22 p y)
    (B X : Nat) (v : Value) (L : List Int) (hs : a.eval s = v) (h : OutV w B X v L) (A : Option Addr) (m c : Nat) (zs : List Int) (hx : a.eval x = .slice A m c) (hm : zs.length = m) (hr : IntsAt .i64 w A zs)
    (hn : (L.length + m) * 8 ≤ 140737488355328) (hp : ∀ u, (a.put o.dst u).eval p = .pointer (some ⟨X, 0, none⟩)) (hy : ∀ u, (a.put o.dst u).eval y = u)
    (hK : ∀ v2 w2, OutV w2 B X v2 (L ++ zs) → FrX B X w w2 → wpList Try.prog ops Q rest ((a.put o.dst v2).put o2.dst undef) w2) : wpList Try.prog ops Q (o :: o2 :: rest) a w :=
  wpList_out2 hgd s x ho hgd2 p y ho2 B X v v L hs h.le h.box h.row A m c zs hx hm hr hn hp hy hK
end Go.Proofs.Ytncnbfefciobcaa
end
/- The closures of world.Ints and of the reference's Described: a name, as numbers. -/
section
namespace Go.Proofs.Ytncnbfefciobcaa
open Go.ChangeShapes Go.WideShapes Go.ChangeAt Go.RowKit Go.Mem
set_option linter.unusedVariables false
def byteI (s : ByteArray) (i : Nat) : Int := ((s.data.toList.getD i 0).toNat : Int)
def bytesI (s : ByteArray) (k : Nat) : List Int := (List.range k).map (byteI s)
theorem bytesI_succ (s : ByteArray) (k : Nat) : bytesI s (k + 1) = bytesI s k ++ [byteI s k] := by unfold bytesI; rw [List.range_succ, List.map_append]; rfl
theorem bytesI_len (s : ByteArray) (k : Nat) : (bytesI s k).length = k := by unfold bytesI; simp
def nameI (s : ByteArray) : List Int := (s.size : Int) :: bytesI s s.size
theorem nameI_len (s : ByteArray) : (nameI s).length = s.size + 1 := by unfold nameI; rw [List.length_cons, bytesI_len]
theorem byteI_at (s : ByteArray) (i : Nat) (h : i < s.size) : byteI s i = (s[i].toNat : Int) := by
  unfold byteI
  have : s.data.toList.getD i 0 = s[i] := by rw [List.getD_eq_getElem?_getD, List.getElem?_eq_getElem h]; rfl
  rw [this]
theorem idx_str (s : ByteArray) (i : Nat) (h : i < s.size) (h9 : s.size ≤ 9223372036854775807) (w : World) : (Instr.index 9 (.string s) (.int .i64 (i : Int))).run Try.prog w = .ok (.int .u8 (byteI s i)) w := by
  rw [byteI_at s i h]
  have i1 : (0 : Int) ≤ (i : Int) := by omega
  have i2 : (i : Int) < (s.size : Int) := by omega
  go_simp
theorem conv_byte (s : ByteArray) (i : Nat) (w : World) : (Go.convert 5 3 (.int .u8 (byteI s i))).run Try.prog w = .ok (.int .i64 (byteI s i)) w := by
  have h1 : 0 ≤ byteI s i := by unfold byteI; omega
  have h2 : byteI s i < 256 := by unfold byteI; have := (s.data.toList.getD i 0).toNat_lt; omega
  have h3 : IntKind.i64.wrap (byteI s i) = byteI s i := by rw [IntKind.wrap_i64]; omega
  go_simp
def F_nm (X i : Nat) (s : ByteArray) (u : Value) (jq : Nat) (v : Value) (w : World) : Prop :=
  match jq with
  | 0 => v = u
  | 1 => v = .string s
  | 2 => v = .int .i64 i
  | 3 => v = .int .u8 (byteI s i)
  | 4 => v = .int .i64 (byteI s i)
  | 5 => ∃ b, v = .slice (some ⟨b, 0, none⟩) 1 1 ∧ IntsAt .i64 w (some ⟨b, 0, none⟩) [byteI s i]
  | _ => True
theorem F_nm_mono (X i : Nat) (s : ByteArray) (u : Value) : Facts (F_nm X i s u) := ⟨by
  intro jq v w w' h hb
  unfold F_nm at h ⊢
  split at h
  all_goals first
    | exact h
    | (obtain ⟨b, e, h1⟩ := h; exact ⟨b, e, h1.below hb⟩)
    | trivial⟩

set_option maxHeartbeats 8000000 in
theorem ints_name (s : ByteArray) (hs : s.size ≤ 1048576) (B X : Nat) (v : Value) (L : List Int) (w : World) (h : OutV w B X v L) (hL : L.length ≤ 10000000) : Calls Try.prog 45 #[.string s, .pointer (some ⟨X, 0, none⟩)] w fun e w' => e = .returned (.tuple #[]) ∧ (∃ v2, OutV w' B X v2 (L ++ nameI s)) ∧ FrX B X w w' := by
  have HX := h.ble
  have H := Lib.hid h
  have c0 := h.cell
  have hnl := hs
  clear h hs
  go_enter Try.func45, Try.ntmps45
  go_wp2_with (at_builtin; go_must (refine wpList_out rfl _ _ rfl rfl _ _ rfl B X v L rfl (H.out.below ((Below.refl _ _).alloc (Nat.le_refl _) _)) (some ⟨w.heap.size, 0, none⟩) 1 1 [(s.size : Int)] rfl rfl (new_ints1 w s.size) (by omega) (fun u => rfl) (fun u => rfl) ?_); intro v2 w2 hout hfr; have HOUT := Lib.hid hout; have HFR := Lib.hid hfr; clear hout hfr)
  have hf0 := (FrX.of_below HX ((Below.refl w.heap.size w).alloc (Nat.le_refl _) (.cells #[.int .i64 (s.size : Int)] 3))).trans HFR.out
  have HF0 := Lib.hid hf0
  clear HFR hf0 c0
  go_loopg [11, 3] s.size (fun gk v11 _ wx => ∃ (i : Nat) (u : Value), i ≤ s.size ∧ gk = s.size - i ∧ v11 = .int .i64 i ∧ OutV wx B X u (L ++ [(s.size : Int)] ++ bytesI s i) ∧ FrX B X w wx)
  case atStart => exact ⟨0, v2, Nat.zero_le _, rfl, rfl, by rw [show bytesI s 0 = [] from rfl, List.append_nil]; exact HOUT.out, HF0.out⟩
  case round =>
    clear HOUT HF0
    obtain ⟨i, u, i1, i2, rfl, hout, hfr⟩ := hrel
    have I2 := Lib.hid i2
    have HOUT := Lib.hid hout
    have HFR := Lib.hid hfr
    have hxr := hout.ble
    clear i2 hfr
    by_cases hi : i < s.size
    · have C0 := Lib.hid hout.cell
      have HLL : (L ++ [(s.size : Int)] ++ bytesI s i).length = L.length + 1 + i := by rw [List.length_append, bytesI_len, List.length_append, List.length_singleton]
      obtain ⟨LL, hLL⟩ : ∃ LL, LL = L ++ [(s.size : Int)] ++ bytesI s i := ⟨_, rfl⟩
      have hbs := bytesI_succ s i
      rw [← hLL] at HOUT HLL
      have hnx : L ++ [(s.size : Int)] ++ bytesI s (i + 1) = LL ++ [byteI s i] := by rw [hbs, hLL, List.append_assoc, List.append_assoc, List.append_assoc]
      have HNX := Lib.hid hnx
      clear hout hLL hbs hnx
      go_wp2_with fail
      refine wp_region_facts_t rfl 6 (by kernel_rfl) (F_nm X i s u) (F_nm_mono X i s u) ?_ ?_
      · refine ⟨?_, ?_, ?_, ?_, ?_, ?_, trivial⟩
        · intro vs w' F hb hd hF hl hT
          have e := (hF 1).trans (look_out _ 1 _ _ (by kernel_rfl))
          exact one_load _ _ rfl rfl _ _ e (cell_abides C0.out hb) (by kernel_rfl) ⟨_, rfl, Below.refl _ _, rfl⟩
        · intro vs w' F hb hd hF hl hT
          have e := (hF 0).trans (look_out _ 0 _ _ (by kernel_rfl))
          exact one_move _ rfl (by first | exact Or.inl rfl | exact Or.inr rfl) ⟨_, rfl, Below.refl _ _, e⟩
        · intro vs w' F hb hd hF hl hT
          have e := (hF 3).trans (look_out _ 3 _ _ (by kernel_rfl))
          exact one_move _ rfl (by first | exact Or.inl rfl | exact Or.inr rfl) ⟨_, rfl, Below.refl _ _, e⟩
        · intro vs w' F hb hd hF hl hT
          have ex := (((hF 15).trans (look_at _ 15 1 _ _ (by kernel_rfl) (by kernel_rfl) hl)).trans (dep_of (Fact := F_nm X i s u) hd 1 (by kernel_rfl)))
          have ey := (((hF 16).trans (look_at _ 16 2 _ _ (by kernel_rfl) (by kernel_rfl) hl)).trans (dep_of (Fact := F_nm X i s u) hd 2 (by kernel_rfl)))
          exact rg_index 9 _ _ rfl rfl (.string s) (.int .i64 (i : Int)) (.int .u8 (byteI s i)) ex ey (fun w => idx_str s i (by omega) (by omega) w) ⟨_, rfl, Below.refl _ _, rfl⟩
        · intro vs w' F hb hd hF hl hT
          have ex := (((hF 17).trans (look_at _ 17 3 _ _ (by kernel_rfl) (by kernel_rfl) hl)).trans (dep_of (Fact := F_nm X i s u) hd 3 (by kernel_rfl)))
          exact rg_convert 5 3 _ rfl rfl (.int .u8 (byteI s i)) (.int .i64 (byteI s i)) ex (fun w => conv_byte s i w) ⟨_, rfl, Below.refl _ _, rfl⟩
        · intro vs w' F hb hd hF hl hT
          have ex := (((hF 18).trans (look_at _ 18 4 _ _ (by kernel_rfl) (by kernel_rfl) hl)).trans (dep_of (Fact := F_nm X i s u) hd 4 (by kernel_rfl)))
          exact rg_slice1 22 3 _ rfl rfl (byteI s i) ex Try.underlying22 (by kernel_rfl) ⟨_, rfl, (Below.refl _ _).alloc (Nat.le_refl _) _, _, rfl, new_ints1 _ _⟩
      · intro vs8 W8 hl hb hI
        obtain ⟨b, hv5, hin⟩ := hI 5 (by omega)
        have hv0 : vs8.getD 0 undef = u := hI 0 (by omega)
        obtain ⟨x0, x1, x2, x3, x4, x5, x6, x7, hvs⟩ := list8 hl
        subst hvs
        replace hv5 : x5 = .slice (some ⟨b, 0, none⟩) 1 1 := hv5
        replace hv0 : x0 = u := hv0
        subst hv5 hv0
        have HO8 := Lib.hid (HOUT.out.below hb)
        have HF8 := Lib.hid (HFR.out.trans (FrX.of_below hxr hb))
        have HIN := Lib.hid hin
        clear hI hl hb hin C0 HFR HOUT
        simp only [fillAll, Act.put, List.setIfInBounds_toArray, List.set_cons_succ, List.set_cons_zero, List.drop_succ_cons, List.drop_zero]
        go_wp2_with (at_builtin; go_must (refine wpList_out rfl _ _ rfl rfl _ _ rfl B X _ LL rfl HO8.out (some ⟨b, 0, none⟩) 1 1 [byteI s i] rfl rfl HIN.out (by omega) (fun u => rfl) (fun u => rfl) ?_); intro v2 w2 hout hfr; have HOUT := Lib.hid hout; have HFR := Lib.hid hfr; clear hout hfr)
        go_roundg (s.size - (i + 1))
        case measure => rw [I2.out]; omega
        case rel => exact ⟨i + 1, _, hi, rfl, by go_num, by rw [HNX.out]; exact HOUT.out, HF8.out.trans HFR.out⟩
    · obtain rfl : i = s.size := by omega
      go_wp2
      go_end0
      exact ⟨rfl, ⟨u, by unfold nameI; have := HOUT.out; rw [List.append_assoc] at this; exact this⟩, HFR.out⟩
end Go.Proofs.Ytncnbfefciobcaa
end
/- Plain: a world as numbers. -/
section
namespace Go.Proofs.Ytncnbfefciobcaa
open Go.RowKit Go.Mem
set_option linter.unusedVariables false
def fldI (f : FieldV) : List Int := nameI f.name ++ [f.bits, f.low]
def kndI (k : KindV) : List Int := nameI k.name ++ ([(k.fields.length : Int)] ++ (k.fields.map fldI).flatten)
def compI (c : CompV) : List Int := [c.kind, (c.vals.length : Int)] ++ c.vals
def itemI (t : ItemV) : List Int := [t.n, t.gen, (t.comps.length : Int)] ++ (t.comps.map compI).flatten
def intsW (y : WorldV) : List Int := [(y.kinds.length : Int)] ++ ((y.kinds.map kndI).flatten ++ ([(y.gens.length : Int)] ++ (y.gens ++ ([(y.items.length : Int)] ++ (y.items.map itemI).flatten))))
theorem drop_flat {α : Type} (f : α → List Int) (l : List α) (i : Nat) (h : i < l.length) (R : List Int) : ((l.drop i).map f).flatten ++ R = f l[i] ++ (((l.drop (i + 1)).map f).flatten ++ R) := by
  rw [List.drop_eq_getElem_cons h, List.map_cons, List.flatten_cons, List.append_assoc]
theorem drop_end {α : Type} (f : α → List Int) (l : List α) (R : List Int) : ((l.drop l.length).map f).flatten ++ R = R := by rw [List.drop_length]; rfl
theorem step_eq {L zs R T : List Int} (h : L ++ (zs ++ R) = T) : (L ++ zs) ++ R = T := by rw [List.append_assoc]; exact h
theorem len_le {L R T : List Int} (h : L ++ R = T) : L.length ≤ T.length := by rw [← h, List.length_append]; omega
/-- a world whose numbers of values and letters are small -/
structure FineW (y : WorldV) : Prop where
  tot : (intsW y).length ≤ 4000000
  kl : y.kinds.length ≤ 1048576
  gl : y.gens.length ≤ 1048576
  il : y.items.length ≤ 1048576
  k : ∀ k ∈ y.kinds, k.name.size ≤ 1048576 ∧ k.fields.length ≤ 1048576 ∧ ∀ f ∈ k.fields, f.name.size ≤ 1048576
  i : ∀ t ∈ y.items, t.comps.length ≤ 1048576 ∧ ∀ c ∈ t.comps, c.vals.length ≤ 1048576
theorem sum_mem {α : Type} {f : α → Nat} {l : List α} {x : α} (h : x ∈ l) : f x ≤ (l.map f).sum := by
  induction l with
  | nil => cases h
  | cons a l ih =>
    rw [List.map_cons, List.sum_cons]
    rcases List.mem_cons.1 h with rfl | h
    · omega
    · have := ih h; omega
theorem len_sum {α : Type} {f : α → Nat} (h1 : ∀ x, 1 ≤ f x) (l : List α) : l.length ≤ (l.map f).sum := by
  induction l with
  | nil => exact Nat.le_refl _
  | cons a l ih => rw [List.map_cons, List.sum_cons, List.length_cons]; have := h1 a; omega
theorem flat_le {α : Type} {g : α → List Int} {f : α → Nat} (h : ∀ x, (g x).length ≤ 3 * f x) (l : List α) : (l.map g).flatten.length ≤ 3 * (l.map f).sum := by
  induction l with
  | nil => exact Nat.le_refl _
  | cons a l ih =>
    rw [List.map_cons, List.flatten_cons, List.length_append, List.map_cons, List.sum_cons]
    have := h a
    omega
theorem fldI_le (f : FieldV) : (fldI f).length ≤ 3 * costField f := by unfold fldI costField; rw [List.length_append, nameI_len]; simp; omega
theorem kndI_le (k : KindV) : (kndI k).length ≤ 3 * costKind k := by
  unfold kndI costKind
  rw [List.length_append, nameI_len, List.length_append]
  have := flat_le fldI_le k.fields
  simp only [List.length_singleton]
  omega
theorem compI_le (c : CompV) : (compI c).length ≤ 3 * costComp c := by unfold compI costComp; rw [List.length_append]; simp; omega
theorem itemI_le (t : ItemV) : (itemI t).length ≤ 3 * costItem t := by
  unfold itemI costItem
  rw [List.length_append]
  have := flat_le compI_le t.comps
  simp only [List.length_cons, List.length_nil]
  omega
theorem fine_of {y : WorldV} (h : costWorld y ≤ 1048576) : FineW y := by
  unfold costWorld at h
  have k1 := flat_le kndI_le y.kinds
  have i1 := flat_le itemI_le y.items
  have k2 := len_sum (f := costKind) (fun x => by unfold costKind; omega) y.kinds
  have i2 := len_sum (f := costItem) (fun x => by unfold costItem; omega) y.items
  refine ⟨?_, by omega, by omega, by omega, fun k hk => ?_, fun t ht => ?_⟩
  · unfold intsW
    simp only [List.length_append, List.length_singleton]
    omega
  · have h1 : k.name.size + (k.fields.map costField).sum + 1 ≤ (y.kinds.map costKind).sum := sum_mem (f := costKind) hk
    have h2 := len_sum (f := costField) (fun x => by unfold costField; omega) k.fields
    refine ⟨by omega, by omega, fun f hf => ?_⟩
    have h3 : f.name.size + 1 ≤ (k.fields.map costField).sum := sum_mem (f := costField) hf
    omega
  · have h1 : (t.comps.map costComp).sum + 1 ≤ (y.items.map costItem).sum := sum_mem (f := costItem) ht
    have h2 := len_sum (f := costComp) (fun x => by unfold costComp; omega) t.comps
    refine ⟨by omega, fun c hc => ?_⟩
    have h3 : c.vals.length + 1 ≤ (t.comps.map costComp).sum := sum_mem (f := costComp) hc
    omega
end Go.Proofs.Ytncnbfefciobcaa
end
/- tourtop.h6leaves: by program (gen_h6leaves.py). -/
section
namespace Go.Proofs.Ytncnbfefciobcaa
open Go.ChangeShapes Go.WideShapes Go.ChangeAt Go.RowKit Go.Nm Go.Mem
set_option linter.unusedVariables false
/-- the numbers of an item's leaf -/
def leafI (t : ItemV) : List Int := [t.n, t.gen] ++ (t.comps.map compI).flatten
def leafD (t : ItemV) : Int := (dig (leafI t) : Nat)
theorem cell_abides_b {w w' : World} {p : Addr} {v : Value} (h : w.cell? p = some v) (hb : Below w.heap.size w w') : w'.cell? p = some v := cell_abides h hb
theorem ints_gboH {k : IntKind} {w w' : World} {b : Nat} {zs : List Int} {row : Option Nat} (h : IntsAt k w (some ⟨b, 0, none⟩) zs) (hg : w.grownBy w' row) (hne : some b ≠ row) : IntsAt k w' (some ⟨b, 0, none⟩) zs := fun h0 => by
  obtain ⟨x, e, hx, hc⟩ := h h0
  injection e with e
  subst e
  exact ⟨_, rfl, Nat.lt_of_lt_of_le hx hg.size, fun j hj => World.grownBy.cell hg (hc j hj) (by rw [block_of_add]; exact hne)⟩
theorem new_ints2T (w : World) (a b : Int) : IntsAt .i64 (w.alloc (.cells #[.int .i64 a, .int .i64 b] 3 (0, 0))) (some ⟨w.heap.size, 0, none⟩) [a, b] := RowB.ints (k := .i64) (zs := [a, b]) (heap_alloc_new w _)
theorem list12 {α : Type} {vs : List α} (h : vs.length = 12) : ∃ x0 x1 x2 x3 x4 x5 x6 x7 x8 x9 x10 x11, vs = [x0, x1, x2, x3, x4, x5, x6, x7, x8, x9, x10, x11] := by
  obtain ⟨x0, t0, rfl, h0⟩ := cons_of h
  obtain ⟨x1, t1, rfl, h1⟩ := cons_of h0
  obtain ⟨x2, t2, rfl, h2⟩ := cons_of h1
  obtain ⟨x3, t3, rfl, h3⟩ := cons_of h2
  obtain ⟨x4, t4, rfl, h4⟩ := cons_of h3
  obtain ⟨x5, t5, rfl, h5⟩ := cons_of h4
  obtain ⟨x6, t6, rfl, h6⟩ := cons_of h5
  obtain ⟨x7, t7, rfl, h7⟩ := cons_of h6
  obtain ⟨x8, t8, rfl, h8⟩ := cons_of h7
  obtain ⟨x9, t9, rfl, h9⟩ := cons_of h8
  obtain ⟨x10, t10, rfl, h10⟩ := cons_of h9
  obtain ⟨x11, t11, rfl, h11⟩ := cons_of h10
  exact ⟨x0, x1, x2, x3, x4, x5, x6, x7, x8, x9, x10, x11, by rw [List.eq_nil_of_length_eq_zero h11]⟩
def F_lv9 (bX nv cv BA D : Nat) (kq : Int) (av : Option Addr) (V6 : Value) (L : List Int) (jq : Nat) (v : Value) (w : World) : Prop :=
  match jq with
  | 0 => v = V6
  | 1 => v = .pointer (some ⟨bX, 0, none⟩)
  | 2 => v = .int .i64 kq
  | 3 => v = .pointer (some ⟨bX, 1, none⟩)
  | 4 => v = .slice av nv cv
  | 5 => v = .int .i64 (nv : Int)
  | 6 => ∃ b, v = .slice (some ⟨b, 0, none⟩) 2 2 ∧ IntsAt .i64 w (some ⟨b, 0, none⟩) [kq, (nv : Int)] ∧ BA ≤ b
  | 7 => w.ownsRow D 3 1 v (L.length + 2) (vints .i64 (L ++ [kq, (nv : Int)]))
  | 8 => v = .pointer (some ⟨bX, 1, none⟩)
  | 9 => v = .slice av nv cv
  | _ => True
theorem F_lv9_mono (bX nv cv BA D : Nat) (kq : Int) (av : Option Addr) (V6 : Value) (L : List Int) (hV : ∀ q, V6.ownBlock = some q → q < BA) : FactsR (RG 7 V6.ownBlock) (F_lv9 bX nv cv BA D kq av V6 L) := ⟨by
  intro i jq v w w' hij h hb
  unfold F_lv9 at h ⊢
  split at h
  all_goals first
    | exact h
    | (obtain ⟨b, e, h1, h2⟩ := h; exact ⟨b, e, ints_gboH h1 hb.gb (fun e => by have := hV b e.symm; omega), h2⟩)
    | exact own_below h (hb.1 hij)
    | trivial⟩
set_option maxHeartbeats 8000000 in
set_option maxRecDepth 100000 in
theorem h6_leaves (its : List ItemV) (m : Nat) (hm : its.length = m) (h1 : m ≤ 4096) (hb : ∀ t ∈ its, (leafI t).length ≤ 100000 ∧ t.comps.length ≤ 100000) (vk vg : Value) (ai : Option Addr) (ci : Nat) (W : World) (hz : SlAt 3 ItemAt W ai its) : Calls Try.prog 9 #[.agg #[vk, vg, .slice ai m ci]] W fun e w' => (∃ a c, e = .returned (.slice a m c) ∧ m ≤ c ∧ c ≤ 9223372036854775807 ∧ IntsAt .u64 w' a (its.map leafD)) ∧ Below W.heap.size W w' := by
  have HM := Lib.hid hm
  have HB := Lib.hid hb
  have HZ := Lib.hid hz
  have H1 := Lib.hid h1
  have hbx := (Below.refl W.heap.size W).alloc (Nat.le_refl _) (.cells #[vk, vg, .slice ai m ci] 27)
  have HBX := Lib.hid hbx
  have HO0 := Lib.hid (show (W.alloc (.cells #[vk, vg, .slice ai m ci] 27)).ownsRow W.heap.size 31 1 (.slice none 0 0) 0 (vints .u64 []) from World.ownsRow_nil _ _ _ _)
  have CS := Lib.hid (fun (l : List Int) (a : Option Addr) (c n : Nat) (hn : n = l.length) (hl : l.length ≤ 17592186044416) (w : World) (hi : IntsAt .i64 w a l) => (by rw [hn]; exact sum_Ints a c l hl w hi : Calls Try.prog 25 #[.slice a n c] w fun e w' => e = .returned (.int .u64 (dig l : Nat)) ∧ Below w.heap.size w w'))
  clear hm hb hz hbx h1
  go_enter Try.func9, Try.ntmps9
  go_wp2_with fail
  go_loopg [3, 5, 6, 8, 12] m (fun gk v3 _ _ _ vi wx => ∃ (i : Nat) (V : Value), V = v3 ∧ i ≤ m ∧ gk = m - i ∧ vi = .int .i64 i ∧ Hid (wx.ownsRow W.heap.size 31 1 V i (vints .u64 ((its.take i).map leafD))) ∧ Hid (Below W.heap.size W wx))
  case atStart => exact ⟨0, _, rfl, Nat.zero_le _, rfl, rfl, HO0, HBX⟩
  case round =>
    clear HO0 HBX
    obtain ⟨i, V, hV, hi, g2, rfl, HO, HBW⟩ := hrel
    subst hV
    have GM2 := Lib.hid g2
    clear g2
    by_cases hlt : i < m
    · have hik : i < its.length := by rw [HM.out]; exact hlt
      have hzi := HZ.out.below ItemAt.abides HBW.out
      obtain ⟨x, rfl, _, _⟩ := hzi (by omega)
      obtain ⟨ib, io, rfl, ac, cc, hck, hcs⟩ := item_cells hzi i hik
      obtain ⟨t, ht⟩ : ∃ t, t = its[i] := ⟨_, rfl⟩
      rw [← ht] at hck hcs
      obtain ⟨htb, htc⟩ := HB.out t (by rw [ht]; exact List.getElem_mem _)
      obtain ⟨tn, htn⟩ : ∃ x, x = t.n := ⟨_, rfl⟩
      obtain ⟨tg, htg⟩ : ∃ x, x = t.gen := ⟨_, rfl⟩
      obtain ⟨cs, hcse⟩ : ∃ x, x = t.comps := ⟨_, rfl⟩
      obtain ⟨nc, hnc⟩ : ∃ x, x = cs.length := ⟨_, rfl⟩
      rw [← htn, ← htg, ← hcse, ← hnc] at hck
      rw [← hcse] at hcs
      have hT : [tn, tg] ++ ((cs.drop 0).map compI).flatten = leafI t := by rw [htn, htg, hcse]; rfl
      have q0 := hck 0 _ rfl
      have q1 := hck 1 _ rfl
      have q2 := hck 2 _ rfl
      rw [Nat.add_zero] at q0
      have hba := (Below.refl wr.heap.size wr).alloc (Nat.le_refl _) (.cells #[.int .i64 tn, .int .i64 tg, .slice ac nc cc] 70)
      have hs1 : (wr.alloc (.cells #[.int .i64 tn, .int .i64 tg, .slice ac nc cc] 70)).heap.size = wr.heap.size + 1 := by simp
      have hb2 := hba.alloc (by rw [hs1]; omega) (.cells #[.int .i64 tn, .int .i64 tg] 3)
      have hlit := World.ownsRow_lit (base := wr.heap.size) (e := 3) (size := 1) (wr.alloc (.cells #[.int .i64 tn, .int .i64 tg, .slice ac nc cc] 70)) #[.int .i64 tn, .int .i64 tg] 2 (by rw [hs1]; omega) (by decide) rfl
      rw [hs1] at hlit
      have HCS := Lib.hid hcs
      have HB2 := Lib.hid hb2
      have HL0 := Lib.hid hlit
      have HT0 := Lib.hid hT
      have HTB := Lib.hid htb
      have HNC := Lib.hid hnc
      have HNB := Lib.hid (show nc ≤ 100000 by rw [hnc, hcse]; exact htc)
      have HTI := Lib.hid (show its.take (i + 1) = its.take i ++ [t] by rw [List.take_add_one, List.getElem?_eq_getElem hik, ← ht]; rfl)
      have wi : IntKind.i64.wrap ((i : Int) + 1) = ((i + 1 : Nat) : Int) := by have := H1.out; rw [IntKind.wrap_i64]; omega
      have HLT := Lib.hid hlt
      obtain ⟨wo, hwo⟩ : ∃ wo, wo = wr := ⟨_, rfl⟩
      subst hwo
      obtain ⟨w5, hw5⟩ : ∃ w, w = (wo.alloc (.cells #[.int .i64 tn, .int .i64 tg, .slice ac nc cc] 70)).alloc (.cells #[.int .i64 tn, .int .i64 tg] 3) := ⟨_, rfl⟩
      rw [← hw5] at HB2 HL0
      have HW5 := Lib.hid hw5
      have tI : decide (i < m) = true := by simp; exact hlt
      clear hik hzi hck hcs ht htb htc htn htg hcse hnc hT hba hs1 hb2 hlit hw5
      go_wp2_with fail
      rw [← HW5.out]
      go_loopg [6, 8, 26] nc (fun gk2 v6 _ vj wy => ∃ (j : Nat) (V6 : Value) (L : List Int), V6 = v6 ∧ j ≤ nc ∧ gk2 = nc - j ∧ vj = .int .i64 j ∧ Hid (wy.ownsRow wo.heap.size 3 1 V6 L.length (vints .i64 L)) ∧ Hid (L ++ ((cs.drop j).map compI).flatten = leafI t) ∧ Hid (Below wo.heap.size wo wy))
      case atStart => exact ⟨0, _, [tn, tg], rfl, Nat.zero_le _, rfl, rfl, HL0, HT0, HB2⟩
      case round =>
        clear HL0 HT0 HB2
        obtain ⟨j, V6, L, hV6, hj, g3, rfl, HOL, HTJ, HBJ⟩ := hrel
        subst hV6
        have G3 := Lib.hid g3
        clear g3
        by_cases hjt : j < nc
        · have hjl : j < cs.length := by rw [← HNC.out]; exact hjt
          have hzc := HCS.out.below CompAt.abides HBJ.out
          obtain ⟨x, rfl, _, _⟩ := hzc (by omega)
          obtain ⟨cb, co, rfl, av, cv, hcl, hvi⟩ := comp_cells hzc j hjl
          obtain ⟨_, _, e2, av0, cv0, hcl0, hvi0⟩ := comp_cells HCS.out j hjl
          injection e2 with e2a e2b
          subst e2a e2b
          have hav : av = av0 := by
            have k1 := hcl 1 _ rfl
            have k2 := cell_abides_b (hcl0 1 _ rfl) HBJ.out
            rw [k1] at k2
            injection k2 with k2
            injection k2
          obtain ⟨cm, hcm⟩ : ∃ x, x = cs[j] := ⟨_, rfl⟩
          have hT := HTJ.out
          rw [List.drop_eq_getElem_cons hjl, List.map_cons, List.flatten_cons, ← hcm] at hT
          unfold compI at hT
          rw [List.append_assoc] at hT
          rw [← hcm] at hcl hvi hvi0
          obtain ⟨vals, hvals⟩ : ∃ x, x = cm.vals := ⟨_, rfl⟩
          obtain ⟨nv, hnv⟩ : ∃ x, x = vals.length := ⟨_, rfl⟩
          obtain ⟨kq, hkq⟩ : ∃ x, x = cm.kind := ⟨_, rfl⟩
          rw [← hvals, ← hkq, ← hnv] at hcl hT
          rw [← hvals] at hvi hvi0
          rw [← hav] at hvi0
          have e0 := hcl 0 _ rfl
          have e1 := hcl 1 _ rfl
          rw [Nat.add_zero] at e0
          have hT1 := step_eq hT
          have hT2 := step_eq hT1
          have hL2 := len_le hT2
          have htb := HTB.out
          rw [List.length_append, List.length_append, ← hnv] at hL2
          have hL3 : L.length + 2 + nv ≤ 100000 := by
            rw [show ([kq, (nv : Int)] : List Int).length = 2 from rfl] at hL2
            omega
          have hba := (Below.refl wr.heap.size wr).alloc (Nat.le_refl _) (.cells #[.int .i64 kq, .slice av nv cv] 59)
          have h8 := heap_alloc_new wr (.cells #[.int .i64 kq, .slice av nv cv] 59)
          obtain ⟨wA, hwA⟩ : ∃ w, w = wr.alloc (.cells #[.int .i64 kq, .slice av nv cv] 59) := ⟨_, rfl⟩
          obtain ⟨bX, hbX⟩ : ∃ b, b = wr.heap.size := ⟨_, rfl⟩
          rw [← hwA] at hba h8
          rw [← hbX] at h8
          have HWA := Lib.hid (And.intro hwA hbX)
          have H8 := Lib.hid h8
          have HT2 := Lib.hid hT2
          have HL3 := Lib.hid hL3
          have HNV := Lib.hid hnv
          have HVW := Lib.hid (show ∀ w, Below wo.heap.size wo w → IntsAt .i64 w av vals from fun w hb => hvi0.below hb)
          have HOA := Lib.hid (own_below HOL.out hba)
          have HVB := Lib.hid (show ∀ q, V6.ownBlock = some q → wo.heap.size ≤ q ∧ q < bX by rw [hbX]; exact own_lt HOL.out)
          have HBA := Lib.hid (show wo.heap.size ≤ bX ∧ bX < wA.heap.size from ⟨by rw [hbX]; exact HBJ.out.size, lt_of_heap h8⟩)
          have HBJ2 := Lib.hid (bt HBJ.out hba)
          have HNX := Lib.hid (show some bX ≠ V6.ownBlock from fun e => by have := (HVB.out bX e.symm).2; omega)
          have wj : IntKind.i64.wrap ((j : Int) + 1) = ((j + 1 : Nat) : Int) := by have := HNB.out; rw [IntKind.wrap_i64]; omega
          have tJ : decide (j < nc) = true := by simp; exact hjt
          have HJL := Lib.hid hjt
          clear hjl hzc hcl hvi hcl0 hvi0 hav hcm hT hvals hnv hkq hT1 hT2 hL2 htb hL3 hba h8 hwA hbX
          go_upto_region 9 with fail
          rw [← HWA.out.1, ← HWA.out.2]
          clear e0 e1
          refine wp_region_facts_r rfl 10 (by kernel_rfl) (fun a b => World.grownBy a b V6.ownBlock) (gb_drew _ _) (fun _ _ _ h h2 => h.trans h2) (RG 7 V6.ownBlock) RG.sub (F_lv9 bX nv cv wA.heap.size wo.heap.size kq av V6 L) (F_lv9_mono bX nv cv wA.heap.size wo.heap.size kq av V6 L (fun q hq => Nat.lt_trans (HVB.out q hq).2 HBA.out.2)) 7 (fun w => w.ownsRow wo.heap.size 3 1 V6 L.length (vints .i64 L)) (own_below HOA.out ((Below.refl _ _).drew)) (fun i a b hi h ho => own_below ho (h.1 hi)) ?_ ?_
          · refine ⟨?_, ?_, ?_, ?_, ?_, ?_, ?_, ?_, ?_, ?_, trivial⟩
            · intro vs w' F hb hd hF hl hT hq
              have e := ((hF 6).trans (look_at _ 6 11 _ _ (by kernel_rfl) (by kernel_rfl) hl)).trans ((hT 11 (by decide)).trans (show _ = V6 from by kernel_rfl))
              exact one_move _ rfl (by first | exact Or.inl rfl | exact Or.inr rfl) ⟨_, rfl, RG.same _ _ _ _, e⟩
            · intro vs w' F hb hd hF hl hT hq
              have e := (hF 8).trans (look_out _ 8 _ _ (by kernel_rfl))
              exact one_field _ _ _ rfl rfl _ _ e (0) (fun w => by kernel_rfl) ⟨_, rfl, RG.same _ _ _ _, rfl⟩
            · intro vs w' F hb hd hF hl hT hq
              have e := ((hF 31).trans (look_at _ 31 1 _ _ (by kernel_rfl) (by kernel_rfl) hl)).trans (dep_of (Fact := F_lv9 bX nv cv wA.heap.size wo.heap.size kq av V6 L) hd 1 (by kernel_rfl))
              exact one_load _ _ rfl rfl _ _ e (cell_of_row _ _ 0 _ _ _ (heap_gb H8.out hb HNX.out)) (by kernel_rfl) ⟨_, rfl, RG.same _ _ _ _, rfl⟩
            · intro vs w' F hb hd hF hl hT hq
              have e := (hF 8).trans (look_out _ 8 _ _ (by kernel_rfl))
              exact one_field _ _ _ rfl rfl _ _ e (1) (fun w => by kernel_rfl) ⟨_, rfl, RG.same _ _ _ _, rfl⟩
            · intro vs w' F hb hd hF hl hT hq
              have e := ((hF 33).trans (look_at _ 33 3 _ _ (by kernel_rfl) (by kernel_rfl) hl)).trans (dep_of (Fact := F_lv9 bX nv cv wA.heap.size wo.heap.size kq av V6 L) hd 3 (by kernel_rfl))
              exact one_load _ _ rfl rfl _ _ e (cell_of_row _ _ 1 _ _ _ (heap_gb H8.out hb HNX.out)) (by kernel_rfl) ⟨_, rfl, RG.same _ _ _ _, rfl⟩
            · intro vs w' F hb hd hF hl hT hq
              have e := ((hF 34).trans (look_at _ 34 4 _ _ (by kernel_rfl) (by kernel_rfl) hl)).trans (dep_of (Fact := F_lv9 bX nv cv wA.heap.size wo.heap.size kq av V6 L) hd 4 (by kernel_rfl))
              exact rg_len _ 22 3 rfl rfl Try.underlying22 av (nv) (cv) e ⟨_, rfl, RG.same _ _ _ _, rfl⟩
            · intro vs w' F hb hd hF hl hT hq
              have ex := (((hF 32).trans (look_at _ 32 2 _ _ (by kernel_rfl) (by kernel_rfl) hl)).trans (dep_of (Fact := F_lv9 bX nv cv wA.heap.size wo.heap.size kq av V6 L) hd 2 (by kernel_rfl)))
              have ey := (((hF 35).trans (look_at _ 35 5 _ _ (by kernel_rfl) (by kernel_rfl) hl)).trans (dep_of (Fact := F_lv9 bX nv cv wA.heap.size wo.heap.size kq av V6 L) hd 5 (by kernel_rfl)))
              exact rg_slice2 22 3 _ _ rfl rfl kq (nv : Int) ex ey Try.underlying22 (by kernel_rfl) ⟨_, rfl, RG.below (by decide) ((Below.refl _ _).alloc (Nat.le_refl _) _), _, rfl, new_ints2T _ _ _, hb.size⟩
            · intro vs w' F hb hd hF hl hT hq
              obtain ⟨b, hv2, h4, hq2⟩ := (dep_of (Fact := F_lv9 bX nv cv wA.heap.size wo.heap.size kq av V6 L) hd 6 (by kernel_rfl))
              have g0 := (((hF 30).trans (look_at _ 30 0 _ _ (by kernel_rfl) (by kernel_rfl) hl)).trans (dep_of (Fact := F_lv9 bX nv cv wA.heap.size wo.heap.size kq av V6 L) hd 0 (by kernel_rfl)))
              have g4 := ((hF 36).trans (look_at _ 36 6 _ _ (by kernel_rfl) (by kernel_rfl) hl)).trans hv2
              have hown := hq rfl
              refine wpList_append_ints rfl _ _ 22 rfl wo.heap.size 3 .i64 8 Try.underlying22 (by kernel_rfl) V6 L.length L g0 hown (some ⟨b, 0, none⟩) 2 2 [kq, (nv : Int)] g4 rfl h4 (by have := HL3.out; unfold maxLen; omega) (by have := HL3.out; omega) (Nat.le_trans (Nat.le_trans HBA.out.1 (Nat.le_of_lt HBA.out.2)) hb.size) ?_
              intro v2 w2 hown2 hg2 hor2
              exact ⟨_, rfl, RG.at_ rfl hg2, hown2⟩
            · intro vs w' F hb hd hF hl hT hq
              have e := (hF 8).trans (look_out _ 8 _ _ (by kernel_rfl))
              exact one_field _ _ _ rfl rfl _ _ e (1) (fun w => by kernel_rfl) ⟨_, rfl, RG.same _ _ _ _, rfl⟩
            · intro vs w' F hb hd hF hl hT hq
              have e := ((hF 38).trans (look_at _ 38 8 _ _ (by kernel_rfl) (by kernel_rfl) hl)).trans (dep_of (Fact := F_lv9 bX nv cv wA.heap.size wo.heap.size kq av V6 L) hd 8 (by kernel_rfl))
              exact one_load _ _ rfl rfl _ _ e (cell_of_row _ _ 1 _ _ _ (heap_gb H8.out hb HNX.out)) (by kernel_rfl) ⟨_, rfl, RG.same _ _ _ _, rfl⟩
          · intro vs8 W8 hl hb hI
            have i7 := hI 7 (by omega)
            have i9 : vs8.getD 9 undef = .slice av nv cv := hI 9 (by omega)
            obtain ⟨x0, x1, x2, x3, x4, x5, x6, x7, x8, x9, x10, x11, hvs⟩ := list12 hl
            subst hvs
            replace i7 : W8.ownsRow wo.heap.size 3 1 x7 (L.length + 2) (vints .i64 (L ++ [kq, (nv : Int)])) := i7
            replace i9 : x9 = .slice av nv cv := i9
            subst i9
            have HB8 := Lib.hid (show Below wo.heap.size wo W8 from HBJ2.out.grown hb HBJ2.out.size (fun r hr => (HVB.out r hr).1))
            have hval : IntsAt .i64 W8 av vals := HVW.out W8 HB8.out
            have hbb : wo.heap.size ≤ W8.heap.size := HB8.out.size
            have hl3 := HL3.out
            clear hI hl hb
            simp only [fillAll, Act.put, List.setIfInBounds_toArray, List.set_cons_succ, List.set_cons_zero, List.drop_succ_cons, List.drop_zero]
            go_wp2_with (at_builtin; (refine wpList_append_ints rfl _ _ 22 rfl wo.heap.size 3 .i64 8 Try.underlying22 (by kernel_rfl) x7 (L.length + 2) (L ++ [kq, (nv : Int)]) rfl i7 av nv cv vals rfl HNV.out.symm hval (by unfold maxLen; omega) (by omega) hbb ?_))
            intro v' w9 hown' hg9 hor9
            have HB9 := Lib.hid (show Below wo.heap.size wo w9 from HB8.out.grown hg9 hbb (fun r hr => (own_lt i7 r hr).1))
            have hlen : (L ++ [kq, (nv : Int)] ++ vals).length = L.length + 2 + nv := by rw [List.length_append, List.length_append, ← HNV.out]; rfl
            have HO9 := Lib.hid (show w9.ownsRow wo.heap.size 3 1 v' (L ++ [kq, (nv : Int)] ++ vals).length (vints .i64 (L ++ [kq, (nv : Int)] ++ vals)) by rw [hlen, List.append_assoc]; exact hown')
            clear hown' hg9 hor9 hlen i7 hval hbb hl3
            go_wp2_with fail
            go_roundg (nc - (j + 1))
            case measure => rw [G3.out]; have := HJL.out; omega
            case rel => have := HJL.out; exact ⟨j + 1, _, _, rfl, by omega, rfl, (by first | rfl | go_num | simp), HO9, HT2, HB9⟩
        · obtain rfl : j = nc := by omega
          have hT := HTJ.out
          rw [HNC.out, List.drop_length] at hT
          have hLe : L = leafI t := by rw [← hT]; simp
          subst hLe
          obtain ⟨a6, c6, hv6⟩ := own_slice HOL.out
          subst hv6
          have hl6 : (leafI t).length ≤ 100000 := HTB.out
          obtain ⟨n6, hn6⟩ : ∃ n6, n6 = (leafI t).length := ⟨_, rfl⟩
          have hin := IntsAt.of_own HOL.out rfl
          rw [← hn6] at HOL ⊢
          have CD := Lib.hid (CS.out (leafI t) a6 c6 n6 hn6 (by omega) wr hin)
          obtain ⟨dg, hdg⟩ : ∃ d, d = dig (leafI t) := ⟨_, rfl⟩
          rw [← hdg] at CD
          have HDG := Lib.hid hdg
          have hbw := HBW.out.trans (HBJ.out.mono HBW.out.size)
          have HBR := Lib.hid hbw
          have HOR := Lib.hid (own_below HO.out HBJ.out)
          clear hT hl6 hn6 hin hdg hbw HOL HTJ
          go_wp2_with fail
          refine CD.out.mono ?_
          rintro e w8 ⟨rfl, hb8⟩
          have HBR8 := Lib.hid (bt HBR.out hb8)
          have hor8 := own_below HOR.out hb8
          have h1 := H1.out
          have hlt' := HLT.out
          have hbs : W.heap.size ≤ w8.heap.size := HBR8.out.size
          rw [show vints .u64 ((its.take i).map leafD) = vints .u64 ((its.take i).map leafD) from rfl] at hor8
          clear hb8 CD
          go_wp2_with (at_builtin; (refine wpList_append_new rfl _ _ 34 rfl W.heap.size 31 (.int .u64 0) 1 8 Try.underlying34 (by kernel_rfl) rfl (by decide) V i _ rfl hor8 _ _ rfl rfl rfl (by omega) (by decide) hbs ?_))
          intro g' cap' w9 hown' hg9 hor9 hlt9
          have HO9 := Lib.hid (show w9.ownsRow W.heap.size 31 1 (.slice (some ⟨g', 0, none⟩) (i + 1) cap') (i + 1) (vints .u64 ((its.take (i + 1)).map leafD)) by
            rw [HTI.out, List.map_append]
            unfold vints
            rw [List.map_append]
            have e : leafD t = (dg : Int) := by rw [HDG.out]; rfl
            simp only [List.map_cons, List.map_nil, e]
            have h := hown'
            rw [← List.map_take] at h
            exact h)
          have HB9 := Lib.hid (show Below W.heap.size W w9 from HBR8.out.grown hg9 hbs (fun r hr => (own_lt hor8 r hr).1))
          clear hown' hg9 hor9 hlt9 hor8 hbs h1 hlt'
          go_wp2_with fail
          go_roundg (m - (i + 1))
          case measure => rw [GM2.out]; have := HLT.out; omega
          case rel => have := HLT.out; exact ⟨i + 1, _, rfl, by omega, rfl, (by first | rfl | go_num | simp), HO9, HB9⟩
    · obtain rfl : i = m := by omega
      have ho := HO.out
      rw [← HM.out, List.take_length, HM.out] at ho
      obtain ⟨a, c, hv⟩ := own_slice ho
      obtain ⟨_, hcc, hmm⟩ : True ∧ i ≤ c ∧ c ≤ 9223372036854775807 := by
        rcases ho.2 with ⟨h, h0⟩ | ⟨g, cap, cur, k1, k2, k3, k4, k5, _⟩
        · rw [h] at hv; injection hv with _ e1 e2; exact ⟨trivial, by omega, by omega⟩
        · rw [k1] at hv; injection hv with _ e1 e2; unfold maxLen at k5; exact ⟨trivial, by omega, by omega⟩
      subst hv
      have HIN := Lib.hid (IntsAt.of_own ho (by rw [List.length_map, HM.out]))
      have HCC := Lib.hid (And.intro hcc hmm)
      clear ho hcc hmm HO
      go_wp2_with fail
      go_ret
      exact ⟨⟨a, c, rfl, HCC.out.1, HCC.out.2, HIN.out⟩, HBW.out⟩
end Go.Proofs.Ytncnbfefciobcaa
end
