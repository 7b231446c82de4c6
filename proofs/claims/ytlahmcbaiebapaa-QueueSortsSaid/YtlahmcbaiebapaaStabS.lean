/- slices.SortStableFunc at integers. -/
import Derived.Test.YtlahmcbaiebapaaStabG
import Derived.Test.YtlahmcbaiebapaaStabB
namespace Go.Proofs.Ytlahmcbaiebapaa
open Go.ChangeShapes Go.WideShapes Go.ChangeAt Go.RowKit Go.Mem Go.Sb
set_option linter.unusedVariables false
theorem sym_all (fid : Nat) (caps : Array Value) (K : Int → Int) (n g : Nat) (W0 : World) (hc : CmpOk fid caps K n g W0) (he : ∀ args w, (callFunc fid args).run Try.prog w = .ok (.enter fid args) w) (N c : Nat) (h1 : N ≤ 1048576) : ∀ L, SymOk fid caps K n g W0 N c L := by
  intro L
  induction L with
  | zero => intro D P A B S a m b hL; omega
  | succ L ih =>
    intro D P A B S a m b hL hR hA hB hN hr w hs
    by_cases ha : A.length = 1
    · exact sym_left fid caps K n g W0 hc he D P A B S a m b N c hR ha hN h1 hr w hs
    · by_cases hb : B.length = 1
      · exact sym_right fid caps K n g W0 hc he D P A B S a m b N c hR (by omega) hb hN h1 hr w hs
      · exact sym_gen fid caps K n g W0 hc he D P A B S a m b N c hR (by omega) (by omega) hN h1 hr (fun D P A B S a' m' b' hL' => ih D P A B S a' m' b' (by omega)) w hs
theorem sym_call (fid : Nat) (caps : Array Value) (K : Int → Int) (n g : Nat) (W0 : World) (hc : CmpOk fid caps K n g W0) (he : ∀ args w, (callFunc fid args).run Try.prog w = .ok (.enter fid args) w) (P A B S : List Int) (a m b N c : Nat) (hN : (P ++ A ++ B ++ S).length = N) (h1 : N ≤ 1048576)
    (ha : P.length = a) (hm : a + A.length = m) (hb : m + B.length = b) (hA : 0 < A.length) (hB : 0 < B.length) (ba : Blk K a A) (bb : Blk K (a + A.length) B) (hr : InR n (A ++ B)) (w : World) (hs : StS g W0 w (P ++ A ++ B ++ S)) :
    Calls Try.prog 122 #[.slice (some ⟨g, 0, none⟩) N c, .int .i64 (a : Int), .int .i64 (m : Int), .int .i64 (b : Int), .func (.func fid) #[] caps] w (MPost K g W0 P A B S) :=
  sym_all fid caps K n g W0 hc he N c h1 (b - a + 1) (P ++ A ++ B ++ S) P A B S a m b (by omega) ⟨rfl, ha, hm, hb, ba.1, bb.1, ba.ix bb⟩ hA hB hN hr w hs
theorem blk_in {K : Int → Int} {lo n : Nat} {B : List Int} (h : Blk K lo B) (hn : lo + B.length ≤ n) : InR n B := fun x hx => by
  have := h.mem hx; omega
theorem inr_app {n : Nat} {A B : List Int} (h : InR n A) (h2 : InR n B) : InR n (A ++ B) := fun x hx => by
  rcases List.mem_append.1 hx with h3 | h3
  · exact h x h3
  · exact h2 x h3
def StablePost (K : Int → Int) (n g : Nat) (W0 : World) (e : Ending) (w' : World) : Prop := ∃ D, Srt K D ∧ D.Perm (iotaF 0 n) ∧ SPost g W0 D e w'

set_option maxRecDepth 100000 in
set_option maxHeartbeats 16000000 in
theorem stable_run (fid : Nat) (caps : Array Value) (K : Int → Int) (n g : Nat) (W0 : World) (hc : CmpOk fid caps K n g W0) (he : ∀ args w, (callFunc fid args).run Try.prog w = .ok (.enter fid args) w) (c : Nat) (h1 : n ≤ 1048576) (w : World) (hs : StS g W0 w (iotaF 0 n)) :
    Calls Try.prog 98 #[.slice (some ⟨g, 0, none⟩) n c, .int .i64 (n : Int), .func (.func fid) #[] caps] w (StablePost K n g W0) := by
  have HC := Lib.hid hc
  have HE := Lib.hid he
  have HS := Lib.hid hs
  clear hc he hs
  go_enter Try.func98, Try.ntmps98
  go_wp2_with fail
  go_loopg [7, 8] n (fun gk va vb wx => ∃ (a b : Nat) (Bs : List (List Int)), gk = n - a ∧ va = .int .i64 a ∧ vb = .int .i64 b ∧ b = a + 20 ∧ a ≤ n ∧ Blks K 20 0 Bs ∧ Bs.flatten.length = a ∧ StS g W0 wx (Bs.flatten ++ iotaF a (n - a)))
  case atStart => exact ⟨0, 20, [], rfl, rfl, rfl, rfl, Nat.zero_le _, trivial, rfl, by simpa using HS.out⟩
  case round =>
    clear HS
    obtain ⟨a, b, Bs, g2, rfl, rfl, hb, han, hbl, hfl, hst⟩ := hrel
    have G2 := Lib.hid g2
    have HBL := Lib.hid hbl
    have HFL := Lib.hid hfl
    have HS := Lib.hid hst
    have hb1 : b ≤ a + 20 := by omega
    have hb2 : a + 20 ≤ b := by omega
    clear g2 hbl hfl hst hb
    by_cases hlt : b ≤ n
    · have hsp : iotaF a (n - a) = iotaF a 20 ++ iotaF b (n - b) := by
        have := iota_app a 20 (n - b)
        rwa [show 20 + (n - b) = n - a by omega, show a + 20 = b by omega] at this
      have CI := ins_sort fid caps K n g W0 HC.out HE.out Bs.flatten (iotaF a 20) (iotaF b (n - b)) a b n c HFL.out (by rw [iota_len]; omega) (by simp only [List.length_append, iota_len]; rw [HFL.out]; omega) h1 (iota_rise _ _) (fun x hx => by have := iota_mem hx; omega) wr (by have := HS.out; rw [hsp] at this; simpa using this)
      have HCI := Lib.hid CI
      have e1 : (b : Int) + 20 = ((b + 20 : Nat) : Int) := by omega
      obtain ⟨b9, hb9⟩ : ∃ b9, b9 = b + 20 := ⟨_, rfl⟩
      rw [← hb9] at e1
      have HB9 := Lib.hid hb9
      clear CI hsp HS hb9
      go_wp2_with fail
      refine HCI.out.mono ?_
      rintro e w1 ⟨M, hp, hsr, rfl, hs1⟩
      have hml : M.length = 20 := by rw [hp.length_eq, iota_len]
      have HM := Lib.hid hml
      have HB2 := Lib.hid (blks_snoc HBL.out hml (by rw [Nat.zero_add, HFL.out]; exact ⟨hsr, by rw [hml]; exact hp⟩))
      have HS1 := Lib.hid (show StS g W0 w1 ((Bs ++ [M]).flatten ++ iotaF b (n - b)) by simpa using hs1)
      clear hs1 hp hsr HCI hml
      go_wp2_with fail
      go_roundg (n - b)
      case measure => rw [G2.out]; omega
      case rel => exact ⟨b, b9, Bs ++ [M], rfl, rfl, rfl, HB9.out, hlt, HB2.out, by rw [List.flatten_append, List.length_append, HFL.out]; simp [HM.out]; omega, HS1.out⟩
    · have CI := ins_sort fid caps K n g W0 HC.out HE.out Bs.flatten (iotaF a (n - a)) [] a n n c HFL.out (by rw [iota_len]; omega) (by simp only [List.length_append, iota_len, List.length_nil]; rw [HFL.out]; omega) h1 (iota_rise _ _) (fun x hx => by have := iota_mem hx; omega) wr (by simpa using HS.out)
      have HCI := Lib.hid CI
      clear CI HS
      go_wp2_with fail
      refine HCI.out.mono ?_
      rintro e w1 ⟨M, hp, hsr, rfl, hs1⟩
      have hml : M.length = n - a := by rw [hp.length_eq, iota_len]
      have HL1 := Lib.hid (show Lay K 20 n (Bs.flatten ++ M) Bs M from ⟨rfl, by rw [List.length_append, HFL.out, hml]; omega, HBL.out, by omega, by rw [HFL.out]; exact ⟨hsr, by rw [hml]; exact hp⟩⟩)
      have HS1 := Lib.hid (show StS g W0 w1 (Bs.flatten ++ M) by simpa using hs1)
      clear hs1 hp hsr HCI hml HBL HFL G2 hlt hb1 hb2 han
      go_wp2_with fail
      go_loopg [6, 7, 8, 9] (n - 20) (fun gk vs _ _ _ wx => ∃ (bs : Nat) (D : List Int) (Bs : List (List Int)) (T : List Int), gk = n - bs ∧ vs = .int .i64 bs ∧ 20 ≤ bs ∧ bs ≤ 2097152 ∧ Lay K bs n D Bs T ∧ StS g W0 wx D)
      case atStart => exact ⟨20, _, Bs, M, rfl, rfl, by omega, by omega, HL1.out, HS1.out⟩
      case round =>
        clear HS1 HL1
        obtain ⟨bs, D, Bs2, T, g3, rfl, hbs, hbs2, hlay, hst⟩ := hrel
        have G3 := Lib.hid g3
        have HL := Lib.hid hlay
        have HS := Lib.hid hst
        clear g3 hlay hst
        by_cases hlt : bs < n
        · obtain ⟨b2, hb2⟩ : ∃ b2, b2 = 2 * bs := ⟨_, rfl⟩
          have e1 : 2 * (bs : Int) = (b2 : Int) := by omega
          have e2 : (bs : Int) * 2 = (b2 : Int) := by omega
          have HB2 := Lib.hid hb2
          have hb3 : b2 ≤ 2097152 := by omega
          have hb4 : b2 ≤ 2 * bs := by omega
          have hb5 : 2 * bs ≤ b2 := by omega
          obtain ⟨wo, rfl⟩ : ∃ wo : World, wo = wr := ⟨_, rfl⟩
          have HL2 := Lib.hid HL.out.start
          clear hb2
          go_wp2_with fail
          go_loopg [7, 8] n (fun gk va vb wx => ∃ (a b : Nat) (D : List Int) (Ds Rs : List (List Int)) (T : List Int), gk = n - a ∧ va = .int .i64 a ∧ vb = .int .i64 b ∧ b = a + b2 ∧ a ≤ n ∧ Lay2 K bs n a D Ds Rs T ∧ StS g W0 wx D)
          case atStart => exact ⟨0, b2, D, [], Bs2, T, rfl, rfl, rfl, by omega, Nat.zero_le _, HL2.out, HS.out⟩
          case round =>
            clear HS HL2 HL
            obtain ⟨a, b, D, Ds, Rs, T, g4, rfl, rfl, hb, han, hlay, hst⟩ := hrel
            have G4 := Lib.hid g4
            have HL := Lib.hid hlay
            have HS := Lib.hid hst
            have hbb1 : b ≤ a + b2 := by omega
            have hbb2 : a + b2 ≤ b := by omega
            clear g4 hlay hst hb
            obtain ⟨m, hm⟩ : ∃ m, m = a + bs := ⟨_, rfl⟩
            have e3 : (a : Int) + (bs : Int) = (m : Int) := by omega
            have HMM := Lib.hid hm
            have hm1 : m ≤ a + bs := by omega
            have hm2 : a + bs ≤ m := by omega
            clear hm
            by_cases hlt2 : b ≤ n
            · obtain ⟨R1, R2, Rs', hRs, l1, l2, k1, k2, hD⟩ := HL.out.two (by omega)
              have hNn : (Ds.flatten ++ R1 ++ R2 ++ (Rs'.flatten ++ T)).length = n := by rw [← hD]; exact HL.out.len
              have CS := sym_call fid caps K n g W0 HC.out HE.out Ds.flatten R1 R2 (Rs'.flatten ++ T) a m b n c hNn h1 HL.out.ha (by omega) (by omega) (by omega) (by omega) k1 k2 (inr_app (blk_in k1 (by omega)) (blk_in k2 (by omega))) wr (by have := HS.out; rw [hD] at this; exact this)
              have HCS := Lib.hid CS
              have HR := Lib.hid hRs
              obtain ⟨b9, hb9⟩ : ∃ b9, b9 = b + b2 := ⟨_, rfl⟩
              have e4 : (b : Int) + (b2 : Int) = (b9 : Int) := by omega
              have HB9 := Lib.hid hb9
              clear CS hNn hD l1 l2 k1 k2 hRs HS hb9
              go_wp2_with fail
              refine HCS.out.mono ?_
              rintro e w1 ⟨M, hmg, rfl, hs1⟩
              have hl3 := HL.out
              rw [HR.out] at hl3
              have HL3 := Lib.hid (show Lay2 K bs n b (Ds.flatten ++ M ++ (Rs'.flatten ++ T)) (Ds ++ [M]) Rs' T by
                have := hl3.step hmg
                rwa [show a + 2 * bs = b by omega] at this)
              have HS1 := Lib.hid hs1
              clear hs1 hmg hl3 HCS
              go_wp2_with fail
              go_roundg (n - b)
              case measure => rw [G4.out]; omega
              case rel => exact ⟨b, b9, _, _, _, _, rfl, rfl, rfl, HB9.out, hlt2, HL3.out, HS1.out⟩
            · rcases HL.out.rest (by omega) with ⟨R, hR, l1, k1, k2, hD, hsum⟩ | ⟨hlay, hlt4⟩
              · by_cases ht : T.length = 0
                · have hT : T = [] := List.eq_nil_of_length_eq_zero ht
                  have hl3 := HL.out
                  rw [hR] at hl3
                  have HL3 := Lib.hid (show Lay K b2 n D Ds R by
                    have := hl3.last (M := R) (by rw [hT]; exact merged_nil_right k1.1)
                    rw [show 2 * bs = b2 by omega] at this
                    rw [show D = Ds.flatten ++ R ++ [] by rw [hD, hT]; simp]
                    exact this)
                  have hmn : n ≤ m := by omega
                  clear hl3 hT hR hD k1 k2 l1 ht
                  go_wp2_with fail
                  go_roundg (n - b2)
                  case measure => rw [G3.out]; omega
                  case rel => exact ⟨b2, D, Ds, R, rfl, rfl, by omega, hb3, HL3.out, HS.out⟩
                · have hNn : (Ds.flatten ++ R ++ T ++ []).length = n := by rw [← hD]; exact HL.out.len
                  have CS := sym_call fid caps K n g W0 HC.out HE.out Ds.flatten R T [] a m n n c hNn h1 HL.out.ha (by omega) (by omega) (by omega) (by omega) k1 k2 (inr_app (blk_in k1 (by omega)) (blk_in k2 (by omega))) wr (by have := HS.out; rw [hD] at this; exact this)
                  have HCS := Lib.hid CS
                  have hmn : m < n := by omega
                  have hl3 := HL.out
                  rw [hR] at hl3
                  have HL3 := Lib.hid hl3
                  clear CS hNn hD l1 k1 k2 hR HS ht hl3
                  go_wp2_with fail
                  refine HCS.out.mono ?_
                  rintro e w1 ⟨M, hmg, rfl, hs1⟩
                  have HL4 := Lib.hid (show Lay K b2 n (Ds.flatten ++ M ++ []) Ds M by
                    have := HL3.out.last hmg
                    rwa [show 2 * bs = b2 by omega] at this)
                  have HS1 := Lib.hid hs1
                  clear hs1 hmg HCS
                  go_wp2_with fail
                  go_roundg (n - b2)
                  case measure => rw [G3.out]; omega
                  case rel => exact ⟨b2, _, Ds, M, rfl, rfl, by omega, hb3, HL4.out, HS1.out⟩
              · have hmn : n ≤ m := by omega
                have HL3 := Lib.hid (show Lay K b2 n D Ds T by rw [show b2 = 2 * bs by omega]; exact hlay)
                clear hlay
                go_wp2_with fail
                go_roundg (n - b2)
                case measure => rw [G3.out]; omega
                case rel => exact ⟨b2, D, Ds, T, rfl, rfl, by omega, hb3, HL3.out, HS.out⟩
        · have hdone := HL.out.done (by omega)
          have HDN := Lib.hid hdone
          clear hdone
          go_wp2_with fail
          go_end0
          exact ⟨D, HDN.out.1, HDN.out.2, rfl, HS.out⟩
theorem sort_stable (fid : Nat) (caps : Array Value) (K : Int → Int) (n g : Nat) (W0 : World) (hc : CmpOk fid caps K n g W0) (he : ∀ args w, (callFunc fid args).run Try.prog w = .ok (.enter fid args) w) (c : Nat) (h1 : n ≤ 1048576) (w : World) (hs : StS g W0 w (iotaF 0 n)) :
    Calls Try.prog 53 #[.slice (some ⟨g, 0, none⟩) n c, .func (.func fid) #[] caps] w (StablePost K n g W0) := by
  have HC := Lib.hid (stable_run fid caps K n g W0 hc he c h1 w hs)
  clear hc hs he
  go_enter Try.func53, Try.ntmps53
  go_wp2_with fail
  refine HC.out.mono ?_
  rintro e w1 ⟨D, h2, h3, rfl, h4⟩
  go_wp2_with fail
  go_end0
  exact ⟨D, h2, h3, rfl, h4⟩
end Go.Proofs.Ytlahmcbaiebapaa
