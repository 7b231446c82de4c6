/-
  No cell of these rows narrows 'for every input' (looked for: loops, veiled, ifaces, maps, wideKeys, modest, calm, conditions, laid).
  DERIVED. THE GIVEN ROWS OF THIS SEAT. 11 by the template 'for every input the law returns true; each argument reads behind the call as it read before'; 0 by the template 'total and deterministic' (their statements: YtehpfkmaikbjkaaTotals.lean).
  GIVEN WITH THE SEED: the statements are not yours to turn. If you find one false, say at which input.
  Laid BY PROGRAM, IN A SANDBOX (cutbox-rows.mjs): the forced cells as the released guide's own fill.sh prints them over the translation 6149fa8f15b221ec… (all of the seat's roots in one cut). By AI agents, Wed Nov 11 2026. No macro, syntax, notation, axiom, sorry.
-/
import Derived.Test.YtehpfkmaikbjkaaChecked
import GoSem.Claim
import GoSem.ClaimJoined
import GoSem.ClaimMapViews
import Derived.JoinedTies
import Derived.KernelRfl
namespace Go.Proofs.Ytehpfkmaikbjkaa
/- THE CELL 'sum', in the pinned program and in every row, IS THE sha256 OF THE DUMP (.gsa) THAT YtehpfkmaikbjkaaProg.lean LOADS. Nothing in Lean hashes anything: it is a label: what it is worth is what the hold of that sum in a sandbox is worth. -/
noncomputable def Try.pinned : Pinned := { name := "ytehpfkmaikbjkaa", sum := "6149fa8f15b221ec0405a727c21597e2b621c598c2225e839730f01a59d5efb3", checked := Try.checked }
namespace Rows
def none {H : Type} : Left H := { results := [], args := [] }

/-- 'tourlaw1.Names': WHATEVER THE INPUT: true; the input reads as it did. -/
def namesSpec : ChangeSpec := { name := "names", fn := fun _ => fun
  | [] => { results := [.lit (.bool true)], args := [] }
  | _ => none }
def namesRow : OpenClaim := { program := "ytehpfkmaikbjkaa", sum := "6149fa8f15b221ec0405a727c21597e2b621c598c2225e839730f01a59d5efb3", func := "tourney/tourlaw1.Names", spec := "names", apart := false }
def NamesSaid : Prop := namesRow.holds Try.pinned (OpenSpec.ofChange namesSpec)

/-- ITS FALSE NEIGHBOUR: 'it returns false'. Refute it at one input. -/
def namesWrong : ChangeSpec := { name := "names", fn := fun _ => fun
  | [] => { results := [.lit (.bool false)], args := [] }
  | _ => none }
def NamesWrongFalsely : Prop := namesRow.holds Try.pinned (OpenSpec.ofChange namesWrong)

/-- 'tourlaw1.TrigTells': WHATEVER THE INPUT: true; the input reads as it did. -/
def trigTellsSpec : ChangeSpec := { name := "trigTells", fn := fun _ => fun
  | [d] => { results := [.lit (.bool true)], args := [d] }
  | _ => none }
def trigTellsRow : OpenClaim := { program := "ytehpfkmaikbjkaa", sum := "6149fa8f15b221ec0405a727c21597e2b621c598c2225e839730f01a59d5efb3", func := "tourney/tourlaw1.TrigTells", spec := "trigTells", recurses := true, apart := false }
def TrigTellsSaid : Prop := trigTellsRow.holds Try.pinned (OpenSpec.ofChange trigTellsSpec)

/-- ITS FALSE NEIGHBOUR: 'it returns false'. Refute it at one input. -/
def trigTellsWrong : ChangeSpec := { name := "trigTells", fn := fun _ => fun
  | [d] => { results := [.lit (.bool false)], args := [d] }
  | _ => none }
def TrigTellsWrongFalsely : Prop := trigTellsRow.holds Try.pinned (OpenSpec.ofChange trigTellsWrong)

/-- 'tourlaw1.FixRoots': WHATEVER THE INPUT: true; the input reads as it did. -/
def fixRootsSpec : ChangeSpec := { name := "fixRoots", fn := fun _ => fun
  | [d1, d2, d3] => { results := [.lit (.bool true)], args := [d1, d2, d3] }
  | _ => none }
def fixRootsRow : OpenClaim := { program := "ytehpfkmaikbjkaa", sum := "6149fa8f15b221ec0405a727c21597e2b621c598c2225e839730f01a59d5efb3", func := "tourney/tourlaw1.FixRoots", spec := "fixRoots", inPlace := ["math/bits.Add64"], unfollowed := true, recurses := true, apart := false }
def FixRootsSaid : Prop := fixRootsRow.holds Try.pinned (OpenSpec.ofChange fixRootsSpec)

/-- ITS FALSE NEIGHBOUR: 'it returns false'. Refute it at one input. -/
def fixRootsWrong : ChangeSpec := { name := "fixRoots", fn := fun _ => fun
  | [d1, d2, d3] => { results := [.lit (.bool false)], args := [d1, d2, d3] }
  | _ => none }
def FixRootsWrongFalsely : Prop := fixRootsRow.holds Try.pinned (OpenSpec.ofChange fixRootsWrong)

/-- 'tourlaw1.TrigAngles': WHATEVER THE INPUT: true; the input reads as it did. -/
def trigAnglesSpec : ChangeSpec := { name := "trigAngles", fn := fun _ => fun
  | [d1, d2] => { results := [.lit (.bool true)], args := [d1, d2] }
  | _ => none }
def trigAnglesRow : OpenClaim := { program := "ytehpfkmaikbjkaa", sum := "6149fa8f15b221ec0405a727c21597e2b621c598c2225e839730f01a59d5efb3", func := "tourney/tourlaw1.TrigAngles", spec := "trigAngles", unfollowed := true, recurses := true, apart := false }
def TrigAnglesSaid : Prop := trigAnglesRow.holds Try.pinned (OpenSpec.ofChange trigAnglesSpec)

/-- ITS FALSE NEIGHBOUR: 'it returns false'. Refute it at one input. -/
def trigAnglesWrong : ChangeSpec := { name := "trigAngles", fn := fun _ => fun
  | [d1, d2] => { results := [.lit (.bool false)], args := [d1, d2] }
  | _ => none }
def TrigAnglesWrongFalsely : Prop := trigAnglesRow.holds Try.pinned (OpenSpec.ofChange trigAnglesWrong)

/-- 'tourlaw1.VecLengths': WHATEVER THE INPUT: true; the input reads as it did. -/
def vecLengthsSpec : ChangeSpec := { name := "vecLengths", fn := fun _ => fun
  | [d] => { results := [.lit (.bool true)], args := [d] }
  | _ => none }
def vecLengthsRow : OpenClaim := { program := "ytehpfkmaikbjkaa", sum := "6149fa8f15b221ec0405a727c21597e2b621c598c2225e839730f01a59d5efb3", func := "tourney/tourlaw1.VecLengths", spec := "vecLengths", inPlace := ["math/bits.Add64"], unfollowed := true, recurses := true, apart := false }
def VecLengthsSaid : Prop := vecLengthsRow.holds Try.pinned (OpenSpec.ofChange vecLengthsSpec)

/-- ITS FALSE NEIGHBOUR: 'it returns false'. Refute it at one input. -/
def vecLengthsWrong : ChangeSpec := { name := "vecLengths", fn := fun _ => fun
  | [d] => { results := [.lit (.bool false)], args := [d] }
  | _ => none }
def VecLengthsWrongFalsely : Prop := vecLengthsRow.holds Try.pinned (OpenSpec.ofChange vecLengthsWrong)

/-- 'tourlaw1.BorderTells': WHATEVER THE INPUT: true; the input reads as it did. -/
def borderTellsSpec : ChangeSpec := { name := "borderTells", fn := fun _ => fun
  | [d1, d2] => { results := [.lit (.bool true)], args := [d1, d2] }
  | _ => none }
def borderTellsRow : OpenClaim := { program := "ytehpfkmaikbjkaa", sum := "6149fa8f15b221ec0405a727c21597e2b621c598c2225e839730f01a59d5efb3", func := "tourney/tourlaw1.BorderTells", spec := "borderTells", inPlace := ["math.Float64frombits", "math.Float64bits", "math.archTrunc"], apart := false }
def BorderTellsSaid : Prop := borderTellsRow.holds Try.pinned (OpenSpec.ofChange borderTellsSpec)

/-- ITS FALSE NEIGHBOUR: 'it returns false'. Refute it at one input. -/
def borderTellsWrong : ChangeSpec := { name := "borderTells", fn := fun _ => fun
  | [d1, d2] => { results := [.lit (.bool false)], args := [d1, d2] }
  | _ => none }
def BorderTellsWrongFalsely : Prop := borderTellsRow.holds Try.pinned (OpenSpec.ofChange borderTellsWrong)

/-- 'tourlaw1.BorderLists': WHATEVER THE INPUT: true; the input reads as it did. -/
def borderListsSpec : ChangeSpec := { name := "borderLists", fn := fun _ => fun
  | [d] => { results := [.lit (.bool true)], args := [d] }
  | _ => none }
def borderListsRow : OpenClaim := { program := "ytehpfkmaikbjkaa", sum := "6149fa8f15b221ec0405a727c21597e2b621c598c2225e839730f01a59d5efb3", func := "tourney/tourlaw1.BorderLists", spec := "borderLists", inPlace := ["math.Float64frombits", "math.Float64bits", "math.archTrunc"], apart := false }
def BorderListsSaid : Prop := borderListsRow.holds Try.pinned (OpenSpec.ofChange borderListsSpec)

/-- ITS FALSE NEIGHBOUR: 'it returns false'. Refute it at one input. -/
def borderListsWrong : ChangeSpec := { name := "borderLists", fn := fun _ => fun
  | [d] => { results := [.lit (.bool false)], args := [d] }
  | _ => none }
def BorderListsWrongFalsely : Prop := borderListsRow.holds Try.pinned (OpenSpec.ofChange borderListsWrong)

/-- 'tourlaw1.FixTells': WHATEVER THE INPUT: true; the input reads as it did. -/
def fixTellsSpec : ChangeSpec := { name := "fixTells", fn := fun _ => fun
  | [d1, d2, d3] => { results := [.lit (.bool true)], args := [d1, d2, d3] }
  | _ => none }
def fixTellsRow : OpenClaim := { program := "ytehpfkmaikbjkaa", sum := "6149fa8f15b221ec0405a727c21597e2b621c598c2225e839730f01a59d5efb3", func := "tourney/tourlaw1.FixTells", spec := "fixTells", unfollowed := true, recurses := true, named := ["math/bits.divideError", "math/bits.overflowError"], apart := false }
def FixTellsSaid : Prop := fixTellsRow.holds Try.pinned (OpenSpec.ofChange fixTellsSpec)

/-- ITS FALSE NEIGHBOUR: 'it returns false'. Refute it at one input. -/
def fixTellsWrong : ChangeSpec := { name := "fixTells", fn := fun _ => fun
  | [d1, d2, d3] => { results := [.lit (.bool false)], args := [d1, d2, d3] }
  | _ => none }
def FixTellsWrongFalsely : Prop := fixTellsRow.holds Try.pinned (OpenSpec.ofChange fixTellsWrong)

/-- 'tourlaw1.VecTells': WHATEVER THE INPUT: true; the input reads as it did. -/
def vecTellsSpec : ChangeSpec := { name := "vecTells", fn := fun _ => fun
  | [d1, d2, d3, d4] => { results := [.lit (.bool true)], args := [d1, d2, d3, d4] }
  | _ => none }
def vecTellsRow : OpenClaim := { program := "ytehpfkmaikbjkaa", sum := "6149fa8f15b221ec0405a727c21597e2b621c598c2225e839730f01a59d5efb3", func := "tourney/tourlaw1.VecTells", spec := "vecTells", unfollowed := true, recurses := true, named := ["math/bits.divideError", "math/bits.overflowError"], apart := false }
def VecTellsSaid : Prop := vecTellsRow.holds Try.pinned (OpenSpec.ofChange vecTellsSpec)

/-- ITS FALSE NEIGHBOUR: 'it returns false'. Refute it at one input. -/
def vecTellsWrong : ChangeSpec := { name := "vecTells", fn := fun _ => fun
  | [d1, d2, d3, d4] => { results := [.lit (.bool false)], args := [d1, d2, d3, d4] }
  | _ => none }
def VecTellsWrongFalsely : Prop := vecTellsRow.holds Try.pinned (OpenSpec.ofChange vecTellsWrong)

/-- 'tourlaw1.QuatTells': WHATEVER THE INPUT: true; the input reads as it did. -/
def quatTellsSpec : ChangeSpec := { name := "quatTells", fn := fun _ => fun
  | [d1, d2, d3] => { results := [.lit (.bool true)], args := [d1, d2, d3] }
  | _ => none }
def quatTellsRow : OpenClaim := { program := "ytehpfkmaikbjkaa", sum := "6149fa8f15b221ec0405a727c21597e2b621c598c2225e839730f01a59d5efb3", func := "tourney/tourlaw1.QuatTells", spec := "quatTells", inPlace := ["math/bits.Add64"], unfollowed := true, recurses := true, named := ["math/bits.divideError", "math/bits.overflowError"], apart := false }
def QuatTellsSaid : Prop := quatTellsRow.holds Try.pinned (OpenSpec.ofChange quatTellsSpec)

/-- ITS FALSE NEIGHBOUR: 'it returns false'. Refute it at one input. -/
def quatTellsWrong : ChangeSpec := { name := "quatTells", fn := fun _ => fun
  | [d1, d2, d3] => { results := [.lit (.bool false)], args := [d1, d2, d3] }
  | _ => none }
def QuatTellsWrongFalsely : Prop := quatTellsRow.holds Try.pinned (OpenSpec.ofChange quatTellsWrong)

/-- 'tourlaw1.QuatTurns': WHATEVER THE INPUT: true; the input reads as it did. -/
def quatTurnsSpec : ChangeSpec := { name := "quatTurns", fn := fun _ => fun
  | [d1, d2, d3, d4] => { results := [.lit (.bool true)], args := [d1, d2, d3, d4] }
  | _ => none }
def quatTurnsRow : OpenClaim := { program := "ytehpfkmaikbjkaa", sum := "6149fa8f15b221ec0405a727c21597e2b621c598c2225e839730f01a59d5efb3", func := "tourney/tourlaw1.QuatTurns", spec := "quatTurns", inPlace := ["math/bits.Add64"], unfollowed := true, recurses := true, named := ["math/bits.divideError", "math/bits.overflowError"], apart := false }
def QuatTurnsSaid : Prop := quatTurnsRow.holds Try.pinned (OpenSpec.ofChange quatTurnsSpec)

/-- ITS FALSE NEIGHBOUR: 'it returns false'. Refute it at one input. -/
def quatTurnsWrong : ChangeSpec := { name := "quatTurns", fn := fun _ => fun
  | [d1, d2, d3, d4] => { results := [.lit (.bool false)], args := [d1, d2, d3, d4] }
  | _ => none }
def QuatTurnsWrongFalsely : Prop := quatTurnsRow.holds Try.pinned (OpenSpec.ofChange quatTurnsWrong)

/- THE SECOND FORM. 'bulk': how many values and letters a reading holds, each counted each time it is reached (what is shared counts as often as it is met; a slice's spare places count too). A statement '..UptoSaid' is the law's where the arguments, and the package variables that the reading takes, are together of bulk at most 1048576: NARROWER than '..Said'. Prove '..Said' where nothing that the law and all that it calls make is longer than what came in: it says more and counts as full. Else prove '..UptoSaid'. A law counts once. -/
mutual
def uptoBulk {H : Type} : DataW H → Nat
  | .lit (.string bytes) => bytes.length + 1
  | .lit _ => 1
  | .nil => 1
  | .ptr d => uptoBulk d + 1
  | .slice elems spare => uptoBulkAll elems + uptoBulkAll spare + 1
  | .agg parts => uptoBulkAll parts + 1
  | .iface _ d => uptoBulk d + 1
  | .map entries => uptoBulkEntries entries + 1
  | .held _ => 1
def uptoBulkAll {H : Type} : List (DataW H) → Nat
  | [] => 0
  | d :: r => uptoBulk d + uptoBulkAll r
def uptoBulkEntries {H : Type} : List (Lit × DataW H) → Nat
  | [] => 0
  | x :: r => uptoBulkEntry x + uptoBulkEntries r
def uptoBulkEntry {H : Type} : Lit × DataW H → Nat
  | (.string bytes, d) => bytes.length + uptoBulk d + 1
  | (_, d) => uptoBulk d + 1
 end
def uptoSmall : (H : Type) → List (DataW H) → Bool := fun _ ds => decide (uptoBulkAll ds ≤ 1048576)
def OpenSpec.upto (s : _root_.Go.ChangeSpec) : _root_.Go.OpenSpec := { _root_.Go.OpenSpec.ofChange s with cond := some uptoSmall }

/-- 'tourlaw1.Names', WHERE WHAT IT READS IS OF BULK AT MOST 1048576: true; the input reads as it did. -/
def namesUptoRow : OpenClaim := { program := "ytehpfkmaikbjkaa", sum := "6149fa8f15b221ec0405a727c21597e2b621c598c2225e839730f01a59d5efb3", func := "tourney/tourlaw1.Names", spec := "names", apart := false, narrowed := true }
def NamesUptoSaid : Prop := namesUptoRow.holds Try.pinned (OpenSpec.upto namesSpec)

/-- 'tourlaw1.TrigTells', WHERE WHAT IT READS IS OF BULK AT MOST 1048576: true; the input reads as it did. -/
def trigTellsUptoRow : OpenClaim := { program := "ytehpfkmaikbjkaa", sum := "6149fa8f15b221ec0405a727c21597e2b621c598c2225e839730f01a59d5efb3", func := "tourney/tourlaw1.TrigTells", spec := "trigTells", recurses := true, apart := false, narrowed := true }
def TrigTellsUptoSaid : Prop := trigTellsUptoRow.holds Try.pinned (OpenSpec.upto trigTellsSpec)

/-- 'tourlaw1.FixRoots', WHERE WHAT IT READS IS OF BULK AT MOST 1048576: true; the input reads as it did. -/
def fixRootsUptoRow : OpenClaim := { program := "ytehpfkmaikbjkaa", sum := "6149fa8f15b221ec0405a727c21597e2b621c598c2225e839730f01a59d5efb3", func := "tourney/tourlaw1.FixRoots", spec := "fixRoots", inPlace := ["math/bits.Add64"], unfollowed := true, recurses := true, apart := false, narrowed := true }
def FixRootsUptoSaid : Prop := fixRootsUptoRow.holds Try.pinned (OpenSpec.upto fixRootsSpec)

/-- 'tourlaw1.TrigAngles', WHERE WHAT IT READS IS OF BULK AT MOST 1048576: true; the input reads as it did. -/
def trigAnglesUptoRow : OpenClaim := { program := "ytehpfkmaikbjkaa", sum := "6149fa8f15b221ec0405a727c21597e2b621c598c2225e839730f01a59d5efb3", func := "tourney/tourlaw1.TrigAngles", spec := "trigAngles", unfollowed := true, recurses := true, apart := false, narrowed := true }
def TrigAnglesUptoSaid : Prop := trigAnglesUptoRow.holds Try.pinned (OpenSpec.upto trigAnglesSpec)

/-- 'tourlaw1.VecLengths', WHERE WHAT IT READS IS OF BULK AT MOST 1048576: true; the input reads as it did. -/
def vecLengthsUptoRow : OpenClaim := { program := "ytehpfkmaikbjkaa", sum := "6149fa8f15b221ec0405a727c21597e2b621c598c2225e839730f01a59d5efb3", func := "tourney/tourlaw1.VecLengths", spec := "vecLengths", inPlace := ["math/bits.Add64"], unfollowed := true, recurses := true, apart := false, narrowed := true }
def VecLengthsUptoSaid : Prop := vecLengthsUptoRow.holds Try.pinned (OpenSpec.upto vecLengthsSpec)

/-- 'tourlaw1.BorderTells', WHERE WHAT IT READS IS OF BULK AT MOST 1048576: true; the input reads as it did. -/
def borderTellsUptoRow : OpenClaim := { program := "ytehpfkmaikbjkaa", sum := "6149fa8f15b221ec0405a727c21597e2b621c598c2225e839730f01a59d5efb3", func := "tourney/tourlaw1.BorderTells", spec := "borderTells", inPlace := ["math.Float64frombits", "math.Float64bits", "math.archTrunc"], apart := false, narrowed := true }
def BorderTellsUptoSaid : Prop := borderTellsUptoRow.holds Try.pinned (OpenSpec.upto borderTellsSpec)

/-- 'tourlaw1.BorderLists', WHERE WHAT IT READS IS OF BULK AT MOST 1048576: true; the input reads as it did. -/
def borderListsUptoRow : OpenClaim := { program := "ytehpfkmaikbjkaa", sum := "6149fa8f15b221ec0405a727c21597e2b621c598c2225e839730f01a59d5efb3", func := "tourney/tourlaw1.BorderLists", spec := "borderLists", inPlace := ["math.Float64frombits", "math.Float64bits", "math.archTrunc"], apart := false, narrowed := true }
def BorderListsUptoSaid : Prop := borderListsUptoRow.holds Try.pinned (OpenSpec.upto borderListsSpec)

/-- 'tourlaw1.FixTells', WHERE WHAT IT READS IS OF BULK AT MOST 1048576: true; the input reads as it did. -/
def fixTellsUptoRow : OpenClaim := { program := "ytehpfkmaikbjkaa", sum := "6149fa8f15b221ec0405a727c21597e2b621c598c2225e839730f01a59d5efb3", func := "tourney/tourlaw1.FixTells", spec := "fixTells", unfollowed := true, recurses := true, named := ["math/bits.divideError", "math/bits.overflowError"], apart := false, narrowed := true }
def FixTellsUptoSaid : Prop := fixTellsUptoRow.holds Try.pinned (OpenSpec.upto fixTellsSpec)

/-- 'tourlaw1.VecTells', WHERE WHAT IT READS IS OF BULK AT MOST 1048576: true; the input reads as it did. -/
def vecTellsUptoRow : OpenClaim := { program := "ytehpfkmaikbjkaa", sum := "6149fa8f15b221ec0405a727c21597e2b621c598c2225e839730f01a59d5efb3", func := "tourney/tourlaw1.VecTells", spec := "vecTells", unfollowed := true, recurses := true, named := ["math/bits.divideError", "math/bits.overflowError"], apart := false, narrowed := true }
def VecTellsUptoSaid : Prop := vecTellsUptoRow.holds Try.pinned (OpenSpec.upto vecTellsSpec)

/-- 'tourlaw1.QuatTells', WHERE WHAT IT READS IS OF BULK AT MOST 1048576: true; the input reads as it did. -/
def quatTellsUptoRow : OpenClaim := { program := "ytehpfkmaikbjkaa", sum := "6149fa8f15b221ec0405a727c21597e2b621c598c2225e839730f01a59d5efb3", func := "tourney/tourlaw1.QuatTells", spec := "quatTells", inPlace := ["math/bits.Add64"], unfollowed := true, recurses := true, named := ["math/bits.divideError", "math/bits.overflowError"], apart := false, narrowed := true }
def QuatTellsUptoSaid : Prop := quatTellsUptoRow.holds Try.pinned (OpenSpec.upto quatTellsSpec)

/-- 'tourlaw1.QuatTurns', WHERE WHAT IT READS IS OF BULK AT MOST 1048576: true; the input reads as it did. -/
def quatTurnsUptoRow : OpenClaim := { program := "ytehpfkmaikbjkaa", sum := "6149fa8f15b221ec0405a727c21597e2b621c598c2225e839730f01a59d5efb3", func := "tourney/tourlaw1.QuatTurns", spec := "quatTurns", inPlace := ["math/bits.Add64"], unfollowed := true, recurses := true, named := ["math/bits.divideError", "math/bits.overflowError"], apart := false, narrowed := true }
def QuatTurnsUptoSaid : Prop := quatTurnsUptoRow.holds Try.pinned (OpenSpec.upto quatTurnsSpec)

end Rows
end Go.Proofs.Ytehpfkmaikbjkaa
