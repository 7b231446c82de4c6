/-
  No cell of these rows narrows 'for every input' (looked for: loops, veiled, ifaces, maps, wideKeys, modest, calm, conditions, laid).
  DERIVED. THE GIVEN ROWS OF THIS SEAT. 12 by the template 'for every input the law returns true; each argument reads behind the call as it read before'; 0 by the template 'total and deterministic' (their statements: YtdhaaeaacbnghaaTotals.lean).
  GIVEN WITH THE SEED: the statements are not yours to turn. If you find one false, say at which input.
  Laid BY PROGRAM, IN A SANDBOX (cutbox-rows.mjs): the forced cells as the released guide's own fill.sh prints them over the translation 579bee340b876868… (all of the seat's roots in one cut). By AI agents, Wed Nov 11 2026. No macro, syntax, notation, axiom, sorry.
-/
import Derived.Test.YtdhaaeaacbnghaaChecked
import GoSem.Claim
import GoSem.ClaimJoined
import GoSem.ClaimMapViews
import Derived.JoinedTies
import Derived.KernelRfl
namespace Go.Proofs.Ytdhaaeaacbnghaa
/- THE CELL 'sum', in the pinned program and in every row, IS THE sha256 OF THE DUMP (.gsa) THAT YtdhaaeaacbnghaaProg.lean LOADS. Nothing in Lean hashes anything: it is a label: what it is worth is what the hold of that sum in a sandbox is worth. -/
noncomputable def Try.pinned : Pinned := { name := "ytdhaaeaacbnghaa", sum := "579bee340b876868d6114170c7cca756ab44e1a3f738b40726aa2d9ea989b107", checked := Try.checked }
namespace Rows
def none {H : Type} : Left H := { results := [], args := [] }

/-- 'tourlaw1.RndBelows': WHATEVER THE INPUT: true; the input reads as it did. -/
def rndBelowsSpec : ChangeSpec := { name := "rndBelows", fn := fun _ => fun
  | [d1, d2] => { results := [.lit (.bool true)], args := [d1, d2] }
  | _ => none }
def rndBelowsRow : OpenClaim := { program := "ytdhaaeaacbnghaa", sum := "579bee340b876868d6114170c7cca756ab44e1a3f738b40726aa2d9ea989b107", func := "tourney/tourlaw1.RndBelows", spec := "rndBelows", apart := false }
def RndBelowsSaid : Prop := rndBelowsRow.holds Try.pinned (OpenSpec.ofChange rndBelowsSpec)

/-- ITS FALSE NEIGHBOUR: 'it returns false'. Refute it at one input. -/
def rndBelowsWrong : ChangeSpec := { name := "rndBelows", fn := fun _ => fun
  | [d1, d2] => { results := [.lit (.bool false)], args := [d1, d2] }
  | _ => none }
def RndBelowsWrongFalsely : Prop := rndBelowsRow.holds Try.pinned (OpenSpec.ofChange rndBelowsWrong)

/-- 'tourlaw1.SumTells': WHATEVER THE INPUT: true; the input reads as it did. -/
def sumTellsSpec : ChangeSpec := { name := "sumTells", fn := fun _ => fun
  | [d1, d2, d3, d4, d5] => { results := [.lit (.bool true)], args := [d1, d2, d3, d4, d5] }
  | _ => none }
def sumTellsRow : OpenClaim := { program := "ytdhaaeaacbnghaa", sum := "579bee340b876868d6114170c7cca756ab44e1a3f738b40726aa2d9ea989b107", func := "tourney/tourlaw1.SumTells", spec := "sumTells", apart := false }
def SumTellsSaid : Prop := sumTellsRow.holds Try.pinned (OpenSpec.ofChange sumTellsSpec)

/-- ITS FALSE NEIGHBOUR: 'it returns false'. Refute it at one input. -/
def sumTellsWrong : ChangeSpec := { name := "sumTells", fn := fun _ => fun
  | [d1, d2, d3, d4, d5] => { results := [.lit (.bool false)], args := [d1, d2, d3, d4, d5] }
  | _ => none }
def SumTellsWrongFalsely : Prop := sumTellsRow.holds Try.pinned (OpenSpec.ofChange sumTellsWrong)

/-- 'tourlaw1.RndTells': WHATEVER THE INPUT: true; the input reads as it did. -/
def rndTellsSpec : ChangeSpec := { name := "rndTells", fn := fun _ => fun
  | [d1, d2, d3] => { results := [.lit (.bool true)], args := [d1, d2, d3] }
  | _ => none }
def rndTellsRow : OpenClaim := { program := "ytdhaaeaacbnghaa", sum := "579bee340b876868d6114170c7cca756ab44e1a3f738b40726aa2d9ea989b107", func := "tourney/tourlaw1.RndTells", spec := "rndTells", apart := false }
def RndTellsSaid : Prop := rndTellsRow.holds Try.pinned (OpenSpec.ofChange rndTellsSpec)

/-- ITS FALSE NEIGHBOUR: 'it returns false'. Refute it at one input. -/
def rndTellsWrong : ChangeSpec := { name := "rndTells", fn := fun _ => fun
  | [d1, d2, d3] => { results := [.lit (.bool false)], args := [d1, d2, d3] }
  | _ => none }
def RndTellsWrongFalsely : Prop := rndTellsRow.holds Try.pinned (OpenSpec.ofChange rndTellsWrong)

/-- 'tourlaw1.BitsReads': WHATEVER THE INPUT: true; the input reads as it did. -/
def bitsReadsSpec : ChangeSpec := { name := "bitsReads", fn := fun _ => fun
  | [d1, d2] => { results := [.lit (.bool true)], args := [d1, d2] }
  | _ => none }
def bitsReadsRow : OpenClaim := { program := "ytdhaaeaacbnghaa", sum := "579bee340b876868d6114170c7cca756ab44e1a3f738b40726aa2d9ea989b107", func := "tourney/tourlaw1.BitsReads", spec := "bitsReads", apart := false }
def BitsReadsSaid : Prop := bitsReadsRow.holds Try.pinned (OpenSpec.ofChange bitsReadsSpec)

/-- ITS FALSE NEIGHBOUR: 'it returns false'. Refute it at one input. -/
def bitsReadsWrong : ChangeSpec := { name := "bitsReads", fn := fun _ => fun
  | [d1, d2] => { results := [.lit (.bool false)], args := [d1, d2] }
  | _ => none }
def BitsReadsWrongFalsely : Prop := bitsReadsRow.holds Try.pinned (OpenSpec.ofChange bitsReadsWrong)

/-- 'tourlaw1.RndOrders': WHATEVER THE INPUT: true; the input reads as it did. -/
def rndOrdersSpec : ChangeSpec := { name := "rndOrders", fn := fun _ => fun
  | [d1, d2] => { results := [.lit (.bool true)], args := [d1, d2] }
  | _ => none }
def rndOrdersRow : OpenClaim := { program := "ytdhaaeaacbnghaa", sum := "579bee340b876868d6114170c7cca756ab44e1a3f738b40726aa2d9ea989b107", func := "tourney/tourlaw1.RndOrders", spec := "rndOrders", apart := false }
def RndOrdersSaid : Prop := rndOrdersRow.holds Try.pinned (OpenSpec.ofChange rndOrdersSpec)

/-- ITS FALSE NEIGHBOUR: 'it returns false'. Refute it at one input. -/
def rndOrdersWrong : ChangeSpec := { name := "rndOrders", fn := fun _ => fun
  | [d1, d2] => { results := [.lit (.bool false)], args := [d1, d2] }
  | _ => none }
def RndOrdersWrongFalsely : Prop := rndOrdersRow.holds Try.pinned (OpenSpec.ofChange rndOrdersWrong)

/-- 'tourlaw1.QuantCoarse': WHATEVER THE INPUT: true; the input reads as it did. -/
def quantCoarseSpec : ChangeSpec := { name := "quantCoarse", fn := fun _ => fun
  | [d1, d2, d3, d4] => { results := [.lit (.bool true)], args := [d1, d2, d3, d4] }
  | _ => none }
def quantCoarseRow : OpenClaim := { program := "ytdhaaeaacbnghaa", sum := "579bee340b876868d6114170c7cca756ab44e1a3f738b40726aa2d9ea989b107", func := "tourney/tourlaw1.QuantCoarse", spec := "quantCoarse", unfollowed := true, recurses := true, apart := false }
def QuantCoarseSaid : Prop := quantCoarseRow.holds Try.pinned (OpenSpec.ofChange quantCoarseSpec)

/-- ITS FALSE NEIGHBOUR: 'it returns false'. Refute it at one input. -/
def quantCoarseWrong : ChangeSpec := { name := "quantCoarse", fn := fun _ => fun
  | [d1, d2, d3, d4] => { results := [.lit (.bool false)], args := [d1, d2, d3, d4] }
  | _ => none }
def QuantCoarseWrongFalsely : Prop := quantCoarseRow.holds Try.pinned (OpenSpec.ofChange quantCoarseWrong)

/-- 'tourlaw1.BitsWrites': WHATEVER THE INPUT: true; the input reads as it did. -/
def bitsWritesSpec : ChangeSpec := { name := "bitsWrites", fn := fun _ => fun
  | [d] => { results := [.lit (.bool true)], args := [d] }
  | _ => none }
def bitsWritesRow : OpenClaim := { program := "ytdhaaeaacbnghaa", sum := "579bee340b876868d6114170c7cca756ab44e1a3f738b40726aa2d9ea989b107", func := "tourney/tourlaw1.BitsWrites", spec := "bitsWrites", apart := false }
def BitsWritesSaid : Prop := bitsWritesRow.holds Try.pinned (OpenSpec.ofChange bitsWritesSpec)

/-- ITS FALSE NEIGHBOUR: 'it returns false'. Refute it at one input. -/
def bitsWritesWrong : ChangeSpec := { name := "bitsWrites", fn := fun _ => fun
  | [d] => { results := [.lit (.bool false)], args := [d] }
  | _ => none }
def BitsWritesWrongFalsely : Prop := bitsWritesRow.holds Try.pinned (OpenSpec.ofChange bitsWritesWrong)

/-- 'tourlaw1.QuantFields': WHATEVER THE INPUT: true; the input reads as it did. -/
def quantFieldsSpec : ChangeSpec := { name := "quantFields", fn := fun _ => fun
  | [d1, d2, d3] => { results := [.lit (.bool true)], args := [d1, d2, d3] }
  | _ => none }
def quantFieldsRow : OpenClaim := { program := "ytdhaaeaacbnghaa", sum := "579bee340b876868d6114170c7cca756ab44e1a3f738b40726aa2d9ea989b107", func := "tourney/tourlaw1.QuantFields", spec := "quantFields", apart := false }
def QuantFieldsSaid : Prop := quantFieldsRow.holds Try.pinned (OpenSpec.ofChange quantFieldsSpec)

/-- ITS FALSE NEIGHBOUR: 'it returns false'. Refute it at one input. -/
def quantFieldsWrong : ChangeSpec := { name := "quantFields", fn := fun _ => fun
  | [d1, d2, d3] => { results := [.lit (.bool false)], args := [d1, d2, d3] }
  | _ => none }
def QuantFieldsWrongFalsely : Prop := quantFieldsRow.holds Try.pinned (OpenSpec.ofChange quantFieldsWrong)

/-- 'tourlaw1.MerkleNarrows': WHATEVER THE INPUT: true; the input reads as it did. -/
def merkleNarrowsSpec : ChangeSpec := { name := "merkleNarrows", fn := fun _ => fun
  | [d1, d2] => { results := [.lit (.bool true)], args := [d1, d2] }
  | _ => none }
def merkleNarrowsRow : OpenClaim := { program := "ytdhaaeaacbnghaa", sum := "579bee340b876868d6114170c7cca756ab44e1a3f738b40726aa2d9ea989b107", func := "tourney/tourlaw1.MerkleNarrows", spec := "merkleNarrows", recurses := true, apart := false }
def MerkleNarrowsSaid : Prop := merkleNarrowsRow.holds Try.pinned (OpenSpec.ofChange merkleNarrowsSpec)

/-- ITS FALSE NEIGHBOUR: 'it returns false'. Refute it at one input. -/
def merkleNarrowsWrong : ChangeSpec := { name := "merkleNarrows", fn := fun _ => fun
  | [d1, d2] => { results := [.lit (.bool false)], args := [d1, d2] }
  | _ => none }
def MerkleNarrowsWrongFalsely : Prop := merkleNarrowsRow.holds Try.pinned (OpenSpec.ofChange merkleNarrowsWrong)

/-- 'tourlaw1.MerkleVerifies': WHATEVER THE INPUT: true; the input reads as it did. -/
def merkleVerifiesSpec : ChangeSpec := { name := "merkleVerifies", fn := fun _ => fun
  | [d1, d2, d3, d4, d5] => { results := [.lit (.bool true)], args := [d1, d2, d3, d4, d5] }
  | _ => none }
def merkleVerifiesRow : OpenClaim := { program := "ytdhaaeaacbnghaa", sum := "579bee340b876868d6114170c7cca756ab44e1a3f738b40726aa2d9ea989b107", func := "tourney/tourlaw1.MerkleVerifies", spec := "merkleVerifies", recurses := true, apart := false }
def MerkleVerifiesSaid : Prop := merkleVerifiesRow.holds Try.pinned (OpenSpec.ofChange merkleVerifiesSpec)

/-- ITS FALSE NEIGHBOUR: 'it returns false'. Refute it at one input. -/
def merkleVerifiesWrong : ChangeSpec := { name := "merkleVerifies", fn := fun _ => fun
  | [d1, d2, d3, d4, d5] => { results := [.lit (.bool false)], args := [d1, d2, d3, d4, d5] }
  | _ => none }
def MerkleVerifiesWrongFalsely : Prop := merkleVerifiesRow.holds Try.pinned (OpenSpec.ofChange merkleVerifiesWrong)

/-- 'tourlaw1.MerkleTells': WHATEVER THE INPUT: true; the input reads as it did. -/
def merkleTellsSpec : ChangeSpec := { name := "merkleTells", fn := fun _ => fun
  | [d1, d2] => { results := [.lit (.bool true)], args := [d1, d2] }
  | _ => none }
def merkleTellsRow : OpenClaim := { program := "ytdhaaeaacbnghaa", sum := "579bee340b876868d6114170c7cca756ab44e1a3f738b40726aa2d9ea989b107", func := "tourney/tourlaw1.MerkleTells", spec := "merkleTells", recurses := true, apart := false }
def MerkleTellsSaid : Prop := merkleTellsRow.holds Try.pinned (OpenSpec.ofChange merkleTellsSpec)

/-- ITS FALSE NEIGHBOUR: 'it returns false'. Refute it at one input. -/
def merkleTellsWrong : ChangeSpec := { name := "merkleTells", fn := fun _ => fun
  | [d1, d2] => { results := [.lit (.bool false)], args := [d1, d2] }
  | _ => none }
def MerkleTellsWrongFalsely : Prop := merkleTellsRow.holds Try.pinned (OpenSpec.ofChange merkleTellsWrong)

/-- 'tourlaw1.QueuePlays': WHATEVER THE INPUT: true; the input reads as it did. -/
def queuePlaysSpec : ChangeSpec := { name := "queuePlays", fn := fun _ => fun
  | [d] => { results := [.lit (.bool true)], args := [d] }
  | _ => none }
def queuePlaysRow : OpenClaim := { program := "ytdhaaeaacbnghaa", sum := "579bee340b876868d6114170c7cca756ab44e1a3f738b40726aa2d9ea989b107", func := "tourney/tourlaw1.QueuePlays", spec := "queuePlays", apart := false }
def QueuePlaysSaid : Prop := queuePlaysRow.holds Try.pinned (OpenSpec.ofChange queuePlaysSpec)

/-- ITS FALSE NEIGHBOUR: 'it returns false'. Refute it at one input. -/
def queuePlaysWrong : ChangeSpec := { name := "queuePlays", fn := fun _ => fun
  | [d] => { results := [.lit (.bool false)], args := [d] }
  | _ => none }
def QueuePlaysWrongFalsely : Prop := queuePlaysRow.holds Try.pinned (OpenSpec.ofChange queuePlaysWrong)

/- THE SECOND FORM. 'bulk': how many values and letters a reading holds, each counted each time it is reached (what is shared counts as often as it is met; a slice's spare places count too). A statement '..UptoSaid' is the law's where the arguments, and the package variables that the reading takes, are together of bulk at most 1048576: NARROWER than '..Said'. Prove '..Said' where nothing that the law and all that it calls make is longer than what came in: it says more and counts as full. Else prove '..UptoSaid'. A law counts once. -/
mutual
def uptoBulk {H : Type} : DataW H → Nat
  | .lit (.string bytes) => bytes.length + 1
  | .lit _ => 1
  | .nil => 1
  | .ptr d => uptoBulk d + 1
  | .slice elems spare => uptoBulkAll elems + uptoBulkAll spare + 1
  | .agg parts => uptoBulkAll parts + 1
  | .iface _ d => uptoBulk d + 1
  | .map entries => uptoBulkEntries entries + 1
  | .held _ => 1
def uptoBulkAll {H : Type} : List (DataW H) → Nat
  | [] => 0
  | d :: r => uptoBulk d + uptoBulkAll r
def uptoBulkEntries {H : Type} : List (Lit × DataW H) → Nat
  | [] => 0
  | x :: r => uptoBulkEntry x + uptoBulkEntries r
def uptoBulkEntry {H : Type} : Lit × DataW H → Nat
  | (.string bytes, d) => bytes.length + uptoBulk d + 1
  | (_, d) => uptoBulk d + 1
 end
def uptoSmall : (H : Type) → List (DataW H) → Bool := fun _ ds => decide (uptoBulkAll ds ≤ 1048576)
def OpenSpec.upto (s : _root_.Go.ChangeSpec) : _root_.Go.OpenSpec := { _root_.Go.OpenSpec.ofChange s with cond := some uptoSmall }

/-- 'tourlaw1.RndBelows', WHERE WHAT IT READS IS OF BULK AT MOST 1048576: true; the input reads as it did. -/
def rndBelowsUptoRow : OpenClaim := { program := "ytdhaaeaacbnghaa", sum := "579bee340b876868d6114170c7cca756ab44e1a3f738b40726aa2d9ea989b107", func := "tourney/tourlaw1.RndBelows", spec := "rndBelows", apart := false, narrowed := true }
def RndBelowsUptoSaid : Prop := rndBelowsUptoRow.holds Try.pinned (OpenSpec.upto rndBelowsSpec)

/-- 'tourlaw1.SumTells', WHERE WHAT IT READS IS OF BULK AT MOST 1048576: true; the input reads as it did. -/
def sumTellsUptoRow : OpenClaim := { program := "ytdhaaeaacbnghaa", sum := "579bee340b876868d6114170c7cca756ab44e1a3f738b40726aa2d9ea989b107", func := "tourney/tourlaw1.SumTells", spec := "sumTells", apart := false, narrowed := true }
def SumTellsUptoSaid : Prop := sumTellsUptoRow.holds Try.pinned (OpenSpec.upto sumTellsSpec)

/-- 'tourlaw1.RndTells', WHERE WHAT IT READS IS OF BULK AT MOST 1048576: true; the input reads as it did. -/
def rndTellsUptoRow : OpenClaim := { program := "ytdhaaeaacbnghaa", sum := "579bee340b876868d6114170c7cca756ab44e1a3f738b40726aa2d9ea989b107", func := "tourney/tourlaw1.RndTells", spec := "rndTells", apart := false, narrowed := true }
def RndTellsUptoSaid : Prop := rndTellsUptoRow.holds Try.pinned (OpenSpec.upto rndTellsSpec)

/-- 'tourlaw1.BitsReads', WHERE WHAT IT READS IS OF BULK AT MOST 1048576: true; the input reads as it did. -/
def bitsReadsUptoRow : OpenClaim := { program := "ytdhaaeaacbnghaa", sum := "579bee340b876868d6114170c7cca756ab44e1a3f738b40726aa2d9ea989b107", func := "tourney/tourlaw1.BitsReads", spec := "bitsReads", apart := false, narrowed := true }
def BitsReadsUptoSaid : Prop := bitsReadsUptoRow.holds Try.pinned (OpenSpec.upto bitsReadsSpec)

/-- 'tourlaw1.RndOrders', WHERE WHAT IT READS IS OF BULK AT MOST 1048576: true; the input reads as it did. -/
def rndOrdersUptoRow : OpenClaim := { program := "ytdhaaeaacbnghaa", sum := "579bee340b876868d6114170c7cca756ab44e1a3f738b40726aa2d9ea989b107", func := "tourney/tourlaw1.RndOrders", spec := "rndOrders", apart := false, narrowed := true }
def RndOrdersUptoSaid : Prop := rndOrdersUptoRow.holds Try.pinned (OpenSpec.upto rndOrdersSpec)

/-- 'tourlaw1.QuantCoarse', WHERE WHAT IT READS IS OF BULK AT MOST 1048576: true; the input reads as it did. -/
def quantCoarseUptoRow : OpenClaim := { program := "ytdhaaeaacbnghaa", sum := "579bee340b876868d6114170c7cca756ab44e1a3f738b40726aa2d9ea989b107", func := "tourney/tourlaw1.QuantCoarse", spec := "quantCoarse", unfollowed := true, recurses := true, apart := false, narrowed := true }
def QuantCoarseUptoSaid : Prop := quantCoarseUptoRow.holds Try.pinned (OpenSpec.upto quantCoarseSpec)

/-- 'tourlaw1.BitsWrites', WHERE WHAT IT READS IS OF BULK AT MOST 1048576: true; the input reads as it did. -/
def bitsWritesUptoRow : OpenClaim := { program := "ytdhaaeaacbnghaa", sum := "579bee340b876868d6114170c7cca756ab44e1a3f738b40726aa2d9ea989b107", func := "tourney/tourlaw1.BitsWrites", spec := "bitsWrites", apart := false, narrowed := true }
def BitsWritesUptoSaid : Prop := bitsWritesUptoRow.holds Try.pinned (OpenSpec.upto bitsWritesSpec)

/-- 'tourlaw1.QuantFields', WHERE WHAT IT READS IS OF BULK AT MOST 1048576: true; the input reads as it did. -/
def quantFieldsUptoRow : OpenClaim := { program := "ytdhaaeaacbnghaa", sum := "579bee340b876868d6114170c7cca756ab44e1a3f738b40726aa2d9ea989b107", func := "tourney/tourlaw1.QuantFields", spec := "quantFields", apart := false, narrowed := true }
def QuantFieldsUptoSaid : Prop := quantFieldsUptoRow.holds Try.pinned (OpenSpec.upto quantFieldsSpec)

/-- 'tourlaw1.MerkleNarrows', WHERE WHAT IT READS IS OF BULK AT MOST 1048576: true; the input reads as it did. -/
def merkleNarrowsUptoRow : OpenClaim := { program := "ytdhaaeaacbnghaa", sum := "579bee340b876868d6114170c7cca756ab44e1a3f738b40726aa2d9ea989b107", func := "tourney/tourlaw1.MerkleNarrows", spec := "merkleNarrows", recurses := true, apart := false, narrowed := true }
def MerkleNarrowsUptoSaid : Prop := merkleNarrowsUptoRow.holds Try.pinned (OpenSpec.upto merkleNarrowsSpec)

/-- 'tourlaw1.MerkleVerifies', WHERE WHAT IT READS IS OF BULK AT MOST 1048576: true; the input reads as it did. -/
def merkleVerifiesUptoRow : OpenClaim := { program := "ytdhaaeaacbnghaa", sum := "579bee340b876868d6114170c7cca756ab44e1a3f738b40726aa2d9ea989b107", func := "tourney/tourlaw1.MerkleVerifies", spec := "merkleVerifies", recurses := true, apart := false, narrowed := true }
def MerkleVerifiesUptoSaid : Prop := merkleVerifiesUptoRow.holds Try.pinned (OpenSpec.upto merkleVerifiesSpec)

/-- 'tourlaw1.MerkleTells', WHERE WHAT IT READS IS OF BULK AT MOST 1048576: true; the input reads as it did. -/
def merkleTellsUptoRow : OpenClaim := { program := "ytdhaaeaacbnghaa", sum := "579bee340b876868d6114170c7cca756ab44e1a3f738b40726aa2d9ea989b107", func := "tourney/tourlaw1.MerkleTells", spec := "merkleTells", recurses := true, apart := false, narrowed := true }
def MerkleTellsUptoSaid : Prop := merkleTellsUptoRow.holds Try.pinned (OpenSpec.upto merkleTellsSpec)

/-- 'tourlaw1.QueuePlays', WHERE WHAT IT READS IS OF BULK AT MOST 1048576: true; the input reads as it did. -/
def queuePlaysUptoRow : OpenClaim := { program := "ytdhaaeaacbnghaa", sum := "579bee340b876868d6114170c7cca756ab44e1a3f738b40726aa2d9ea989b107", func := "tourney/tourlaw1.QueuePlays", spec := "queuePlays", apart := false, narrowed := true }
def QueuePlaysUptoSaid : Prop := queuePlaysUptoRow.holds Try.pinned (OpenSpec.upto queuePlaysSpec)

end Rows
end Go.Proofs.Ytdhaaeaacbnghaa
