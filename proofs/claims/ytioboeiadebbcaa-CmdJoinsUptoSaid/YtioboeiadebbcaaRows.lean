/-
  No cell of these rows narrows 'for every input' (looked for: loops, veiled, ifaces, maps, wideKeys, modest, calm, conditions, laid).
  DERIVED. THE GIVEN ROWS OF THIS SEAT. 9 by the template 'for every input the law returns true; each argument reads behind the call as it read before'; 0 by the template 'total and deterministic' (their statements: YtioboeiadebbcaaTotals.lean).
  GIVEN WITH THE SEED: the statements are not yours to turn. If you find one false, say at which input.
  Laid BY PROGRAM, IN A SANDBOX (cutbox-rows.mjs): the forced cells as the released guide's own fill.sh prints them over the translation 1111152b76378e81… (all of the seat's roots in one cut). By AI agents, Wed Nov 11 2026. No macro, syntax, notation, axiom, sorry.
-/
import Derived.Test.YtioboeiadebbcaaChecked
import GoSem.Claim
import GoSem.ClaimJoined
import GoSem.ClaimMapViews
import Derived.JoinedTies
import Derived.KernelRfl
namespace Go.Proofs.Ytioboeiadebbcaa
/- THE CELL 'sum', in the pinned program and in every row, IS THE sha256 OF THE DUMP (.gsa) THAT YtioboeiadebbcaaProg.lean LOADS. Nothing in Lean hashes anything: it is a label: what it is worth is what the hold of that sum in a sandbox is worth. -/
noncomputable def Try.pinned : Pinned := { name := "ytioboeiadebbcaa", sum := "1111152b76378e812df512e94da8dd003945d6bc9ccd7249a8eb1e2193c7a765", checked := Try.checked }
namespace Rows
def none {H : Type} : Left H := { results := [], args := [] }

/-- 'tourlaw1.QueueSorts': WHATEVER THE INPUT: true; the input reads as it did. -/
def queueSortsSpec : ChangeSpec := { name := "queueSorts", fn := fun _ => fun
  | [d] => { results := [.lit (.bool true)], args := [d] }
  | _ => none }
def queueSortsRow : OpenClaim := { program := "ytioboeiadebbcaa", sum := "1111152b76378e812df512e94da8dd003945d6bc9ccd7249a8eb1e2193c7a765", func := "tourney/tourlaw1.QueueSorts", spec := "queueSorts", unfollowed := true, recurses := true, plainKeys := false, apart := false }
def QueueSortsSaid : Prop := queueSortsRow.holds Try.pinned (OpenSpec.ofChange queueSortsSpec)

/-- ITS FALSE NEIGHBOUR: 'it returns false'. Refute it at one input. -/
def queueSortsWrong : ChangeSpec := { name := "queueSorts", fn := fun _ => fun
  | [d] => { results := [.lit (.bool false)], args := [d] }
  | _ => none }
def QueueSortsWrongFalsely : Prop := queueSortsRow.holds Try.pinned (OpenSpec.ofChange queueSortsWrong)

/-- 'tourlaw1.SetsTells': WHATEVER THE INPUT: true; the input reads as it did. -/
def setsTellsSpec : ChangeSpec := { name := "setsTells", fn := fun _ => fun
  | [d1, d2, d3, d4] => { results := [.lit (.bool true)], args := [d1, d2, d3, d4] }
  | _ => none }
def setsTellsRow : OpenClaim := { program := "ytioboeiadebbcaa", sum := "1111152b76378e812df512e94da8dd003945d6bc9ccd7249a8eb1e2193c7a765", func := "tourney/tourlaw1.SetsTells", spec := "setsTells", unfollowed := true, recurses := true, plainKeys := false, apart := false }
def SetsTellsSaid : Prop := setsTellsRow.holds Try.pinned (OpenSpec.ofChange setsTellsSpec)

/-- ITS FALSE NEIGHBOUR: 'it returns false'. Refute it at one input. -/
def setsTellsWrong : ChangeSpec := { name := "setsTells", fn := fun _ => fun
  | [d1, d2, d3, d4] => { results := [.lit (.bool false)], args := [d1, d2, d3, d4] }
  | _ => none }
def SetsTellsWrongFalsely : Prop := setsTellsRow.holds Try.pinned (OpenSpec.ofChange setsTellsWrong)

/-- 'tourlaw1.SlotsPlays': WHATEVER THE INPUT: true; the input reads as it did. -/
def slotsPlaysSpec : ChangeSpec := { name := "slotsPlays", fn := fun _ => fun
  | [d1, d2, d3] => { results := [.lit (.bool true)], args := [d1, d2, d3] }
  | _ => none }
def slotsPlaysRow : OpenClaim := { program := "ytioboeiadebbcaa", sum := "1111152b76378e812df512e94da8dd003945d6bc9ccd7249a8eb1e2193c7a765", func := "tourney/tourlaw1.SlotsPlays", spec := "slotsPlays", unfollowed := true, recurses := true, plainKeys := false, apart := false }
def SlotsPlaysSaid : Prop := slotsPlaysRow.holds Try.pinned (OpenSpec.ofChange slotsPlaysSpec)

/-- ITS FALSE NEIGHBOUR: 'it returns false'. Refute it at one input. -/
def slotsPlaysWrong : ChangeSpec := { name := "slotsPlays", fn := fun _ => fun
  | [d1, d2, d3] => { results := [.lit (.bool false)], args := [d1, d2, d3] }
  | _ => none }
def SlotsPlaysWrongFalsely : Prop := slotsPlaysRow.holds Try.pinned (OpenSpec.ofChange slotsPlaysWrong)

/-- 'tourlaw3.CmdJoins': WHATEVER THE INPUT: true; the input reads as it did. -/
def cmdJoinsSpec : ChangeSpec := { name := "cmdJoins", fn := fun _ => fun
  | [d] => { results := [.lit (.bool true)], args := [d] }
  | _ => none }
def cmdJoinsRow : OpenClaim := { program := "ytioboeiadebbcaa", sum := "1111152b76378e812df512e94da8dd003945d6bc9ccd7249a8eb1e2193c7a765", func := "tourney/tourlaw3.CmdJoins", spec := "cmdJoins", unfollowed := true, recurses := true, plainKeys := false, apart := false }
def CmdJoinsSaid : Prop := cmdJoinsRow.holds Try.pinned (OpenSpec.ofChange cmdJoinsSpec)

/-- ITS FALSE NEIGHBOUR: 'it returns false'. Refute it at one input. -/
def cmdJoinsWrong : ChangeSpec := { name := "cmdJoins", fn := fun _ => fun
  | [d] => { results := [.lit (.bool false)], args := [d] }
  | _ => none }
def CmdJoinsWrongFalsely : Prop := cmdJoinsRow.holds Try.pinned (OpenSpec.ofChange cmdJoinsWrong)

/-- 'tourlaw3.PlanRight': WHATEVER THE INPUT: true; the input reads as it did. -/
def planRightSpec : ChangeSpec := { name := "planRight", fn := fun _ => fun
  | [d1, d2] => { results := [.lit (.bool true)], args := [d1, d2] }
  | _ => none }
def planRightRow : OpenClaim := { program := "ytioboeiadebbcaa", sum := "1111152b76378e812df512e94da8dd003945d6bc9ccd7249a8eb1e2193c7a765", func := "tourney/tourlaw3.PlanRight", spec := "planRight", unfollowed := true, recurses := true, plainKeys := false, apart := false }
def PlanRightSaid : Prop := planRightRow.holds Try.pinned (OpenSpec.ofChange planRightSpec)

/-- ITS FALSE NEIGHBOUR: 'it returns false'. Refute it at one input. -/
def planRightWrong : ChangeSpec := { name := "planRight", fn := fun _ => fun
  | [d1, d2] => { results := [.lit (.bool false)], args := [d1, d2] }
  | _ => none }
def PlanRightWrongFalsely : Prop := planRightRow.holds Try.pinned (OpenSpec.ofChange planRightWrong)

/-- 'tourlaw3.PlanLayers': WHATEVER THE INPUT: true; the input reads as it did. -/
def planLayersSpec : ChangeSpec := { name := "planLayers", fn := fun _ => fun
  | [d] => { results := [.lit (.bool true)], args := [d] }
  | _ => none }
def planLayersRow : OpenClaim := { program := "ytioboeiadebbcaa", sum := "1111152b76378e812df512e94da8dd003945d6bc9ccd7249a8eb1e2193c7a765", func := "tourney/tourlaw3.PlanLayers", spec := "planLayers", unfollowed := true, recurses := true, plainKeys := false, apart := false }
def PlanLayersSaid : Prop := planLayersRow.holds Try.pinned (OpenSpec.ofChange planLayersSpec)

/-- ITS FALSE NEIGHBOUR: 'it returns false'. Refute it at one input. -/
def planLayersWrong : ChangeSpec := { name := "planLayers", fn := fun _ => fun
  | [d] => { results := [.lit (.bool false)], args := [d] }
  | _ => none }
def PlanLayersWrongFalsely : Prop := planLayersRow.holds Try.pinned (OpenSpec.ofChange planLayersWrong)

/-- 'tourlaw3.QueryFinds': WHATEVER THE INPUT: true; the input reads as it did. -/
def queryFindsSpec : ChangeSpec := { name := "queryFinds", fn := fun _ => fun
  | [d1, d2, d3, d4] => { results := [.lit (.bool true)], args := [d1, d2, d3, d4] }
  | _ => none }
def queryFindsRow : OpenClaim := { program := "ytioboeiadebbcaa", sum := "1111152b76378e812df512e94da8dd003945d6bc9ccd7249a8eb1e2193c7a765", func := "tourney/tourlaw3.QueryFinds", spec := "queryFinds", unfollowed := true, recurses := true, plainKeys := false, apart := false }
def QueryFindsSaid : Prop := queryFindsRow.holds Try.pinned (OpenSpec.ofChange queryFindsSpec)

/-- ITS FALSE NEIGHBOUR: 'it returns false'. Refute it at one input. -/
def queryFindsWrong : ChangeSpec := { name := "queryFinds", fn := fun _ => fun
  | [d1, d2, d3, d4] => { results := [.lit (.bool false)], args := [d1, d2, d3, d4] }
  | _ => none }
def QueryFindsWrongFalsely : Prop := queryFindsRow.holds Try.pinned (OpenSpec.ofChange queryFindsWrong)

/-- 'tourlaw3.EventFilters': WHATEVER THE INPUT: true; the input reads as it did. -/
def eventFiltersSpec : ChangeSpec := { name := "eventFilters", fn := fun _ => fun
  | [d1, d2, d3, d4] => { results := [.lit (.bool true)], args := [d1, d2, d3, d4] }
  | _ => none }
def eventFiltersRow : OpenClaim := { program := "ytioboeiadebbcaa", sum := "1111152b76378e812df512e94da8dd003945d6bc9ccd7249a8eb1e2193c7a765", func := "tourney/tourlaw3.EventFilters", spec := "eventFilters", inPlace := ["slices.overlaps[tourney/event.Count]", "slices.overlaps[tourney/api.Event]"], unfollowed := true, recurses := true, plainKeys := false, apart := false }
def EventFiltersSaid : Prop := eventFiltersRow.holds Try.pinned (OpenSpec.ofChange eventFiltersSpec)

/-- ITS FALSE NEIGHBOUR: 'it returns false'. Refute it at one input. -/
def eventFiltersWrong : ChangeSpec := { name := "eventFilters", fn := fun _ => fun
  | [d1, d2, d3, d4] => { results := [.lit (.bool false)], args := [d1, d2, d3, d4] }
  | _ => none }
def EventFiltersWrongFalsely : Prop := eventFiltersRow.holds Try.pinned (OpenSpec.ofChange eventFiltersWrong)

/-- 'tourlaw3.ColumnPlays': WHATEVER THE INPUT: true; the input reads as it did. -/
def columnPlaysSpec : ChangeSpec := { name := "columnPlays", fn := fun _ => fun
  | [d] => { results := [.lit (.bool true)], args := [d] }
  | _ => none }
def columnPlaysRow : OpenClaim := { program := "ytioboeiadebbcaa", sum := "1111152b76378e812df512e94da8dd003945d6bc9ccd7249a8eb1e2193c7a765", func := "tourney/tourlaw3.ColumnPlays", spec := "columnPlays", unfollowed := true, recurses := true, plainKeys := false, apart := false }
def ColumnPlaysSaid : Prop := columnPlaysRow.holds Try.pinned (OpenSpec.ofChange columnPlaysSpec)

/-- ITS FALSE NEIGHBOUR: 'it returns false'. Refute it at one input. -/
def columnPlaysWrong : ChangeSpec := { name := "columnPlays", fn := fun _ => fun
  | [d] => { results := [.lit (.bool false)], args := [d] }
  | _ => none }
def ColumnPlaysWrongFalsely : Prop := columnPlaysRow.holds Try.pinned (OpenSpec.ofChange columnPlaysWrong)

/- THE SECOND FORM. 'bulk': how many values and letters a reading holds, each counted each time it is reached (what is shared counts as often as it is met; a slice's spare places count too). A statement '..UptoSaid' is the law's where the arguments, and the package variables that the reading takes, are together of bulk at most 1048576: NARROWER than '..Said'. Prove '..Said' where nothing that the law and all that it calls make is longer than what came in: it says more and counts as full. Else prove '..UptoSaid'. A law counts once. -/
mutual
def uptoBulk {H : Type} : DataW H → Nat
  | .lit (.string bytes) => bytes.length + 1
  | .lit _ => 1
  | .nil => 1
  | .ptr d => uptoBulk d + 1
  | .slice elems spare => uptoBulkAll elems + uptoBulkAll spare + 1
  | .agg parts => uptoBulkAll parts + 1
  | .iface _ d => uptoBulk d + 1
  | .map entries => uptoBulkEntries entries + 1
  | .held _ => 1
def uptoBulkAll {H : Type} : List (DataW H) → Nat
  | [] => 0
  | d :: r => uptoBulk d + uptoBulkAll r
def uptoBulkEntries {H : Type} : List (Lit × DataW H) → Nat
  | [] => 0
  | x :: r => uptoBulkEntry x + uptoBulkEntries r
def uptoBulkEntry {H : Type} : Lit × DataW H → Nat
  | (.string bytes, d) => bytes.length + uptoBulk d + 1
  | (_, d) => uptoBulk d + 1
 end
def uptoSmall : (H : Type) → List (DataW H) → Bool := fun _ ds => decide (uptoBulkAll ds ≤ 1048576)
def OpenSpec.upto (s : _root_.Go.ChangeSpec) : _root_.Go.OpenSpec := { _root_.Go.OpenSpec.ofChange s with cond := some uptoSmall }

/-- 'tourlaw1.QueueSorts', WHERE WHAT IT READS IS OF BULK AT MOST 1048576: true; the input reads as it did. -/
def queueSortsUptoRow : OpenClaim := { program := "ytioboeiadebbcaa", sum := "1111152b76378e812df512e94da8dd003945d6bc9ccd7249a8eb1e2193c7a765", func := "tourney/tourlaw1.QueueSorts", spec := "queueSorts", unfollowed := true, recurses := true, plainKeys := false, apart := false, narrowed := true }
def QueueSortsUptoSaid : Prop := queueSortsUptoRow.holds Try.pinned (OpenSpec.upto queueSortsSpec)

/-- 'tourlaw1.SetsTells', WHERE WHAT IT READS IS OF BULK AT MOST 1048576: true; the input reads as it did. -/
def setsTellsUptoRow : OpenClaim := { program := "ytioboeiadebbcaa", sum := "1111152b76378e812df512e94da8dd003945d6bc9ccd7249a8eb1e2193c7a765", func := "tourney/tourlaw1.SetsTells", spec := "setsTells", unfollowed := true, recurses := true, plainKeys := false, apart := false, narrowed := true }
def SetsTellsUptoSaid : Prop := setsTellsUptoRow.holds Try.pinned (OpenSpec.upto setsTellsSpec)

/-- 'tourlaw1.SlotsPlays', WHERE WHAT IT READS IS OF BULK AT MOST 1048576: true; the input reads as it did. -/
def slotsPlaysUptoRow : OpenClaim := { program := "ytioboeiadebbcaa", sum := "1111152b76378e812df512e94da8dd003945d6bc9ccd7249a8eb1e2193c7a765", func := "tourney/tourlaw1.SlotsPlays", spec := "slotsPlays", unfollowed := true, recurses := true, plainKeys := false, apart := false, narrowed := true }
def SlotsPlaysUptoSaid : Prop := slotsPlaysUptoRow.holds Try.pinned (OpenSpec.upto slotsPlaysSpec)

/-- 'tourlaw3.CmdJoins', WHERE WHAT IT READS IS OF BULK AT MOST 1048576: true; the input reads as it did. -/
def cmdJoinsUptoRow : OpenClaim := { program := "ytioboeiadebbcaa", sum := "1111152b76378e812df512e94da8dd003945d6bc9ccd7249a8eb1e2193c7a765", func := "tourney/tourlaw3.CmdJoins", spec := "cmdJoins", unfollowed := true, recurses := true, plainKeys := false, apart := false, narrowed := true }
def CmdJoinsUptoSaid : Prop := cmdJoinsUptoRow.holds Try.pinned (OpenSpec.upto cmdJoinsSpec)

/-- 'tourlaw3.PlanRight', WHERE WHAT IT READS IS OF BULK AT MOST 1048576: true; the input reads as it did. -/
def planRightUptoRow : OpenClaim := { program := "ytioboeiadebbcaa", sum := "1111152b76378e812df512e94da8dd003945d6bc9ccd7249a8eb1e2193c7a765", func := "tourney/tourlaw3.PlanRight", spec := "planRight", unfollowed := true, recurses := true, plainKeys := false, apart := false, narrowed := true }
def PlanRightUptoSaid : Prop := planRightUptoRow.holds Try.pinned (OpenSpec.upto planRightSpec)

/-- 'tourlaw3.PlanLayers', WHERE WHAT IT READS IS OF BULK AT MOST 1048576: true; the input reads as it did. -/
def planLayersUptoRow : OpenClaim := { program := "ytioboeiadebbcaa", sum := "1111152b76378e812df512e94da8dd003945d6bc9ccd7249a8eb1e2193c7a765", func := "tourney/tourlaw3.PlanLayers", spec := "planLayers", unfollowed := true, recurses := true, plainKeys := false, apart := false, narrowed := true }
def PlanLayersUptoSaid : Prop := planLayersUptoRow.holds Try.pinned (OpenSpec.upto planLayersSpec)

/-- 'tourlaw3.QueryFinds', WHERE WHAT IT READS IS OF BULK AT MOST 1048576: true; the input reads as it did. -/
def queryFindsUptoRow : OpenClaim := { program := "ytioboeiadebbcaa", sum := "1111152b76378e812df512e94da8dd003945d6bc9ccd7249a8eb1e2193c7a765", func := "tourney/tourlaw3.QueryFinds", spec := "queryFinds", unfollowed := true, recurses := true, plainKeys := false, apart := false, narrowed := true }
def QueryFindsUptoSaid : Prop := queryFindsUptoRow.holds Try.pinned (OpenSpec.upto queryFindsSpec)

/-- 'tourlaw3.EventFilters', WHERE WHAT IT READS IS OF BULK AT MOST 1048576: true; the input reads as it did. -/
def eventFiltersUptoRow : OpenClaim := { program := "ytioboeiadebbcaa", sum := "1111152b76378e812df512e94da8dd003945d6bc9ccd7249a8eb1e2193c7a765", func := "tourney/tourlaw3.EventFilters", spec := "eventFilters", inPlace := ["slices.overlaps[tourney/event.Count]", "slices.overlaps[tourney/api.Event]"], unfollowed := true, recurses := true, plainKeys := false, apart := false, narrowed := true }
def EventFiltersUptoSaid : Prop := eventFiltersUptoRow.holds Try.pinned (OpenSpec.upto eventFiltersSpec)

/-- 'tourlaw3.ColumnPlays', WHERE WHAT IT READS IS OF BULK AT MOST 1048576: true; the input reads as it did. -/
def columnPlaysUptoRow : OpenClaim := { program := "ytioboeiadebbcaa", sum := "1111152b76378e812df512e94da8dd003945d6bc9ccd7249a8eb1e2193c7a765", func := "tourney/tourlaw3.ColumnPlays", spec := "columnPlays", unfollowed := true, recurses := true, plainKeys := false, apart := false, narrowed := true }
def ColumnPlaysUptoSaid : Prop := columnPlaysUptoRow.holds Try.pinned (OpenSpec.upto columnPlaysSpec)

end Rows
end Go.Proofs.Ytioboeiadebbcaa
