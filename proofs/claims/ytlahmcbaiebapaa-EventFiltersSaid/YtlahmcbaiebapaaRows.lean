/-
  No cell of these rows narrows 'for every input' (looked for: loops, veiled, ifaces, maps, wideKeys, modest, calm, conditions, laid).
  DERIVED. THE GIVEN ROWS OF THIS SEAT. 6 by the template 'for every input the law returns true; each argument reads behind the call as it read before'; 0 by the template 'total and deterministic' (their statements: YtlahmcbaiebapaaTotals.lean).
  GIVEN WITH THE SEED: the statements are not yours to turn. If you find one false, say at which input.
  Laid BY PROGRAM, IN A SANDBOX (cutbox-rows.mjs): the forced cells as the released guide's own fill.sh prints them over the translation 09d27f57cf03273e… (all of the seat's roots in one cut). By AI agents, Wed Nov 11 2026. No macro, syntax, notation, axiom, sorry.
-/
import Derived.Test.YtlahmcbaiebapaaChecked
import GoSem.Claim
import GoSem.ClaimJoined
import GoSem.ClaimMapViews
import Derived.JoinedTies
import Derived.KernelRfl
namespace Go.Proofs.Ytlahmcbaiebapaa
/- THE CELL 'sum', in the pinned program and in every row, IS THE sha256 OF THE DUMP (.gsa) THAT YtlahmcbaiebapaaProg.lean LOADS. Nothing in Lean hashes anything: it is a label: what it is worth is what the hold of that sum in a sandbox is worth. -/
noncomputable def Try.pinned : Pinned := { name := "ytlahmcbaiebapaa", sum := "09d27f57cf03273e670a7e8846ffd98fe881c44ef3f95b166d0a8ef40b156411", checked := Try.checked }
namespace Rows
def none {H : Type} : Left H := { results := [], args := [] }

/-- 'tourlaw1.SetsTells': WHATEVER THE INPUT: true; the input reads as it did. -/
def setsTellsSpec : ChangeSpec := { name := "setsTells", fn := fun _ => fun
  | [d1, d2, d3, d4] => { results := [.lit (.bool true)], args := [d1, d2, d3, d4] }
  | _ => none }
def setsTellsRow : OpenClaim := { program := "ytlahmcbaiebapaa", sum := "09d27f57cf03273e670a7e8846ffd98fe881c44ef3f95b166d0a8ef40b156411", func := "tourney/tourlaw1.SetsTells", spec := "setsTells", unfollowed := true, recurses := true, plainKeys := false, apart := false }
def SetsTellsSaid : Prop := setsTellsRow.holds Try.pinned (OpenSpec.ofChange setsTellsSpec)

/-- ITS FALSE NEIGHBOUR: 'it returns false'. Refute it at one input. -/
def setsTellsWrong : ChangeSpec := { name := "setsTells", fn := fun _ => fun
  | [d1, d2, d3, d4] => { results := [.lit (.bool false)], args := [d1, d2, d3, d4] }
  | _ => none }
def SetsTellsWrongFalsely : Prop := setsTellsRow.holds Try.pinned (OpenSpec.ofChange setsTellsWrong)

/-- 'tourlaw1.SlotsPlays': WHATEVER THE INPUT: true; the input reads as it did. -/
def slotsPlaysSpec : ChangeSpec := { name := "slotsPlays", fn := fun _ => fun
  | [d1, d2, d3] => { results := [.lit (.bool true)], args := [d1, d2, d3] }
  | _ => none }
def slotsPlaysRow : OpenClaim := { program := "ytlahmcbaiebapaa", sum := "09d27f57cf03273e670a7e8846ffd98fe881c44ef3f95b166d0a8ef40b156411", func := "tourney/tourlaw1.SlotsPlays", spec := "slotsPlays", unfollowed := true, recurses := true, plainKeys := false, apart := false }
def SlotsPlaysSaid : Prop := slotsPlaysRow.holds Try.pinned (OpenSpec.ofChange slotsPlaysSpec)

/-- ITS FALSE NEIGHBOUR: 'it returns false'. Refute it at one input. -/
def slotsPlaysWrong : ChangeSpec := { name := "slotsPlays", fn := fun _ => fun
  | [d1, d2, d3] => { results := [.lit (.bool false)], args := [d1, d2, d3] }
  | _ => none }
def SlotsPlaysWrongFalsely : Prop := slotsPlaysRow.holds Try.pinned (OpenSpec.ofChange slotsPlaysWrong)

/-- 'tourlaw3.QueryFinds': WHATEVER THE INPUT: true; the input reads as it did. -/
def queryFindsSpec : ChangeSpec := { name := "queryFinds", fn := fun _ => fun
  | [d1, d2, d3, d4] => { results := [.lit (.bool true)], args := [d1, d2, d3, d4] }
  | _ => none }
def queryFindsRow : OpenClaim := { program := "ytlahmcbaiebapaa", sum := "09d27f57cf03273e670a7e8846ffd98fe881c44ef3f95b166d0a8ef40b156411", func := "tourney/tourlaw3.QueryFinds", spec := "queryFinds", unfollowed := true, recurses := true, plainKeys := false, apart := false }
def QueryFindsSaid : Prop := queryFindsRow.holds Try.pinned (OpenSpec.ofChange queryFindsSpec)

/-- ITS FALSE NEIGHBOUR: 'it returns false'. Refute it at one input. -/
def queryFindsWrong : ChangeSpec := { name := "queryFinds", fn := fun _ => fun
  | [d1, d2, d3, d4] => { results := [.lit (.bool false)], args := [d1, d2, d3, d4] }
  | _ => none }
def QueryFindsWrongFalsely : Prop := queryFindsRow.holds Try.pinned (OpenSpec.ofChange queryFindsWrong)

/-- 'tourlaw1.QueueSorts': WHATEVER THE INPUT: true; the input reads as it did. -/
def queueSortsSpec : ChangeSpec := { name := "queueSorts", fn := fun _ => fun
  | [d] => { results := [.lit (.bool true)], args := [d] }
  | _ => none }
def queueSortsRow : OpenClaim := { program := "ytlahmcbaiebapaa", sum := "09d27f57cf03273e670a7e8846ffd98fe881c44ef3f95b166d0a8ef40b156411", func := "tourney/tourlaw1.QueueSorts", spec := "queueSorts", unfollowed := true, recurses := true, plainKeys := false, apart := false }
def QueueSortsSaid : Prop := queueSortsRow.holds Try.pinned (OpenSpec.ofChange queueSortsSpec)

/-- ITS FALSE NEIGHBOUR: 'it returns false'. Refute it at one input. -/
def queueSortsWrong : ChangeSpec := { name := "queueSorts", fn := fun _ => fun
  | [d] => { results := [.lit (.bool false)], args := [d] }
  | _ => none }
def QueueSortsWrongFalsely : Prop := queueSortsRow.holds Try.pinned (OpenSpec.ofChange queueSortsWrong)

/-- 'tourlaw3.EventFilters': WHATEVER THE INPUT: true; the input reads as it did. -/
def eventFiltersSpec : ChangeSpec := { name := "eventFilters", fn := fun _ => fun
  | [d1, d2, d3, d4] => { results := [.lit (.bool true)], args := [d1, d2, d3, d4] }
  | _ => none }
def eventFiltersRow : OpenClaim := { program := "ytlahmcbaiebapaa", sum := "09d27f57cf03273e670a7e8846ffd98fe881c44ef3f95b166d0a8ef40b156411", func := "tourney/tourlaw3.EventFilters", spec := "eventFilters", inPlace := ["slices.overlaps[tourney/event.Count]", "slices.overlaps[tourney/api.Event]"], unfollowed := true, recurses := true, plainKeys := false, apart := false }
def EventFiltersSaid : Prop := eventFiltersRow.holds Try.pinned (OpenSpec.ofChange eventFiltersSpec)

/-- ITS FALSE NEIGHBOUR: 'it returns false'. Refute it at one input. -/
def eventFiltersWrong : ChangeSpec := { name := "eventFilters", fn := fun _ => fun
  | [d1, d2, d3, d4] => { results := [.lit (.bool false)], args := [d1, d2, d3, d4] }
  | _ => none }
def EventFiltersWrongFalsely : Prop := eventFiltersRow.holds Try.pinned (OpenSpec.ofChange eventFiltersWrong)

/-- 'tourlaw3.ColumnPlays': WHATEVER THE INPUT: true; the input reads as it did. -/
def columnPlaysSpec : ChangeSpec := { name := "columnPlays", fn := fun _ => fun
  | [d] => { results := [.lit (.bool true)], args := [d] }
  | _ => none }
def columnPlaysRow : OpenClaim := { program := "ytlahmcbaiebapaa", sum := "09d27f57cf03273e670a7e8846ffd98fe881c44ef3f95b166d0a8ef40b156411", func := "tourney/tourlaw3.ColumnPlays", spec := "columnPlays", unfollowed := true, recurses := true, plainKeys := false, apart := false }
def ColumnPlaysSaid : Prop := columnPlaysRow.holds Try.pinned (OpenSpec.ofChange columnPlaysSpec)

/-- ITS FALSE NEIGHBOUR: 'it returns false'. Refute it at one input. -/
def columnPlaysWrong : ChangeSpec := { name := "columnPlays", fn := fun _ => fun
  | [d] => { results := [.lit (.bool false)], args := [d] }
  | _ => none }
def ColumnPlaysWrongFalsely : Prop := columnPlaysRow.holds Try.pinned (OpenSpec.ofChange columnPlaysWrong)

/- THE SECOND FORM. 'bulk': how many values and letters a reading holds, each counted each time it is reached (what is shared counts as often as it is met; a slice's spare places count too). A statement '..UptoSaid' is the law's where the arguments, and the package variables that the reading takes, are together of bulk at most 1048576: NARROWER than '..Said'. Prove '..Said' where nothing that the law and all that it calls make is longer than what came in: it says more and counts as full. Else prove '..UptoSaid'. A law counts once. -/
mutual
def uptoBulk {H : Type} : DataW H → Nat
  | .lit (.string bytes) => bytes.length + 1
  | .lit _ => 1
  | .nil => 1
  | .ptr d => uptoBulk d + 1
  | .slice elems spare => uptoBulkAll elems + uptoBulkAll spare + 1
  | .agg parts => uptoBulkAll parts + 1
  | .iface _ d => uptoBulk d + 1
  | .map entries => uptoBulkEntries entries + 1
  | .held _ => 1
def uptoBulkAll {H : Type} : List (DataW H) → Nat
  | [] => 0
  | d :: r => uptoBulk d + uptoBulkAll r
def uptoBulkEntries {H : Type} : List (Lit × DataW H) → Nat
  | [] => 0
  | x :: r => uptoBulkEntry x + uptoBulkEntries r
def uptoBulkEntry {H : Type} : Lit × DataW H → Nat
  | (.string bytes, d) => bytes.length + uptoBulk d + 1
  | (_, d) => uptoBulk d + 1
 end
def uptoSmall : (H : Type) → List (DataW H) → Bool := fun _ ds => decide (uptoBulkAll ds ≤ 1048576)
def OpenSpec.upto (s : _root_.Go.ChangeSpec) : _root_.Go.OpenSpec := { _root_.Go.OpenSpec.ofChange s with cond := some uptoSmall }

/-- 'tourlaw1.SetsTells', WHERE WHAT IT READS IS OF BULK AT MOST 1048576: true; the input reads as it did. -/
def setsTellsUptoRow : OpenClaim := { program := "ytlahmcbaiebapaa", sum := "09d27f57cf03273e670a7e8846ffd98fe881c44ef3f95b166d0a8ef40b156411", func := "tourney/tourlaw1.SetsTells", spec := "setsTells", unfollowed := true, recurses := true, plainKeys := false, apart := false, narrowed := true }
def SetsTellsUptoSaid : Prop := setsTellsUptoRow.holds Try.pinned (OpenSpec.upto setsTellsSpec)

/-- 'tourlaw1.SlotsPlays', WHERE WHAT IT READS IS OF BULK AT MOST 1048576: true; the input reads as it did. -/
def slotsPlaysUptoRow : OpenClaim := { program := "ytlahmcbaiebapaa", sum := "09d27f57cf03273e670a7e8846ffd98fe881c44ef3f95b166d0a8ef40b156411", func := "tourney/tourlaw1.SlotsPlays", spec := "slotsPlays", unfollowed := true, recurses := true, plainKeys := false, apart := false, narrowed := true }
def SlotsPlaysUptoSaid : Prop := slotsPlaysUptoRow.holds Try.pinned (OpenSpec.upto slotsPlaysSpec)

/-- 'tourlaw3.QueryFinds', WHERE WHAT IT READS IS OF BULK AT MOST 1048576: true; the input reads as it did. -/
def queryFindsUptoRow : OpenClaim := { program := "ytlahmcbaiebapaa", sum := "09d27f57cf03273e670a7e8846ffd98fe881c44ef3f95b166d0a8ef40b156411", func := "tourney/tourlaw3.QueryFinds", spec := "queryFinds", unfollowed := true, recurses := true, plainKeys := false, apart := false, narrowed := true }
def QueryFindsUptoSaid : Prop := queryFindsUptoRow.holds Try.pinned (OpenSpec.upto queryFindsSpec)

/-- 'tourlaw1.QueueSorts', WHERE WHAT IT READS IS OF BULK AT MOST 1048576: true; the input reads as it did. -/
def queueSortsUptoRow : OpenClaim := { program := "ytlahmcbaiebapaa", sum := "09d27f57cf03273e670a7e8846ffd98fe881c44ef3f95b166d0a8ef40b156411", func := "tourney/tourlaw1.QueueSorts", spec := "queueSorts", unfollowed := true, recurses := true, plainKeys := false, apart := false, narrowed := true }
def QueueSortsUptoSaid : Prop := queueSortsUptoRow.holds Try.pinned (OpenSpec.upto queueSortsSpec)

/-- 'tourlaw3.EventFilters', WHERE WHAT IT READS IS OF BULK AT MOST 1048576: true; the input reads as it did. -/
def eventFiltersUptoRow : OpenClaim := { program := "ytlahmcbaiebapaa", sum := "09d27f57cf03273e670a7e8846ffd98fe881c44ef3f95b166d0a8ef40b156411", func := "tourney/tourlaw3.EventFilters", spec := "eventFilters", inPlace := ["slices.overlaps[tourney/event.Count]", "slices.overlaps[tourney/api.Event]"], unfollowed := true, recurses := true, plainKeys := false, apart := false, narrowed := true }
def EventFiltersUptoSaid : Prop := eventFiltersUptoRow.holds Try.pinned (OpenSpec.upto eventFiltersSpec)

/-- 'tourlaw3.ColumnPlays', WHERE WHAT IT READS IS OF BULK AT MOST 1048576: true; the input reads as it did. -/
def columnPlaysUptoRow : OpenClaim := { program := "ytlahmcbaiebapaa", sum := "09d27f57cf03273e670a7e8846ffd98fe881c44ef3f95b166d0a8ef40b156411", func := "tourney/tourlaw3.ColumnPlays", spec := "columnPlays", unfollowed := true, recurses := true, plainKeys := false, apart := false, narrowed := true }
def ColumnPlaysUptoSaid : Prop := columnPlaysUptoRow.holds Try.pinned (OpenSpec.upto columnPlaysSpec)

end Rows
end Go.Proofs.Ytlahmcbaiebapaa
