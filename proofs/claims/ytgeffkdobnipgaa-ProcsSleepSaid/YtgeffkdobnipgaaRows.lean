/-
  No cell of these rows narrows 'for every input' (looked for: loops, veiled, ifaces, maps, wideKeys, modest, calm, conditions, laid).
  DERIVED. THE GIVEN ROWS OF THIS SEAT. 6 by the template 'for every input the law returns true; each argument reads behind the call as it read before'; 0 by the template 'total and deterministic' (their statements: YtgeffkdobnipgaaTotals.lean).
  GIVEN WITH THE SEED: the statements are not yours to turn. If you find one false, say at which input.
  Laid BY PROGRAM, IN A SANDBOX (cutbox-rows.mjs): the forced cells as the released guide's own fill.sh prints them over the translation f803756f95826cf5… (all of the seat's roots in one cut). By AI agents, Wed Nov 11 2026. No macro, syntax, notation, axiom, sorry.
-/
import Derived.Test.YtgeffkdobnipgaaChecked
import GoSem.Claim
import GoSem.ClaimJoined
import GoSem.ClaimMapViews
import Derived.JoinedTies
import Derived.KernelRfl
namespace Go.Proofs.Ytgeffkdobnipgaa
/- THE CELL 'sum', in the pinned program and in every row, IS THE sha256 OF THE DUMP (.gsa) THAT YtgeffkdobnipgaaProg.lean LOADS. Nothing in Lean hashes anything: it is a label: what it is worth is what the hold of that sum in a sandbox is worth. -/
noncomputable def Try.pinned : Pinned := { name := "ytgeffkdobnipgaa", sum := "f803756f95826cf54bae1692b55669a2476d23b4b6396910d50899cc3c2a112b", checked := Try.checked }
namespace Rows
def none {H : Type} : Left H := { results := [], args := [] }

/-- 'nacellelaw13.ProcsNumbers': WHATEVER THE INPUT: true; the input reads as it did. -/
def procsNumbersSpec : ChangeSpec := { name := "procsNumbers", fn := fun _ => fun
  | [] => { results := [.lit (.bool true)], args := [] }
  | _ => none }
def procsNumbersRow : OpenClaim := { program := "ytgeffkdobnipgaa", sum := "f803756f95826cf54bae1692b55669a2476d23b4b6396910d50899cc3c2a112b", func := "nacelle/nacellelaw13.ProcsNumbers", spec := "procsNumbers", unfollowed := true, recurses := true, apart := false }
def ProcsNumbersSaid : Prop := procsNumbersRow.holds Try.pinned (OpenSpec.ofChange procsNumbersSpec)

/-- ITS FALSE NEIGHBOUR: 'it returns false'. Refute it at one input. -/
def procsNumbersWrong : ChangeSpec := { name := "procsNumbers", fn := fun _ => fun
  | [] => { results := [.lit (.bool false)], args := [] }
  | _ => none }
def ProcsNumbersWrongFalsely : Prop := procsNumbersRow.holds Try.pinned (OpenSpec.ofChange procsNumbersWrong)

/-- 'nacellelaw13.ProcsItems': WHATEVER THE INPUT: true; the input reads as it did. -/
def procsItemsSpec : ChangeSpec := { name := "procsItems", fn := fun _ => fun
  | [d1, d2] => { results := [.lit (.bool true)], args := [d1, d2] }
  | _ => none }
def procsItemsRow : OpenClaim := { program := "ytgeffkdobnipgaa", sum := "f803756f95826cf54bae1692b55669a2476d23b4b6396910d50899cc3c2a112b", func := "nacelle/nacellelaw13.ProcsItems", spec := "procsItems", unfollowed := true, recurses := true, apart := false }
def ProcsItemsSaid : Prop := procsItemsRow.holds Try.pinned (OpenSpec.ofChange procsItemsSpec)

/-- ITS FALSE NEIGHBOUR: 'it returns false'. Refute it at one input. -/
def procsItemsWrong : ChangeSpec := { name := "procsItems", fn := fun _ => fun
  | [d1, d2] => { results := [.lit (.bool false)], args := [d1, d2] }
  | _ => none }
def ProcsItemsWrongFalsely : Prop := procsItemsRow.holds Try.pinned (OpenSpec.ofChange procsItemsWrong)

/-- 'nacellelaw13.ProcsHighest': WHATEVER THE INPUT: true; the input reads as it did. -/
def procsHighestSpec : ChangeSpec := { name := "procsHighest", fn := fun _ => fun
  | [d1, d2] => { results := [.lit (.bool true)], args := [d1, d2] }
  | _ => none }
def procsHighestRow : OpenClaim := { program := "ytgeffkdobnipgaa", sum := "f803756f95826cf54bae1692b55669a2476d23b4b6396910d50899cc3c2a112b", func := "nacelle/nacellelaw13.ProcsHighest", spec := "procsHighest", unfollowed := true, recurses := true, apart := false }
def ProcsHighestSaid : Prop := procsHighestRow.holds Try.pinned (OpenSpec.ofChange procsHighestSpec)

/-- ITS FALSE NEIGHBOUR: 'it returns false'. Refute it at one input. -/
def procsHighestWrong : ChangeSpec := { name := "procsHighest", fn := fun _ => fun
  | [d1, d2] => { results := [.lit (.bool false)], args := [d1, d2] }
  | _ => none }
def ProcsHighestWrongFalsely : Prop := procsHighestRow.holds Try.pinned (OpenSpec.ofChange procsHighestWrong)

/-- 'nacellelaw13.ProcsSleep': WHATEVER THE INPUT: true; the input reads as it did. -/
def procsSleepSpec : ChangeSpec := { name := "procsSleep", fn := fun _ => fun
  | [d1, d2, d3] => { results := [.lit (.bool true)], args := [d1, d2, d3] }
  | _ => none }
def procsSleepRow : OpenClaim := { program := "ytgeffkdobnipgaa", sum := "f803756f95826cf54bae1692b55669a2476d23b4b6396910d50899cc3c2a112b", func := "nacelle/nacellelaw13.ProcsSleep", spec := "procsSleep", unfollowed := true, recurses := true, apart := false }
def ProcsSleepSaid : Prop := procsSleepRow.holds Try.pinned (OpenSpec.ofChange procsSleepSpec)

/-- ITS FALSE NEIGHBOUR: 'it returns false'. Refute it at one input. -/
def procsSleepWrong : ChangeSpec := { name := "procsSleep", fn := fun _ => fun
  | [d1, d2, d3] => { results := [.lit (.bool false)], args := [d1, d2, d3] }
  | _ => none }
def ProcsSleepWrongFalsely : Prop := procsSleepRow.holds Try.pinned (OpenSpec.ofChange procsSleepWrong)

/-- 'nacellelaw13.ProcsStops': WHATEVER THE INPUT: true; the input reads as it did. -/
def procsStopsSpec : ChangeSpec := { name := "procsStops", fn := fun _ => fun
  | [d1, d2, d3] => { results := [.lit (.bool true)], args := [d1, d2, d3] }
  | _ => none }
def procsStopsRow : OpenClaim := { program := "ytgeffkdobnipgaa", sum := "f803756f95826cf54bae1692b55669a2476d23b4b6396910d50899cc3c2a112b", func := "nacelle/nacellelaw13.ProcsStops", spec := "procsStops", unfollowed := true, recurses := true, apart := false }
def ProcsStopsSaid : Prop := procsStopsRow.holds Try.pinned (OpenSpec.ofChange procsStopsSpec)

/-- ITS FALSE NEIGHBOUR: 'it returns false'. Refute it at one input. -/
def procsStopsWrong : ChangeSpec := { name := "procsStops", fn := fun _ => fun
  | [d1, d2, d3] => { results := [.lit (.bool false)], args := [d1, d2, d3] }
  | _ => none }
def ProcsStopsWrongFalsely : Prop := procsStopsRow.holds Try.pinned (OpenSpec.ofChange procsStopsWrong)

/-- 'nacellelaw13.ProcsQueues': WHATEVER THE INPUT: true; the input reads as it did. -/
def procsQueuesSpec : ChangeSpec := { name := "procsQueues", fn := fun _ => fun
  | [d1, d2] => { results := [.lit (.bool true)], args := [d1, d2] }
  | _ => none }
def procsQueuesRow : OpenClaim := { program := "ytgeffkdobnipgaa", sum := "f803756f95826cf54bae1692b55669a2476d23b4b6396910d50899cc3c2a112b", func := "nacelle/nacellelaw13.ProcsQueues", spec := "procsQueues", unfollowed := true, recurses := true, apart := false }
def ProcsQueuesSaid : Prop := procsQueuesRow.holds Try.pinned (OpenSpec.ofChange procsQueuesSpec)

/-- ITS FALSE NEIGHBOUR: 'it returns false'. Refute it at one input. -/
def procsQueuesWrong : ChangeSpec := { name := "procsQueues", fn := fun _ => fun
  | [d1, d2] => { results := [.lit (.bool false)], args := [d1, d2] }
  | _ => none }
def ProcsQueuesWrongFalsely : Prop := procsQueuesRow.holds Try.pinned (OpenSpec.ofChange procsQueuesWrong)

/- THE SECOND FORM. 'bulk': how many values and letters a reading holds, each counted each time it is reached (what is shared counts as often as it is met; a slice's spare places count too). A statement '..UptoSaid' is the law's where the arguments, and the package variables that the reading takes, are together of bulk at most 1048576: NARROWER than '..Said'. Prove '..Said' where nothing that the law and all that it calls make is longer than what came in: it says more and counts as full. Else prove '..UptoSaid'. A law counts once. -/
mutual
def uptoBulk {H : Type} : DataW H → Nat
  | .lit (.string bytes) => bytes.length + 1
  | .lit _ => 1
  | .nil => 1
  | .ptr d => uptoBulk d + 1
  | .slice elems spare => uptoBulkAll elems + uptoBulkAll spare + 1
  | .agg parts => uptoBulkAll parts + 1
  | .iface _ d => uptoBulk d + 1
  | .map entries => uptoBulkEntries entries + 1
  | .held _ => 1
def uptoBulkAll {H : Type} : List (DataW H) → Nat
  | [] => 0
  | d :: r => uptoBulk d + uptoBulkAll r
def uptoBulkEntries {H : Type} : List (Lit × DataW H) → Nat
  | [] => 0
  | x :: r => uptoBulkEntry x + uptoBulkEntries r
def uptoBulkEntry {H : Type} : Lit × DataW H → Nat
  | (.string bytes, d) => bytes.length + uptoBulk d + 1
  | (_, d) => uptoBulk d + 1
 end
def uptoSmall : (H : Type) → List (DataW H) → Bool := fun _ ds => decide (uptoBulkAll ds ≤ 1048576)
def OpenSpec.upto (s : _root_.Go.ChangeSpec) : _root_.Go.OpenSpec := { _root_.Go.OpenSpec.ofChange s with cond := some uptoSmall }

/-- 'nacellelaw13.ProcsNumbers', WHERE WHAT IT READS IS OF BULK AT MOST 1048576: true; the input reads as it did. -/
def procsNumbersUptoRow : OpenClaim := { program := "ytgeffkdobnipgaa", sum := "f803756f95826cf54bae1692b55669a2476d23b4b6396910d50899cc3c2a112b", func := "nacelle/nacellelaw13.ProcsNumbers", spec := "procsNumbers", unfollowed := true, recurses := true, apart := false, narrowed := true }
def ProcsNumbersUptoSaid : Prop := procsNumbersUptoRow.holds Try.pinned (OpenSpec.upto procsNumbersSpec)

/-- 'nacellelaw13.ProcsItems', WHERE WHAT IT READS IS OF BULK AT MOST 1048576: true; the input reads as it did. -/
def procsItemsUptoRow : OpenClaim := { program := "ytgeffkdobnipgaa", sum := "f803756f95826cf54bae1692b55669a2476d23b4b6396910d50899cc3c2a112b", func := "nacelle/nacellelaw13.ProcsItems", spec := "procsItems", unfollowed := true, recurses := true, apart := false, narrowed := true }
def ProcsItemsUptoSaid : Prop := procsItemsUptoRow.holds Try.pinned (OpenSpec.upto procsItemsSpec)

/-- 'nacellelaw13.ProcsHighest', WHERE WHAT IT READS IS OF BULK AT MOST 1048576: true; the input reads as it did. -/
def procsHighestUptoRow : OpenClaim := { program := "ytgeffkdobnipgaa", sum := "f803756f95826cf54bae1692b55669a2476d23b4b6396910d50899cc3c2a112b", func := "nacelle/nacellelaw13.ProcsHighest", spec := "procsHighest", unfollowed := true, recurses := true, apart := false, narrowed := true }
def ProcsHighestUptoSaid : Prop := procsHighestUptoRow.holds Try.pinned (OpenSpec.upto procsHighestSpec)

/-- 'nacellelaw13.ProcsSleep', WHERE WHAT IT READS IS OF BULK AT MOST 1048576: true; the input reads as it did. -/
def procsSleepUptoRow : OpenClaim := { program := "ytgeffkdobnipgaa", sum := "f803756f95826cf54bae1692b55669a2476d23b4b6396910d50899cc3c2a112b", func := "nacelle/nacellelaw13.ProcsSleep", spec := "procsSleep", unfollowed := true, recurses := true, apart := false, narrowed := true }
def ProcsSleepUptoSaid : Prop := procsSleepUptoRow.holds Try.pinned (OpenSpec.upto procsSleepSpec)

/-- 'nacellelaw13.ProcsStops', WHERE WHAT IT READS IS OF BULK AT MOST 1048576: true; the input reads as it did. -/
def procsStopsUptoRow : OpenClaim := { program := "ytgeffkdobnipgaa", sum := "f803756f95826cf54bae1692b55669a2476d23b4b6396910d50899cc3c2a112b", func := "nacelle/nacellelaw13.ProcsStops", spec := "procsStops", unfollowed := true, recurses := true, apart := false, narrowed := true }
def ProcsStopsUptoSaid : Prop := procsStopsUptoRow.holds Try.pinned (OpenSpec.upto procsStopsSpec)

/-- 'nacellelaw13.ProcsQueues', WHERE WHAT IT READS IS OF BULK AT MOST 1048576: true; the input reads as it did. -/
def procsQueuesUptoRow : OpenClaim := { program := "ytgeffkdobnipgaa", sum := "f803756f95826cf54bae1692b55669a2476d23b4b6396910d50899cc3c2a112b", func := "nacelle/nacellelaw13.ProcsQueues", spec := "procsQueues", unfollowed := true, recurses := true, apart := false, narrowed := true }
def ProcsQueuesUptoSaid : Prop := procsQueuesUptoRow.holds Try.pinned (OpenSpec.upto procsQueuesSpec)

end Rows
end Go.Proofs.Ytgeffkdobnipgaa
