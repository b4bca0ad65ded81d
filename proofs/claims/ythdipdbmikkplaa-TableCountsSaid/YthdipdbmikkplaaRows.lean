/-
  No cell of these rows narrows 'for every input' (looked for: loops, veiled, ifaces, maps, wideKeys, modest, calm, conditions, laid).
  DERIVED. THE GIVEN ROWS OF THIS SEAT. 5 by the template 'for every input the law returns true; each argument reads behind the call as it read before'; 0 by the template 'total and deterministic' (their statements: YthdipdbmikkplaaTotals.lean).
  GIVEN WITH THE SEED: the statements are not yours to turn. If you find one false, say at which input.
  Laid BY PROGRAM, IN A SANDBOX (cutbox-rows.mjs): the forced cells as the released guide's own fill.sh prints them over the translation bc02ef02ed7aa0d4… (all of the seat's roots in one cut). By AI agents, Wed Nov 11 2026. No macro, syntax, notation, axiom, sorry.
-/
import Derived.Test.YthdipdbmikkplaaChecked
import GoSem.Claim
import GoSem.ClaimJoined
import GoSem.ClaimMapViews
import Derived.JoinedTies
import Derived.KernelRfl
namespace Go.Proofs.Ythdipdbmikkplaa
/- THE CELL 'sum', in the pinned program and in every row, IS THE sha256 OF THE DUMP (.gsa) THAT YthdipdbmikkplaaProg.lean LOADS. Nothing in Lean hashes anything: it is a label: what it is worth is what the hold of that sum in a sandbox is worth. -/
noncomputable def Try.pinned : Pinned := { name := "ythdipdbmikkplaa", sum := "bc02ef02ed7aa0d4c3f47b3eb6d59a09e7d2a4e15a964049c54f7fc0b3827891", checked := Try.checked }
namespace Rows
def none {H : Type} : Left H := { results := [], args := [] }

/-- 'nacellelaw11.TableTells': WHATEVER THE INPUT: true; the input reads as it did. -/
def tableTellsSpec : ChangeSpec := { name := "tableTells", fn := fun _ => fun
  | [d1, d2] => { results := [.lit (.bool true)], args := [d1, d2] }
  | _ => none }
def tableTellsRow : OpenClaim := { program := "ythdipdbmikkplaa", sum := "bc02ef02ed7aa0d4c3f47b3eb6d59a09e7d2a4e15a964049c54f7fc0b3827891", func := "nacelle/nacellelaw11.TableTells", spec := "tableTells", unfollowed := true, recurses := true, apart := false }
def TableTellsSaid : Prop := tableTellsRow.holds Try.pinned (OpenSpec.ofChange tableTellsSpec)

/-- ITS FALSE NEIGHBOUR: 'it returns false'. Refute it at one input. -/
def tableTellsWrong : ChangeSpec := { name := "tableTells", fn := fun _ => fun
  | [d1, d2] => { results := [.lit (.bool false)], args := [d1, d2] }
  | _ => none }
def TableTellsWrongFalsely : Prop := tableTellsRow.holds Try.pinned (OpenSpec.ofChange tableTellsWrong)

/-- 'nacellelaw11.TableCounts': WHATEVER THE INPUT: true; the input reads as it did. -/
def tableCountsSpec : ChangeSpec := { name := "tableCounts", fn := fun _ => fun
  | [d1, d2, d3] => { results := [.lit (.bool true)], args := [d1, d2, d3] }
  | _ => none }
def tableCountsRow : OpenClaim := { program := "ythdipdbmikkplaa", sum := "bc02ef02ed7aa0d4c3f47b3eb6d59a09e7d2a4e15a964049c54f7fc0b3827891", func := "nacelle/nacellelaw11.TableCounts", spec := "tableCounts", unfollowed := true, recurses := true, apart := false }
def TableCountsSaid : Prop := tableCountsRow.holds Try.pinned (OpenSpec.ofChange tableCountsSpec)

/-- ITS FALSE NEIGHBOUR: 'it returns false'. Refute it at one input. -/
def tableCountsWrong : ChangeSpec := { name := "tableCounts", fn := fun _ => fun
  | [d1, d2, d3] => { results := [.lit (.bool false)], args := [d1, d2, d3] }
  | _ => none }
def TableCountsWrongFalsely : Prop := tableCountsRow.holds Try.pinned (OpenSpec.ofChange tableCountsWrong)

/-- 'nacellelaw11.TableShares': WHATEVER THE INPUT: true; the input reads as it did. -/
def tableSharesSpec : ChangeSpec := { name := "tableShares", fn := fun _ => fun
  | [d1, d2] => { results := [.lit (.bool true)], args := [d1, d2] }
  | _ => none }
def tableSharesRow : OpenClaim := { program := "ythdipdbmikkplaa", sum := "bc02ef02ed7aa0d4c3f47b3eb6d59a09e7d2a4e15a964049c54f7fc0b3827891", func := "nacelle/nacellelaw11.TableShares", spec := "tableShares", unfollowed := true, recurses := true, apart := false }
def TableSharesSaid : Prop := tableSharesRow.holds Try.pinned (OpenSpec.ofChange tableSharesSpec)

/-- ITS FALSE NEIGHBOUR: 'it returns false'. Refute it at one input. -/
def tableSharesWrong : ChangeSpec := { name := "tableShares", fn := fun _ => fun
  | [d1, d2] => { results := [.lit (.bool false)], args := [d1, d2] }
  | _ => none }
def TableSharesWrongFalsely : Prop := tableSharesRow.holds Try.pinned (OpenSpec.ofChange tableSharesWrong)

/-- 'nacellelaw11.TableRound': WHATEVER THE INPUT: true; the input reads as it did. -/
def tableRoundSpec : ChangeSpec := { name := "tableRound", fn := fun _ => fun
  | [d1, d2, d3] => { results := [.lit (.bool true)], args := [d1, d2, d3] }
  | _ => none }
def tableRoundRow : OpenClaim := { program := "ythdipdbmikkplaa", sum := "bc02ef02ed7aa0d4c3f47b3eb6d59a09e7d2a4e15a964049c54f7fc0b3827891", func := "nacelle/nacellelaw11.TableRound", spec := "tableRound", unfollowed := true, recurses := true, apart := false }
def TableRoundSaid : Prop := tableRoundRow.holds Try.pinned (OpenSpec.ofChange tableRoundSpec)

/-- ITS FALSE NEIGHBOUR: 'it returns false'. Refute it at one input. -/
def tableRoundWrong : ChangeSpec := { name := "tableRound", fn := fun _ => fun
  | [d1, d2, d3] => { results := [.lit (.bool false)], args := [d1, d2, d3] }
  | _ => none }
def TableRoundWrongFalsely : Prop := tableRoundRow.holds Try.pinned (OpenSpec.ofChange tableRoundWrong)

/-- 'nacellelaw11.TableNexts': WHATEVER THE INPUT: true; the input reads as it did. -/
def tableNextsSpec : ChangeSpec := { name := "tableNexts", fn := fun _ => fun
  | [d1, d2, d3] => { results := [.lit (.bool true)], args := [d1, d2, d3] }
  | _ => none }
def tableNextsRow : OpenClaim := { program := "ythdipdbmikkplaa", sum := "bc02ef02ed7aa0d4c3f47b3eb6d59a09e7d2a4e15a964049c54f7fc0b3827891", func := "nacelle/nacellelaw11.TableNexts", spec := "tableNexts", unfollowed := true, recurses := true, apart := false }
def TableNextsSaid : Prop := tableNextsRow.holds Try.pinned (OpenSpec.ofChange tableNextsSpec)

/-- ITS FALSE NEIGHBOUR: 'it returns false'. Refute it at one input. -/
def tableNextsWrong : ChangeSpec := { name := "tableNexts", fn := fun _ => fun
  | [d1, d2, d3] => { results := [.lit (.bool false)], args := [d1, d2, d3] }
  | _ => none }
def TableNextsWrongFalsely : Prop := tableNextsRow.holds Try.pinned (OpenSpec.ofChange tableNextsWrong)

/- THE SECOND FORM. 'bulk': how many values and letters a reading holds, each counted each time it is reached (what is shared counts as often as it is met; a slice's spare places count too). A statement '..UptoSaid' is the law's where the arguments, and the package variables that the reading takes, are together of bulk at most 1048576: NARROWER than '..Said'. Prove '..Said' where nothing that the law and all that it calls make is longer than what came in: it says more and counts as full. Else prove '..UptoSaid'. A law counts once. -/
mutual
def uptoBulk {H : Type} : DataW H → Nat
  | .lit (.string bytes) => bytes.length + 1
  | .lit _ => 1
  | .nil => 1
  | .ptr d => uptoBulk d + 1
  | .slice elems spare => uptoBulkAll elems + uptoBulkAll spare + 1
  | .agg parts => uptoBulkAll parts + 1
  | .iface _ d => uptoBulk d + 1
  | .map entries => uptoBulkEntries entries + 1
  | .held _ => 1
def uptoBulkAll {H : Type} : List (DataW H) → Nat
  | [] => 0
  | d :: r => uptoBulk d + uptoBulkAll r
def uptoBulkEntries {H : Type} : List (Lit × DataW H) → Nat
  | [] => 0
  | x :: r => uptoBulkEntry x + uptoBulkEntries r
def uptoBulkEntry {H : Type} : Lit × DataW H → Nat
  | (.string bytes, d) => bytes.length + uptoBulk d + 1
  | (_, d) => uptoBulk d + 1
 end
def uptoSmall : (H : Type) → List (DataW H) → Bool := fun _ ds => decide (uptoBulkAll ds ≤ 1048576)
def OpenSpec.upto (s : _root_.Go.ChangeSpec) : _root_.Go.OpenSpec := { _root_.Go.OpenSpec.ofChange s with cond := some uptoSmall }

/-- 'nacellelaw11.TableTells', WHERE WHAT IT READS IS OF BULK AT MOST 1048576: true; the input reads as it did. -/
def tableTellsUptoRow : OpenClaim := { program := "ythdipdbmikkplaa", sum := "bc02ef02ed7aa0d4c3f47b3eb6d59a09e7d2a4e15a964049c54f7fc0b3827891", func := "nacelle/nacellelaw11.TableTells", spec := "tableTells", unfollowed := true, recurses := true, apart := false, narrowed := true }
def TableTellsUptoSaid : Prop := tableTellsUptoRow.holds Try.pinned (OpenSpec.upto tableTellsSpec)

/-- 'nacellelaw11.TableCounts', WHERE WHAT IT READS IS OF BULK AT MOST 1048576: true; the input reads as it did. -/
def tableCountsUptoRow : OpenClaim := { program := "ythdipdbmikkplaa", sum := "bc02ef02ed7aa0d4c3f47b3eb6d59a09e7d2a4e15a964049c54f7fc0b3827891", func := "nacelle/nacellelaw11.TableCounts", spec := "tableCounts", unfollowed := true, recurses := true, apart := false, narrowed := true }
def TableCountsUptoSaid : Prop := tableCountsUptoRow.holds Try.pinned (OpenSpec.upto tableCountsSpec)

/-- 'nacellelaw11.TableShares', WHERE WHAT IT READS IS OF BULK AT MOST 1048576: true; the input reads as it did. -/
def tableSharesUptoRow : OpenClaim := { program := "ythdipdbmikkplaa", sum := "bc02ef02ed7aa0d4c3f47b3eb6d59a09e7d2a4e15a964049c54f7fc0b3827891", func := "nacelle/nacellelaw11.TableShares", spec := "tableShares", unfollowed := true, recurses := true, apart := false, narrowed := true }
def TableSharesUptoSaid : Prop := tableSharesUptoRow.holds Try.pinned (OpenSpec.upto tableSharesSpec)

/-- 'nacellelaw11.TableRound', WHERE WHAT IT READS IS OF BULK AT MOST 1048576: true; the input reads as it did. -/
def tableRoundUptoRow : OpenClaim := { program := "ythdipdbmikkplaa", sum := "bc02ef02ed7aa0d4c3f47b3eb6d59a09e7d2a4e15a964049c54f7fc0b3827891", func := "nacelle/nacellelaw11.TableRound", spec := "tableRound", unfollowed := true, recurses := true, apart := false, narrowed := true }
def TableRoundUptoSaid : Prop := tableRoundUptoRow.holds Try.pinned (OpenSpec.upto tableRoundSpec)

/-- 'nacellelaw11.TableNexts', WHERE WHAT IT READS IS OF BULK AT MOST 1048576: true; the input reads as it did. -/
def tableNextsUptoRow : OpenClaim := { program := "ythdipdbmikkplaa", sum := "bc02ef02ed7aa0d4c3f47b3eb6d59a09e7d2a4e15a964049c54f7fc0b3827891", func := "nacelle/nacellelaw11.TableNexts", spec := "tableNexts", unfollowed := true, recurses := true, apart := false, narrowed := true }
def TableNextsUptoSaid : Prop := tableNextsUptoRow.holds Try.pinned (OpenSpec.upto tableNextsSpec)

end Rows
end Go.Proofs.Ythdipdbmikkplaa
