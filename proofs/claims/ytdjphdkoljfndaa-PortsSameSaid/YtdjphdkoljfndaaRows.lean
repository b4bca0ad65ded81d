/-
  No cell of these rows narrows 'for every input' (looked for: loops, veiled, ifaces, maps, wideKeys, modest, calm, conditions, laid).
  DERIVED. THE GIVEN ROWS OF THIS SEAT. 4 by the template 'for every input the law returns true; each argument reads behind the call as it read before'; 0 by the template 'total and deterministic' (their statements: YtdjphdkoljfndaaTotals.lean).
  GIVEN WITH THE SEED: the statements are not yours to turn. If you find one false, say at which input.
  Laid BY PROGRAM, IN A SANDBOX (cutbox-rows.mjs): the forced cells as the released guide's own fill.sh prints them over the translation c64f249fa2945ddb… (all of the seat's roots in one cut). By AI agents, Wed Nov 11 2026. No macro, syntax, notation, axiom, sorry.
-/
import Derived.Test.YtdjphdkoljfndaaChecked
import GoSem.Claim
import GoSem.ClaimJoined
import GoSem.ClaimMapViews
import Derived.JoinedTies
import Derived.KernelRfl
namespace Go.Proofs.Ytdjphdkoljfndaa
/- THE CELL 'sum', in the pinned program and in every row, IS THE sha256 OF THE DUMP (.gsa) THAT YtdjphdkoljfndaaProg.lean LOADS. Nothing in Lean hashes anything: it is a label: what it is worth is what the hold of that sum in a sandbox is worth. -/
noncomputable def Try.pinned : Pinned := { name := "ytdjphdkoljfndaa", sum := "c64f249fa2945ddbf3652bca78077b4765c145ec1d5dadb64b07d4b821fb4b80", checked := Try.checked }
namespace Rows
def none {H : Type} : Left H := { results := [], args := [] }

/-- 'nacellelaw12.PortsDiode': WHATEVER THE INPUT: true; the input reads as it did. -/
def portsDiodeSpec : ChangeSpec := { name := "portsDiode", fn := fun _ => fun
  | [d] => { results := [.lit (.bool true)], args := [d] }
  | _ => none }
def portsDiodeRow : OpenClaim := { program := "ytdjphdkoljfndaa", sum := "c64f249fa2945ddbf3652bca78077b4765c145ec1d5dadb64b07d4b821fb4b80", func := "nacelle/nacellelaw12.PortsDiode", spec := "portsDiode", apart := false }
def PortsDiodeSaid : Prop := portsDiodeRow.holds Try.pinned (OpenSpec.ofChange portsDiodeSpec)

/-- ITS FALSE NEIGHBOUR: 'it returns false'. Refute it at one input. -/
def portsDiodeWrong : ChangeSpec := { name := "portsDiode", fn := fun _ => fun
  | [d] => { results := [.lit (.bool false)], args := [d] }
  | _ => none }
def PortsDiodeWrongFalsely : Prop := portsDiodeRow.holds Try.pinned (OpenSpec.ofChange portsDiodeWrong)

/-- 'nacellelaw12.PortsOrder': WHATEVER THE INPUT: true; the input reads as it did. -/
def portsOrderSpec : ChangeSpec := { name := "portsOrder", fn := fun _ => fun
  | [d1, d2] => { results := [.lit (.bool true)], args := [d1, d2] }
  | _ => none }
def portsOrderRow : OpenClaim := { program := "ytdjphdkoljfndaa", sum := "c64f249fa2945ddbf3652bca78077b4765c145ec1d5dadb64b07d4b821fb4b80", func := "nacelle/nacellelaw12.PortsOrder", spec := "portsOrder", apart := false }
def PortsOrderSaid : Prop := portsOrderRow.holds Try.pinned (OpenSpec.ofChange portsOrderSpec)

/-- ITS FALSE NEIGHBOUR: 'it returns false'. Refute it at one input. -/
def portsOrderWrong : ChangeSpec := { name := "portsOrder", fn := fun _ => fun
  | [d1, d2] => { results := [.lit (.bool false)], args := [d1, d2] }
  | _ => none }
def PortsOrderWrongFalsely : Prop := portsOrderRow.holds Try.pinned (OpenSpec.ofChange portsOrderWrong)

/-- 'nacellelaw12.PortsSample': WHATEVER THE INPUT: true; the input reads as it did. -/
def portsSampleSpec : ChangeSpec := { name := "portsSample", fn := fun _ => fun
  | [d1, d2] => { results := [.lit (.bool true)], args := [d1, d2] }
  | _ => none }
def portsSampleRow : OpenClaim := { program := "ytdjphdkoljfndaa", sum := "c64f249fa2945ddbf3652bca78077b4765c145ec1d5dadb64b07d4b821fb4b80", func := "nacelle/nacellelaw12.PortsSample", spec := "portsSample", apart := false }
def PortsSampleSaid : Prop := portsSampleRow.holds Try.pinned (OpenSpec.ofChange portsSampleSpec)

/-- ITS FALSE NEIGHBOUR: 'it returns false'. Refute it at one input. -/
def portsSampleWrong : ChangeSpec := { name := "portsSample", fn := fun _ => fun
  | [d1, d2] => { results := [.lit (.bool false)], args := [d1, d2] }
  | _ => none }
def PortsSampleWrongFalsely : Prop := portsSampleRow.holds Try.pinned (OpenSpec.ofChange portsSampleWrong)

/-- 'nacellelaw12.PortsSame': WHATEVER THE INPUT: true; the input reads as it did. -/
def portsSameSpec : ChangeSpec := { name := "portsSame", fn := fun _ => fun
  | [d] => { results := [.lit (.bool true)], args := [d] }
  | _ => none }
def portsSameRow : OpenClaim := { program := "ytdjphdkoljfndaa", sum := "c64f249fa2945ddbf3652bca78077b4765c145ec1d5dadb64b07d4b821fb4b80", func := "nacelle/nacellelaw12.PortsSame", spec := "portsSame", apart := false }
def PortsSameSaid : Prop := portsSameRow.holds Try.pinned (OpenSpec.ofChange portsSameSpec)

/-- ITS FALSE NEIGHBOUR: 'it returns false'. Refute it at one input. -/
def portsSameWrong : ChangeSpec := { name := "portsSame", fn := fun _ => fun
  | [d] => { results := [.lit (.bool false)], args := [d] }
  | _ => none }
def PortsSameWrongFalsely : Prop := portsSameRow.holds Try.pinned (OpenSpec.ofChange portsSameWrong)

/- THE SECOND FORM. 'bulk': how many values and letters a reading holds, each counted each time it is reached (what is shared counts as often as it is met; a slice's spare places count too). A statement '..UptoSaid' is the law's where the arguments, and the package variables that the reading takes, are together of bulk at most 1048576: NARROWER than '..Said'. Prove '..Said' where nothing that the law and all that it calls make is longer than what came in: it says more and counts as full. Else prove '..UptoSaid'. A law counts once. -/
mutual
def uptoBulk {H : Type} : DataW H → Nat
  | .lit (.string bytes) => bytes.length + 1
  | .lit _ => 1
  | .nil => 1
  | .ptr d => uptoBulk d + 1
  | .slice elems spare => uptoBulkAll elems + uptoBulkAll spare + 1
  | .agg parts => uptoBulkAll parts + 1
  | .iface _ d => uptoBulk d + 1
  | .map entries => uptoBulkEntries entries + 1
  | .held _ => 1
def uptoBulkAll {H : Type} : List (DataW H) → Nat
  | [] => 0
  | d :: r => uptoBulk d + uptoBulkAll r
def uptoBulkEntries {H : Type} : List (Lit × DataW H) → Nat
  | [] => 0
  | x :: r => uptoBulkEntry x + uptoBulkEntries r
def uptoBulkEntry {H : Type} : Lit × DataW H → Nat
  | (.string bytes, d) => bytes.length + uptoBulk d + 1
  | (_, d) => uptoBulk d + 1
 end
def uptoSmall : (H : Type) → List (DataW H) → Bool := fun _ ds => decide (uptoBulkAll ds ≤ 1048576)
def OpenSpec.upto (s : _root_.Go.ChangeSpec) : _root_.Go.OpenSpec := { _root_.Go.OpenSpec.ofChange s with cond := some uptoSmall }

/-- 'nacellelaw12.PortsDiode', WHERE WHAT IT READS IS OF BULK AT MOST 1048576: true; the input reads as it did. -/
def portsDiodeUptoRow : OpenClaim := { program := "ytdjphdkoljfndaa", sum := "c64f249fa2945ddbf3652bca78077b4765c145ec1d5dadb64b07d4b821fb4b80", func := "nacelle/nacellelaw12.PortsDiode", spec := "portsDiode", apart := false, narrowed := true }
def PortsDiodeUptoSaid : Prop := portsDiodeUptoRow.holds Try.pinned (OpenSpec.upto portsDiodeSpec)

/-- 'nacellelaw12.PortsOrder', WHERE WHAT IT READS IS OF BULK AT MOST 1048576: true; the input reads as it did. -/
def portsOrderUptoRow : OpenClaim := { program := "ytdjphdkoljfndaa", sum := "c64f249fa2945ddbf3652bca78077b4765c145ec1d5dadb64b07d4b821fb4b80", func := "nacelle/nacellelaw12.PortsOrder", spec := "portsOrder", apart := false, narrowed := true }
def PortsOrderUptoSaid : Prop := portsOrderUptoRow.holds Try.pinned (OpenSpec.upto portsOrderSpec)

/-- 'nacellelaw12.PortsSample', WHERE WHAT IT READS IS OF BULK AT MOST 1048576: true; the input reads as it did. -/
def portsSampleUptoRow : OpenClaim := { program := "ytdjphdkoljfndaa", sum := "c64f249fa2945ddbf3652bca78077b4765c145ec1d5dadb64b07d4b821fb4b80", func := "nacelle/nacellelaw12.PortsSample", spec := "portsSample", apart := false, narrowed := true }
def PortsSampleUptoSaid : Prop := portsSampleUptoRow.holds Try.pinned (OpenSpec.upto portsSampleSpec)

/-- 'nacellelaw12.PortsSame', WHERE WHAT IT READS IS OF BULK AT MOST 1048576: true; the input reads as it did. -/
def portsSameUptoRow : OpenClaim := { program := "ytdjphdkoljfndaa", sum := "c64f249fa2945ddbf3652bca78077b4765c145ec1d5dadb64b07d4b821fb4b80", func := "nacelle/nacellelaw12.PortsSame", spec := "portsSame", apart := false, narrowed := true }
def PortsSameUptoSaid : Prop := portsSameUptoRow.holds Try.pinned (OpenSpec.upto portsSameSpec)

end Rows
end Go.Proofs.Ytdjphdkoljfndaa
