/- A set of processes, as the text of procs has it, in plain Lean. No program in sight. -/
import Derived.WalkKit
namespace Nac.Procs
structure Out where
  code : Int
  value : Int
  waits : Bool
  deriving DecidableEq
def ok : Out := ⟨0, 0, false⟩
structure Prc where
  pr : Int
  st : Int
  last : Out
  res : Int
  left : Int
  item : Int
instance : Inhabited Prc := ⟨⟨0, 0, ok, 0, 0, 0⟩⟩
structure Rsc where
  kind : Int
  count : Int
  most : Int
  q : List Nat
  items : List Int
instance : Inhabited Rsc := ⟨⟨0, 0, 0, [], []⟩⟩
structure PSet where
  ps : List Prc
  rs : List Rsc
  ready : List Nat
def without (l : List Nat) (p : Nat) : List Nat := l.filter (fun q => !(q == p))
def PSet.proc (s : PSet) (p : Nat) : Prc := s.ps.getD p default
def PSet.rsc (s : PSet) (r : Nat) : Rsc := s.rs.getD r default
def PSet.setP (s : PSet) (p : Nat) (x : Prc) : PSet := { s with ps := s.ps.set p x }
def PSet.setR (s : PSet) (r : Nat) (x : Rsc) : PSet := { s with rs := s.rs.set r x }
def wake (s : PSet) (p : Nat) : PSet := { s.setP p { s.proc p with st := 1 } with ready := s.ready ++ [p] }
/-- out of the row in which it stands -/
def unq (s : PSet) (p : Nat) : PSet := if (s.proc p).st = 2 ∧ (s.proc p).res ≠ -1 then s.setR (s.proc p).res.toNat { s.rsc (s.proc p).res.toNat with q := without (s.rsc (s.proc p).res.toNat).q p } else s
def leave (s : PSet) (p : Nat) : PSet := (unq { s with ready := without s.ready p } p).setP p { s.proc p with res := -1, left := 0, item := 0 }
def release (s : PSet) (p : Nat) (o : Out) : PSet := wake ((leave s p).setP p { (leave s p).proc p with last := o }) p
/-- to wait: for time (r = -1), or for a resource -/
def park (s : PSet) (p : Nat) (r : Int) (ticks item : Int) : PSet :=
  let s1 := (leave s p).setP p { (leave s p).proc p with st := 2, res := r, left := ticks, item := item }
  if r ≠ -1 then s1.setR r.toNat { s1.rsc r.toNat with q := (s1.rsc r.toNat).q ++ [p] } else s1
/-- the greatest priority of those in a list, or -1 -/
def great (s : PSet) : List Nat → Int → Int
  | [], g => g
  | p :: l, g => great s l (max g (s.proc p).pr)
/-- who runs -/
def running (s : PSet) : Option Nat := s.ready.find? (fun p => (s.proc p).pr == great s s.ready (-1))
def runI (s : PSet) : Int := match running s with | none => -1 | some p => p
def isP (P : PSet) (p : Int) : Bool := decide (0 ≤ p) && decide (p < P.ps.length)
def isR (P : PSet) (r : Int) : Bool := decide (0 ≤ r) && decide (r < P.rs.length)
def stateI (P : PSet) (p : Int) : Int := if isP P p = true then (P.proc p.toNat).st else 0
def countI (P : PSet) (r : Int) : Int := if isR P r = true then (P.rsc r.toNat).count else 0
end Nac.Procs
