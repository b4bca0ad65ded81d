/- A machine and its instructions, as the text of pvm has them, in plain Lean. No program in sight. -/
import Derived.WalkKit
import Derived.IntWalk
namespace Nac.Pvm
open Go Go.RowKit Go.IntWalk
structure Ins where
  op : Nat
  a : Nat
  b : Nat
  c : Nat
  deriving DecidableEq
instance : Inhabited Ins := ⟨⟨0, 0, 0, 0⟩⟩
structure Ins.fits (i : Ins) : Prop where
  op : i.op < 256
  a : i.a < 256
  b : i.b < 256
  c : i.c < 256
structure Mach where
  place : Int
  r : List Int
  mem : List Int
  state : Int
  trap : Int
/-- the number of b and c -/
def num (i : Ins) : Int := if i.op = 1 ∧ 32768 ≤ i.b + 256 * i.c then (i.b : Int) + 256 * i.c - 65536 else (i.b : Int) + 256 * i.c
/-- does an instruction meet the table? -/
def wf (i : Ins) : Bool :=
  if i.op = 0 then decide (i.a = 0 ∧ i.b = 0 ∧ i.c = 0)
  else if i.op = 15 then decide (i.a = 0)
  else if i.op = 17 then decide (i.a < 16 ∧ i.b = 0 ∧ i.c = 0)
  else if i.op = 2 then decide (i.c = 0 ∧ i.b < 8 ∧ i.a < 8)
  else if 3 ≤ i.op ∧ i.op ≤ 12 then decide (i.c < 8 ∧ i.b < 8 ∧ i.a < 8)
  else if i.op = 13 ∨ i.op = 14 then decide (i.b < 8 ∧ i.a < 8)
  else if i.op = 1 ∨ i.op = 16 then decide (i.a < 8)
  else false
def leads (i : Ins) : Bool := i.op == 15 || i.op == 16
/-- the first fault: its code, its place -/
def faultAt (n : Nat) : List Ins → Nat → Option (Nat × Nat)
  | [], _ => none
  | i :: l, k => if wf i = false then some (3, k) else if leads i = true ∧ (n : Int) ≤ num i then some (4, k) else faultAt n l (k + 1)
def check (l : List Ins) : Option (Nat × Nat) :=
  if l.length = 0 ∨ 128 < l.length then some (1, 0)
  else match faultAt l.length l 0 with
    | some f => some f
    | none => if (l.getD (l.length - 1) default).op ≠ 0 ∧ (l.getD (l.length - 1) default).op ≠ 15 then some (2, l.length - 1) else none
/-- what an instruction with three registers computes -/
def res (op : Nat) (b c : Int) : Int :=
  if op = 3 then wrap64 (b + c) else if op = 4 then wrap64 (b + wrap64 (-c)) else if op = 5 then wrap64 (b * c) else if op = 6 then wrap64 (b.tdiv c) else if op = 7 then b.tmod c
  else if op = 8 then bits .and .i64 b c else if op = 9 then bits .or .i64 b c else if op = 10 then bits .xor .i64 b c else if op = 11 then (if decide (b < c) = true then 1 else 0) else (if (b == c) = true then 1 else 0)
def Mach.reg (m : Mach) (k : Nat) : Int := m.r.getD k 0
def wordAt (m : Mach) (i : Ins) : Int :=
  if wrap64 (m.reg i.b + i.c) < 0 ∨ (m.mem.length : Int) ≤ wrap64 (m.reg i.b + i.c) then -1 else wrap64 (m.reg i.b + i.c)
def trapM (m : Mach) (e : Int) : Mach × Int × Int := ({ m with state := 2, trap := e }, 3, e)
/-- an instruction that cannot trap: the place is that of the next one -/
def plainM (m : Mach) (i : Ins) : Mach :=
  if i.op = 1 then { m with r := m.r.set i.a (num i) }
  else if i.op = 2 then { m with r := m.r.set i.a (m.reg i.b) }
  else if i.op = 16 then (if m.reg i.a ≠ 0 then m else { m with place := num i })
  else if i.op = 15 then { m with place := num i }
  else { m with r := m.r.set i.a (res i.op (m.reg i.b) (m.reg i.c)) }
/-- a step: the machine, the event's kind and number -/
def stepM (l : List Ins) (m : Mach) : Mach × Int × Int :=
  if m.state ≠ 0 then (m, 0, 0)
  else if m.place < 0 ∨ (l.length : Int) ≤ m.place then trapM m 82
  else if wf (l.getD m.place.toNat default) = false then trapM m 83
  else if (l.getD m.place.toNat default).op = 0 then ({ m with state := 1 }, 2, 0)
  else if (l.getD m.place.toNat default).op = 17 then ({ m with place := m.place + 1 }, 1, (l.getD m.place.toNat default).a)
  else if (l.getD m.place.toNat default).op = 13 then
    (if wordAt m (l.getD m.place.toNat default) < 0 then trapM m 81 else ({ m with r := m.r.set (l.getD m.place.toNat default).a (m.mem.getD (wordAt m (l.getD m.place.toNat default)).toNat 0), place := m.place + 1 }, 0, 0))
  else if (l.getD m.place.toNat default).op = 14 then
    (if wordAt m (l.getD m.place.toNat default) < 0 then trapM m 81 else ({ m with mem := m.mem.set (wordAt m (l.getD m.place.toNat default)).toNat (m.reg (l.getD m.place.toNat default).a), place := m.place + 1 }, 0, 0))
  else if ((l.getD m.place.toNat default).op = 6 ∨ (l.getD m.place.toNat default).op = 7) ∧ m.reg (l.getD m.place.toNat default).c = 0 then trapM m 80
  else (plainM { m with place := m.place + 1 } (l.getD m.place.toNat default), 0, 0)
end Nac.Pvm
