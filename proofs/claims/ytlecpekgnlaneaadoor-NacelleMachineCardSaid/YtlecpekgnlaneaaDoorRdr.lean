/- A reader of bytes, as the text of octet has it: its bytes, the offset, the failure. No program in sight. -/
import Derived.Test.YtlecpekgnlaneaaDoorBlk
import Derived.Test.YtlecpekgnlaneaaDoorCrcPlain
namespace Nac
open Go Go.RowKit Nac.Crc
structure Rdr where
  l : List UInt8
  pos : Nat
  code : Nat
def Rdr.left (r : Rdr) : Nat := r.l.length - r.pos
def Rdr.fail (r : Rdr) (c : Nat) : Rdr := if r.code = 0 then { r with code := c } else r
/-- n bytes are taken: none where it fails -/
def Rdr.take (r : Rdr) (n : Nat) : Rdr × Option (List UInt8) :=
  if r.code ≠ 0 then (r, none) else if r.left < n then (r.fail 2, none) else ({ r with pos := r.pos + n }, some ((r.l.drop r.pos).take n))
def Rdr.num (r : Rdr) (size : Int) : Rdr × Nat :=
  if size < 1 ∨ 8 < size then (r.fail 1, 0) else ((r.take size.toNat).1, le ((r.take size.toNat).2.getD []))
def Rdr.text (r : Rdr) : Rdr × List UInt8 :=
  if r.code ≠ 0 then (r, [])
  else if r.left = 0 ∨ r.left - 1 < (r.l.getD r.pos 0).toNat then (r.fail 2, [])
  else ({ r with pos := r.pos + 1 + (r.l.getD r.pos 0).toNat }, (r.l.drop (r.pos + 1)).take (r.l.getD r.pos 0).toNat)
def Rdr.bytes (r : Rdr) (n : Int) : Rdr × List UInt8 :=
  if n < 0 then (r.fail 1, []) else ((r.take n.toNat).1, (r.take n.toNat).2.getD [])
/-- what End tells: none: nil -/
def Rdr.fin (r : Rdr) : Option (Nat × Nat) := if r.code ≠ 0 then some (r.code, r.pos) else if 0 < r.left then some (7, r.pos) else none
theorem Rdr.fail_same (r : Rdr) (c : Nat) : (r.fail c).l = r.l ∧ (r.fail c).pos = r.pos := by unfold Rdr.fail; split <;> exact ⟨rfl, rfl⟩
/-- a reader in memory: block b; its bytes in a block below -/
structure RdM (w : World) (b : Nat) (A : Option Addr) (c : Nat) (r : Rdr) : Prop where
  blk : Blk w b [.slice A r.l.length c, .int .i64 r.pos, .int .i64 r.code]
  rb : RB w b A r.l
  cap : r.l.length ≤ c
  pos : r.pos ≤ r.l.length
theorem RdM.below {w w' : World} {b c : Nat} {A : Option Addr} {r : Rdr} (h : RdM w b A c r) {B : Nat} (hb : Below B w w') (hB : b < B) : RdM w' b A c r :=
  ⟨h.blk.below hb hB, h.rb.below (hb.mono (Nat.le_of_lt hB)), h.cap, h.pos⟩
/-- behind a store into another block -/
theorem RdM.grown {w w' : World} {b c : Nat} {A : Option Addr} {r : Rdr} (h : RdM w b A c r) {row : Option Nat} (hg : w.grownBy w' row) (hne : ∀ k, row = some k → b < k) : RdM w' b A c r :=
  h.below (B := b + 1) ((Below.refl _ _).grown hg h.blk.lt (fun k e => hne k e)) (Nat.lt_succ_self _)
end Nac
