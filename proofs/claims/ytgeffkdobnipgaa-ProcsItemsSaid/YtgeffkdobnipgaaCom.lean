/- Words of our own for bytes in memory, and small facts that the walks of this seat share. No program in sight. -/
import Derived.WalkKit
import Derived.WalkLawsBesides
import Derived.WalkSpells
import Derived.Deep.AppendLies
import Derived.Deep.Draws
namespace Nac
open Go Go.RowKit
/-- a byte as a cell -/
def bv (x : UInt8) : Value := .int .u8 (x.toNat : Int)
/-- the slice at A reads as the bytes l, below block B -/
def RB (w : World) (B : Nat) (A : Option Addr) (l : List UInt8) : Prop :=
  l ≠ [] → ∃ b o, A = some ⟨b, o, none⟩ ∧ b < B ∧ ∀ j (h : j < l.length), w.cell? ⟨b, o + j, none⟩ = some (.int .u8 ((l[j]).toNat : Int))
theorem RB.nil (w : World) (B : Nat) (A : Option Addr) : RB w B A [] := fun h => absurd rfl h
theorem RB.get {w : World} {B : Nat} {A : Option Addr} {l : List UInt8} (h : RB w B A l) {k : Nat} (hk : k < l.length) :
    ∃ b o, A = some ⟨b, o, none⟩ ∧ b < B ∧ w.cell? ⟨b, o + k, none⟩ = some (.int .u8 ((l[k]).toNat : Int)) := by
  obtain ⟨b, o, hA, hb, hc⟩ := h (by intro e; subst e; simp at hk)
  exact ⟨b, o, hA, hb, hc k hk⟩
theorem RB.keep {w w' : World} {B : Nat} {A : Option Addr} {l : List UInt8} (h : RB w B A l) (hk : ∀ p : Addr, p.block < B → w'.cell? p = w.cell? p) : RB w' B A l := fun hn => by
  obtain ⟨b, o, hA, hb, hc⟩ := h hn
  exact ⟨b, o, hA, hb, fun j hj => (hk _ hb).trans (hc j hj)⟩
theorem RB.below {w w' : World} {B : Nat} {A : Option Addr} {l : List UInt8} (h : RB w B A l) (hb : Below B w w') : RB w' B A l := h.keep fun _ hp => hb.cell hp
theorem RB.mono {w : World} {B B' : Nat} {A : Option Addr} {l : List UInt8} (h : RB w B A l) (hB : B ≤ B') : RB w B' A l := fun hn => by
  obtain ⟨b, o, hA, hb, hc⟩ := h hn
  exact ⟨b, o, hA, by omega, hc⟩
theorem RB.drop {w : World} {B b o : Nat} {l : List UInt8} (h : RB w B (some ⟨b, o, none⟩) l) (k : Nat) : RB w B (some ⟨b, o + k, none⟩) (l.drop k) := fun hn => by
  obtain ⟨b', o', hA, hb, hc⟩ := h (by rintro rfl; simp at hn)
  injection hA with hA
  injection hA with h1 h2
  subst h1
  subst h2
  refine ⟨b, o + k, rfl, hb, fun j hj => ?_⟩
  have := hc (k + j) (by simp at hj; omega)
  rw [List.getElem_drop, ← this, Nat.add_assoc]
theorem RB.take {w : World} {B : Nat} {A : Option Addr} {l : List UInt8} (h : RB w B A l) (k : Nat) : RB w B A (l.take k) := fun hn => by
  obtain ⟨b', o', hA, hb, hc⟩ := h (by rintro rfl; simp at hn)
  refine ⟨b', o', hA, hb, fun j hj => ?_⟩
  have := hc j (by simp at hj; omega)
  rw [List.getElem_take, ← this]
end Nac
