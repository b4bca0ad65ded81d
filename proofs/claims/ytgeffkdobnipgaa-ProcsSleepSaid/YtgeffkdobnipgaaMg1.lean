/- Bundle 1 of the texts ProcPlain, Com, Blk, Row, OwnI, ProcMem, ProcMem2, ProcGet, ProcWake, ProcIdx, ProcWo. -/
import Derived.WalkKit
import Derived.WalkLawsBesides
import Derived.WalkSpells
import Derived.Deep.AppendLies
import Derived.Deep.Draws
import Derived.Deep.MidRow
import Derived.OneCell
import Derived.Test.YtgeffkdobnipgaaProg
import Derived.Lib.Hide
import Derived.Maps.AppendAt
import Derived.Deep.OwnRows
import Derived.Lib.MinMax
import Derived.RegionTactic
import Derived.ChangeAlike
import Derived.Deep.QuietTactic
import Derived.BigQuiet
import Derived.Lib.SliceRun
/- A set of processes, as the text of procs has it, in plain Lean. No program in sight. -/
namespace Nac.Procs
structure Out where
  code : Int
  value : Int
  waits : Bool
  deriving DecidableEq
def ok : Out := ⟨0, 0, false⟩
structure Prc where
  pr : Int
  st : Int
  last : Out
  res : Int
  left : Int
  item : Int
instance : Inhabited Prc := ⟨⟨0, 0, ok, 0, 0, 0⟩⟩
structure Rsc where
  kind : Int
  count : Int
  most : Int
  q : List Nat
  items : List Int
instance : Inhabited Rsc := ⟨⟨0, 0, 0, [], []⟩⟩
structure PSet where
  ps : List Prc
  rs : List Rsc
  ready : List Nat
def without (l : List Nat) (p : Nat) : List Nat := l.filter (fun q => !(q == p))
def PSet.proc (s : PSet) (p : Nat) : Prc := s.ps.getD p default
def PSet.rsc (s : PSet) (r : Nat) : Rsc := s.rs.getD r default
def PSet.setP (s : PSet) (p : Nat) (x : Prc) : PSet := { s with ps := s.ps.set p x }
def PSet.setR (s : PSet) (r : Nat) (x : Rsc) : PSet := { s with rs := s.rs.set r x }
def wake (s : PSet) (p : Nat) : PSet := { s.setP p { s.proc p with st := 1 } with ready := s.ready ++ [p] }
/-- out of the row in which it stands -/
def unq (s : PSet) (p : Nat) : PSet := if (s.proc p).st = 2 ∧ (s.proc p).res ≠ -1 then s.setR (s.proc p).res.toNat { s.rsc (s.proc p).res.toNat with q := without (s.rsc (s.proc p).res.toNat).q p } else s
def leave (s : PSet) (p : Nat) : PSet := (unq { s with ready := without s.ready p } p).setP p { s.proc p with res := -1, left := 0, item := 0 }
def release (s : PSet) (p : Nat) (o : Out) : PSet := wake ((leave s p).setP p { (leave s p).proc p with last := o }) p
/-- to wait: for time (r = -1), or for a resource -/
def park (s : PSet) (p : Nat) (r : Int) (ticks item : Int) : PSet :=
  let s1 := (leave s p).setP p { (leave s p).proc p with st := 2, res := r, left := ticks, item := item }
  if r ≠ -1 then s1.setR r.toNat { s1.rsc r.toNat with q := (s1.rsc r.toNat).q ++ [p] } else s1
/-- the greatest priority of those in a list, or -1 -/
def great (s : PSet) : List Nat → Int → Int
  | [], g => g
  | p :: l, g => great s l (max g (s.proc p).pr)
/-- who runs -/
def running (s : PSet) : Option Nat := s.ready.find? (fun p => (s.proc p).pr == great s s.ready (-1))
def runI (s : PSet) : Int := match running s with | none => -1 | some p => p
def isP (P : PSet) (p : Int) : Bool := decide (0 ≤ p) && decide (p < P.ps.length)
def isR (P : PSet) (r : Int) : Bool := decide (0 ≤ r) && decide (r < P.rs.length)
def stateI (P : PSet) (p : Int) : Int := if isP P p = true then (P.proc p.toNat).st else 0
def countI (P : PSet) (r : Int) : Int := if isR P r = true then (P.rsc r.toNat).count else 0
end Nac.Procs
/- Words of our own for bytes in memory, and small facts that the walks of this seat share. No program in sight. -/
namespace Nac
open Go Go.RowKit
/-- a byte as a cell -/
def bv (x : UInt8) : Value := .int .u8 (x.toNat : Int)
/-- the slice at A reads as the bytes l, below block B -/
def RB (w : World) (B : Nat) (A : Option Addr) (l : List UInt8) : Prop :=
  l ≠ [] → ∃ b o, A = some ⟨b, o, none⟩ ∧ b < B ∧ ∀ j (h : j < l.length), w.cell? ⟨b, o + j, none⟩ = some (.int .u8 ((l[j]).toNat : Int))
theorem RB.nil (w : World) (B : Nat) (A : Option Addr) : RB w B A [] := fun h => absurd rfl h
theorem RB.get {w : World} {B : Nat} {A : Option Addr} {l : List UInt8} (h : RB w B A l) {k : Nat} (hk : k < l.length) :
    ∃ b o, A = some ⟨b, o, none⟩ ∧ b < B ∧ w.cell? ⟨b, o + k, none⟩ = some (.int .u8 ((l[k]).toNat : Int)) := by
  obtain ⟨b, o, hA, hb, hc⟩ := h (by intro e; subst e; simp at hk)
  exact ⟨b, o, hA, hb, hc k hk⟩
theorem RB.keep {w w' : World} {B : Nat} {A : Option Addr} {l : List UInt8} (h : RB w B A l) (hk : ∀ p : Addr, p.block < B → w'.cell? p = w.cell? p) : RB w' B A l := fun hn => by
  obtain ⟨b, o, hA, hb, hc⟩ := h hn
  exact ⟨b, o, hA, hb, fun j hj => (hk _ hb).trans (hc j hj)⟩
theorem RB.below {w w' : World} {B : Nat} {A : Option Addr} {l : List UInt8} (h : RB w B A l) (hb : Below B w w') : RB w' B A l := h.keep fun _ hp => hb.cell hp
theorem RB.mono {w : World} {B B' : Nat} {A : Option Addr} {l : List UInt8} (h : RB w B A l) (hB : B ≤ B') : RB w B' A l := fun hn => by
  obtain ⟨b, o, hA, hb, hc⟩ := h hn
  exact ⟨b, o, hA, by omega, hc⟩
theorem RB.drop {w : World} {B b o : Nat} {l : List UInt8} (h : RB w B (some ⟨b, o, none⟩) l) (k : Nat) : RB w B (some ⟨b, o + k, none⟩) (l.drop k) := fun hn => by
  obtain ⟨b', o', hA, hb, hc⟩ := h (by rintro rfl; simp at hn)
  injection hA with hA
  injection hA with h1 h2
  subst h1
  subst h2
  refine ⟨b, o + k, rfl, hb, fun j hj => ?_⟩
  have := hc (k + j) (by simp at hj; omega)
  rw [List.getElem_drop, ← this, Nat.add_assoc]
theorem RB.take {w : World} {B : Nat} {A : Option Addr} {l : List UInt8} (h : RB w B A l) (k : Nat) : RB w B A (l.take k) := fun hn => by
  obtain ⟨b', o', hA, hb, hc⟩ := h (by rintro rfl; simp at hn)
  refine ⟨b', o', hA, hb, fun j hj => ?_⟩
  have := hc j (by simp at hj; omega)
  rw [List.getElem_take, ← this]
end Nac
/- A block that is known whole: its cells as a list; loads and stores in its midst. Over whatever program. -/
namespace Nac
open Go Go.RowKit
/-- block b holds the cells cs, and may be written -/
def Blk (w : World) (b : Nat) (cs : List Value) : Prop := ∃ t, w.heap[b]? = some (.cells cs.toArray t (0, 0))
section
variable {w w' : World} {b : Nat} {cs : List Value}
theorem Blk.lt (h : Blk w b cs) : b < w.heap.size := by
  obtain ⟨t, h⟩ := h
  exact (Array.getElem?_eq_some_iff.1 h).1
theorem Blk.cell (h : Blk w b cs) {j : Nat} {v : Value} (hj : cs[j]? = some v) : w.cell? ⟨b, j, none⟩ = some v := by
  obtain ⟨t, h⟩ := h
  rw [cell_of_row w b j _ t (0, 0) h]
  simpa using hj
theorem Blk.free (h : Blk w b cs) (j : Nat) : w.frozen? ⟨b, j, none⟩ = false := by
  obtain ⟨t, h⟩ := h
  exact frozen_of_row w b j _ t h
theorem Blk.keep (h : Blk w b cs) (hk : w'.heap[b]? = w.heap[b]?) : Blk w' b cs := by
  obtain ⟨t, h⟩ := h
  exact ⟨t, hk.trans h⟩
theorem Blk.grown (h : Blk w b cs) {row : Option Nat} (hg : w.grownBy w' row) (hne : row ≠ some b) : Blk w' b cs := h.keep (hg.block b h.lt (fun e => hne e.symm))
theorem Blk.below {B : Nat} (h : Blk w b cs) (hb : Below B w w') (hB : b < B) : Blk w' b cs := h.keep (hb.block b hB)
theorem Blk.drew (h : Blk w b cs) : Blk w.drew b cs := h
theorem Blk.alloc (h : Blk w b cs) (o : Obj) : Blk (w.alloc o) b cs := h.keep (Below.heap_alloc w o b h.lt)
theorem Blk.new (w : World) (cs : List Value) (t : TypeId) : Blk (w.alloc (.cells cs.toArray t)) w.heap.size cs := ⟨t, heap_alloc_new w _⟩
theorem Blk.setCell (h : Blk w b cs) (j : Nat) (v : Value) : Blk (w.setCell ⟨b, j, none⟩ v) b (cs.set j v) := by
  obtain ⟨t, h⟩ := h
  exact ⟨t, by rw [heap_setCell_same w b j _ t v h]; simp⟩
theorem Blk.setCells : ∀ (vs : List Value) (o : Nat) {w : World} {cs : List Value}, Blk w b cs → o + vs.length ≤ cs.length → Blk (w.setCells b o vs) b (cs.take o ++ vs ++ cs.drop (o + vs.length))
  | [], o, w, cs, h, _ => by simpa [World.setCells] using h
  | v :: vs, o, w, cs, h, hl => by
    rw [World.setCells]
    have hl' : o + 1 + vs.length ≤ cs.length := by simp at hl; omega
    have := Blk.setCells vs (o + 1) (h.setCell o v) (by simpa using hl')
    have e : (cs.set o v).take (o + 1) ++ vs ++ (cs.set o v).drop (o + 1 + vs.length) = cs.take o ++ (v :: vs) ++ cs.drop (o + (v :: vs).length) := by
      rw [List.take_succ_eq_append_getElem (by simp; omega), List.getElem_set_self, List.take_set_of_le (by omega), List.drop_set_of_lt (by omega)]
      simp [Nat.add_assoc, Nat.add_comm 1]
    rw [e] at this
    exact this
theorem Blk.range (h : Blk w b cs) (o : Nat) (vs : List Value) (hv : ∃ pre post, cs = pre ++ vs ++ post ∧ pre.length = o) : w.rangeAt b o vs := by
  obtain ⟨pre, post, rfl, rfl⟩ := hv
  intro j v hj
  refine h.cell ?_
  have hj' : j < vs.length := (List.getElem?_eq_some_iff.1 hj).1
  rw [List.append_assoc, List.getElem?_append_right (by omega), Nat.add_sub_cancel_left, List.getElem?_append_left hj']
  exact hj
theorem Blk.there (h : Blk w b cs) (o n : Nat) (hl : o + n ≤ cs.length) : w.there b o n := fun j hj => by
  have hlt : o + j < cs.length := by omega
  exact ⟨by rw [h.cell (List.getElem?_eq_getElem hlt)]; rfl, h.free _⟩
end
theorem grown_setCell (w : World) (a : Addr) (v : Value) : w.grownBy (w.setCell a v) (some a.block) :=
  ⟨rfl, rfl, rfl, by simp [World.setCell], fun k _ hk => heap_setCell_other w a k v (fun e => hk (by simp [e]))⟩
theorem grown_setCells (b : Nat) : ∀ (vs : List Value) (o : Nat) (w : World), w.grownBy (w.setCells b o vs) (some b)
  | [], _, w => World.grownBy.refl w _
  | v :: vs, o, w => by
    rw [World.setCells]
    exact (grown_setCell w ⟨b, o, none⟩ v).trans (grown_setCells b vs (o + 1) _)
theorem grown_drew {w w' : World} {row : Option Nat} (h : w.grownBy w' row) : w.grownBy w'.drew row := ⟨h.os, h.tape, h.output, h.size, h.block⟩
theorem grown_of_drew {w w' : World} {row : Option Nat} (h : w.drew.grownBy w' row) : w.grownBy w' row := ⟨h.os, h.tape, h.output, h.size, h.block⟩
theorem grown_none {w w' : World} {row : Option Nat} (h : w.grownBy w' none) : w.grownBy w' row := ⟨h.os, h.tape, h.output, h.size, fun k hk _ => h.block k hk (by simp)⟩
/-- lists of rows of one length -/
theorem flatten_len (n : Nat) (L : List (List Value)) (h : ∀ x ∈ L, x.length = n) : L.flatten.length = n * L.length := by
  induction L with
  | nil => simp
  | cons x L ih =>
    rw [List.flatten_cons, List.length_append, ih (fun y hy => h y (List.mem_cons_of_mem _ hy)), h x List.mem_cons_self, List.length_cons, Nat.mul_succ, Nat.add_comm]
theorem flatten_set (n : Nat) (L : List (List Value)) (h : ∀ x ∈ L, x.length = n) (s : Nat) (hs : s < L.length) (x : List Value) (hx : x.length = n) :
    L.flatten.take (n * s) ++ x ++ L.flatten.drop (n * s + n) = (L.set s x).flatten := by
  have h1 : L = L.take s ++ L[s] :: L.drop (s + 1) := by rw [List.getElem_cons_drop, List.take_append_drop]
  have h2 : L.set s x = L.take s ++ x :: L.drop (s + 1) := by rw [List.set_eq_take_append_cons_drop, if_pos hs]
  have hl : (L.take s).flatten.length = n * s := by
    rw [flatten_len n _ (fun y hy => h y (List.mem_of_mem_take hy)), List.length_take, Nat.min_eq_left (by omega)]
  have hm : L[s].length = n := h _ (List.getElem_mem hs)
  have e : L.flatten = (L.take s).flatten ++ (L[s] ++ (L.drop (s + 1)).flatten) := by
    have h3 := congrArg List.flatten h1
    rwa [List.flatten_append, List.flatten_cons] at h3
  rw [h2, e, List.flatten_append, List.flatten_cons, ← hl, List.take_left, List.drop_append, List.drop_of_length_le (by omega), Nat.add_sub_cancel_left, List.nil_append, ← hm, List.drop_left, List.append_assoc]
theorem flatten_at (n : Nat) (L : List (List Value)) (h : ∀ x ∈ L, x.length = n) (s : Nat) (hs : s < L.length) : ∃ pre post, L.flatten = pre ++ L[s] ++ post ∧ pre.length = n * s := by
  have h1 : L = L.take s ++ L[s] :: L.drop (s + 1) := by rw [List.getElem_cons_drop, List.take_append_drop]
  refine ⟨(L.take s).flatten, (L.drop (s + 1)).flatten, ?_, ?_⟩
  · have h3 := congrArg List.flatten h1
    rw [List.flatten_append, List.flatten_cons] at h3
    rw [List.append_assoc]
    exact h3
  · rw [flatten_len n _ (fun y hy => h y (List.mem_of_mem_take hy)), List.length_take, Nat.min_eq_left (by omega)]
end Nac
/- Rows of the call's own, whatever their elements: reading, storing, cutting short. Over whatever program. -/
namespace Nac
open Go Go.RowKit
/-- the slice at A, of capacity c, has a row of its own with the cells xs -/
def Row (w : World) (e : TypeId) (size : Nat) (A : Option Addr) (c n : Nat) (xs : List Value) : Prop := w.ownsRow 0 e size (.slice A n c) n xs
section
variable {w w' : World} {e : TypeId} {size n c : Nat} {A : Option Addr} {xs : List Value}
theorem Row.at (h : Row w e size A c n xs) {j : Nat} (hj : j < xs.length) :
    ∃ g, A = some ⟨g, 0, none⟩ ∧ g < w.heap.size ∧ w.cell? ⟨g, j, none⟩ = some xs[j] ∧ ∀ k, w.frozen? ⟨g, k, none⟩ = false := by
  have hl := h.1
  rcases h.2 with ⟨_, hn⟩ | ⟨g, cap, cur, hv, _, hg, _⟩
  · subst hn; rw [Nat.zero_mul] at hl; omega
  · injection hv with h1 h2 h3
    subst h1
    refine ⟨g, rfl, (Array.getElem?_eq_some_iff.1 hg).1, ?_, fun k => World.ownsRow.frozenAt h k⟩
    rw [World.ownsRow.cellAt h j (by omega)]
    exact List.getElem?_eq_getElem hj
theorem Row.set {g : Nat} (h : Row w e size (some ⟨g, 0, none⟩) c n xs) (k : Nat) (v : Value) : Row (w.setCell ⟨g, k, none⟩ v) e size (some ⟨g, 0, none⟩) c n (xs.set k v) := (World.ownsRow.stored h k v).1
theorem Row.kept (h : Row w e size A c n xs) {row : Option Nat} (hg : w.grownBy w' row) (hne : A.map (·.block) = none ∨ A.map (·.block) ≠ row) : Row w' e size A c n xs :=
  World.ownsRow.kept h hg (by cases A <;> simp_all [Value.ownBlock])
theorem Row.other (h : Row w e size A c n xs) {a : Addr} (ha : A.map (·.block) ≠ some a.block) (v : Value) : Row (w.setCell a v) e size A c n xs :=
  ownsRow_setCell_other h (by cases A <;> simp_all [Value.ownBlock]) v
theorem Row.below (h : Row w e size A c n xs) (hb : Below w.heap.size w w') : Row w' e size A c n xs := by
  refine World.ownsRow.kept h (row := none) ⟨hb.os, hb.tape, hb.output, hb.size, fun k hk _ => hb.block k hk⟩ ?_
  cases A <;> simp [Value.ownBlock]
theorem Row.lt (h : Row w e size A c n xs) : ∀ g, A.map (·.block) = some g → g < w.heap.size := fun g hg => (World.ownsRow.lt h g (by cases A <;> simp_all [Value.ownBlock])).2
theorem Row.len (h : Row w e size A c n xs) : xs.length = n * size := h.1
theorem Row.nil (w : World) (e : TypeId) (size : Nat) : Row w e size none 0 0 [] := World.ownsRow_nil w 0 e size
theorem Row.cap (h : Row w e size A c n xs) : n ≤ c := by
  rcases h.2 with ⟨hv, hn⟩ | ⟨g, cap, cur, hv, _, _, hnc, _⟩
  · omega
  · injection hv with h1 h2 h3
    omega
theorem Row.short (h : Row w e size A c n xs) (k : Nat) (hk : k ≤ n) : Row w e size A c k (xs.take (k * size)) := by
  have hl := h.1
  have hks : k * size ≤ n * size := Nat.mul_le_mul_right size hk
  refine ⟨by rw [List.length_take]; omega, ?_⟩
  rcases h.2 with ⟨hv, hn⟩ | ⟨g, cap, cur, hv, hb, hg, hnc, hcm, hcs, ht⟩
  · injection hv with h1 h2 h3
    subst h1
    left
    exact ⟨by rw [h3, (by omega : k = 0)], by omega⟩
  · injection hv with h1 h2 h3
    subst h1
    right
    refine ⟨g, cap, cur, by rw [h3], hb, hg, by omega, hcm, hcs, ?_⟩
    rw [← ht, List.take_take, Nat.min_eq_left hks]
end
/-- the cell f of element p -/
theorem flat_get {n : Nat} {L : List (List Value)} (h : ∀ x ∈ L, x.length = n) {p f : Nat} (hp : p < L.length) (hf : f < n) : ∃ hj : p * n + f < L.flatten.length, L.flatten[p * n + f] = L[p][f]'(by rw [h _ (List.getElem_mem hp)]; exact hf) := by
  obtain ⟨pre, post, e, hl⟩ := flatten_at n L h p hp
  have hlen : L[p].length = n := h _ (List.getElem_mem hp)
  have hj : p * n + f < L.flatten.length := by
    rw [e]; simp [hl, hlen, Nat.mul_comm p n]; omega
  refine ⟨hj, ?_⟩
  have e1 : L.flatten[p * n + f]? = some (L[p][f]'(by omega)) := by
    rw [e, List.append_assoc, List.getElem?_append_right (by rw [hl, Nat.mul_comm p n]; omega), List.getElem?_append_left (by rw [hl, hlen, Nat.mul_comm p n]; omega)]
    rw [hl, Nat.mul_comm p n, Nat.add_sub_cancel_left]
    exact List.getElem?_eq_getElem _
  rw [List.getElem?_eq_getElem hj] at e1
  exact Option.some.inj e1
theorem flat_set {n : Nat} {L : List (List Value)} (h : ∀ x ∈ L, x.length = n) {p f : Nat} (hp : p < L.length) (hf : f < n) (v : Value) : L.flatten.set (p * n + f) v = (L.set p (L[p].set f v)).flatten := by
  obtain ⟨pre, post, e, hl⟩ := flatten_at n L h p hp
  have hlen : L[p].length = n := h _ (List.getElem_mem hp)
  have e2 := flatten_set n L h p hp (L[p].set f v) (by simpa using hlen)
  rw [← e2]
  rw [e, List.append_assoc, List.set_append_right _ _ (by rw [hl, Nat.mul_comm p n]; omega), hl, Nat.mul_comm p n, Nat.add_sub_cancel_left, List.set_append_left _ _ (by omega)]
  rw [← hl, List.take_left, ← List.append_assoc pre, hl]
  rw [List.drop_append, List.drop_append, List.drop_of_length_le (by simp [hl]), hl, Nat.add_sub_cancel_left, List.nil_append, ← hlen, List.drop_of_length_le (Nat.le_refl _), Nat.sub_self, List.drop_zero, List.nil_append, List.append_assoc]
end Nac
/- Rows of numbers that a call makes itself. -/
namespace Go.Proofs.Ytgeffkdobnipgaa
open Go.RowKit
/-- the slice at A reads as the numbers l, below block B -/
def RI (w : World) (B : Nat) (A : Option Addr) (l : List Int) : Prop :=
  l ≠ [] → ∃ b o, A = some ⟨b, o, none⟩ ∧ b < B ∧ ∀ j (h : j < l.length), w.cell? ⟨b, o + j, none⟩ = some (.int .i64 l[j])
theorem RI.get {w : World} {B : Nat} {A : Option Addr} {l : List Int} (h : RI w B A l) {k : Nat} (hk : k < l.length) :
    ∃ b o, A = some ⟨b, o, none⟩ ∧ b < B ∧ w.cell? ⟨b, o + k, none⟩ = some (.int .i64 l[k]) := by
  obtain ⟨b, o, hA, hb, hc⟩ := h (by intro e; subst e; simp at hk)
  exact ⟨b, o, hA, hb, hc k hk⟩
theorem RI.below {w w' : World} {B : Nat} {A : Option Addr} {l : List Int} (h : RI w B A l) (hb : Below B w w') : RI w' B A l := fun hn => by
  obtain ⟨b, o, hA, hlt, hc⟩ := h hn
  exact ⟨b, o, hA, hlt, fun j hj => (hb.cell hlt).trans (hc j hj)⟩
theorem RI.mono {w : World} {B B' : Nat} {A : Option Addr} {l : List Int} (h : RI w B A l) (hB : B ≤ B') : RI w B' A l := fun hn => by
  obtain ⟨b, o, hA, hb, hc⟩ := h hn
  exact ⟨b, o, hA, by omega, hc⟩
theorem Try.infoInt : (Try.prog.info? 3).map (fun i => (i.zero, i.size, i.bytes)) = some (some (.int .i64 0), 1, 8) := by kernel_rfl
/-- the slice at A, of capacity c, is the call's own (from block 'base' on) and holds the numbers l -/
def OI (w : World) (base : Nat) (A : Option Addr) (c : Nat) (l : List Int) : Prop := w.ownsRow base 3 1 (.slice A l.length c) l.length (l.map (Value.int .i64))
section
variable {w w' : World} {base B : Nat} {A : Option Addr} {c : Nat} {l : List Int}
theorem OI.nil (w : World) (base : Nat) : OI w base none 0 [] := World.ownsRow_nil w base _ _
theorem OI.alloc (h : OI w base A c l) (o : Obj) : OI (w.alloc o) base A c l := World.ownsRow.alloc h o
theorem OI.drewN (h : OI w base A c l) (n : Nat) : OI (w.drewN n) base A c l := h
theorem OI.lt (h : OI w base A c l) : ∀ g, A.map (·.block) = some g → base ≤ g ∧ g < w.heap.size := fun g hg => World.ownsRow.lt h g (by cases A <;> simp_all [Value.ownBlock])
theorem OI.below (h : OI w base A c l) (hb : Below B w w') (hB : w.heap.size ≤ B) : OI w' base A c l := by
  refine World.ownsRow.kept h (row := none) ⟨hb.os, hb.tape, hb.output, hb.size, fun k hk _ => hb.block k (by omega)⟩ ?_
  cases A <;> simp [Value.ownBlock]
theorem OI.ri (h : OI w base A c l) : RI w w.heap.size A l := fun hne => by
  rcases h.2 with ⟨hv, hn⟩ | ⟨g, cap, cur, hv, hb, hg, hnc, hcm, hcs, ht⟩
  · exact absurd (List.eq_nil_of_length_eq_zero hn) hne
  · injection hv with h1 h2 h3
    subst h1
    refine ⟨g, 0, rfl, (Array.getElem?_eq_some_iff.1 hg).1, fun j hj => ?_⟩
    rw [cell_of_row w g (0 + j) cur _ (0, 0) hg, Nat.zero_add]
    have e : (l.map (Value.int .i64))[j]? = some (.int .i64 l[j]) := by simp [hj]
    rw [← ht, List.getElem?_take_of_lt (by omega)] at e
    simpa using e
end
theorem own_formI {w : World} {base : Nat} {e : TypeId} {size : Nat} {v : Value} {n : Nat} {xs : List Value} (h : w.ownsRow base e size v n xs) : ∃ A c, v = .slice A n c := by
  rcases h.2 with ⟨rfl, rfl⟩ | ⟨g, cap, cur, rfl, _⟩
  · exact ⟨_, _, rfl⟩
  · exact ⟨_, _, rfl⟩
/-- append of one number onto numbers of the call's own -/
theorem wpList_app_int (w : World) {ops : Array Oper} {rest : List Oper} {o : Oper} {a : Act} {Q : Exit → Act → World → Prop} (hgd : o.guard = none) (s x : Operand)
    (ho : o.op = .call { callee := .builtin .append, args := #[s, x], argTypes := #[28, 28] })
    (base : Nat) (A : Option Addr) (c : Nat) (L : List Int) (n : Nat) (hs : a.eval s = .slice A n c) (hn : n = L.length) (hown : OI w base A c L)
    (g c2 : Nat) (z : Int) (hx : a.eval x = .slice (some ⟨g, 0, none⟩) 1 c2) (hsrc : w.cell? ⟨g, 0, none⟩ = some (.int .i64 z))
    (hlen : L.length ≤ 1000000) (hbase : base ≤ w.heap.size)
    (h : ∀ A' c' L' w', Hid (L' = L ++ [z]) → OI w' base A' c' L' → w.grownBy w' (A.map (·.block)) → wpList Try.prog ops Q rest (a.put o.dst (.slice A' L'.length c')) w') : wpList Try.prog ops Q (o :: rest) a w := by
  subst hn
  obtain ⟨i, hi, hz, hs1, hb1⟩ := info_parts Try.infoInt
  have eb : Value.ownBlock (.slice A L.length c) = A.map (·.block) := by cases A <;> rfl
  obtain ⟨v', w', hr, h2, h3, _, _⟩ := run_append_own_at (P := Try.prog) w base 28 o.type 3 i (.int .i64 0) 1 8 Try.underlying28 hi hz hs1 hb1 rfl (by decide) _ L.length (L.map (Value.int .i64)) hown ⟨g, 0, none⟩ 1 c2 [.int .i64 z] rfl
    (fun j u hu => by
      have hj : j = 0 := by have := (List.getElem?_eq_some_iff.1 hu).1; simpa using this
      subst hj
      simp at hu
      subst hu
      simpa [Addr.add] using hsrc) (fun u hu => by simp at hu; subst hu; rfl) (by unfold maxLen; omega) (by omega) hbase
  obtain ⟨A', c', rfl⟩ := own_formI h2
  rw [eb] at h3
  have hK := h A' c' (L ++ [z]) w' rfl (by unfold OI; rw [List.map_append, List.length_append]; exact h2) h3
  rw [List.length_append] at hK
  refine wpList_plain hgd fun K hKK => ?_
  unfold Oper.wp execOp
  simp only [ho, resolve, invoke, builtin, Sem.run_bind, Sem.run_pure, Result.andThen_ok, List.map_toArray, List.map_cons, List.map_nil, hs, hx, hr]
  exact hKK _ _ hK
end Go.Proofs.Ytgeffkdobnipgaa
/- A set of processes in memory: three rows, and two of each resource. -/
namespace Go.Proofs.Ytgeffkdobnipgaa
open Go.RowKit Nac Nac.Procs
def ocells (o : Out) : List Value := [.int .i64 o.code, .int .i64 o.value, .bool o.waits]
def pcells (x : Prc) : List Value := [.int .i64 x.pr, .int .i64 x.st, .int .i64 x.last.code, .int .i64 x.last.value, .bool x.last.waits, .int .i64 x.res, .int .i64 x.left, .int .i64 x.item]
def rcells (x : Rsc) (Aq : Option Addr) (cq : Nat) (Ai : Option Addr) (ci : Nat) : List Value := [.int .i64 x.kind, .int .i64 x.count, .int .i64 x.most, .slice Aq x.q.length cq, .slice Ai x.items.length ci]
/-- row 0: the processes; 1: the resources; 2: who is ready; then each resource's queue and items -/
def rrows (rs : List Rsc) (A : Nat → Option Addr) (c : Nat → Nat) : List (List Value) := (List.range rs.length).map fun i => rcells (rs.getD i default) (A (3 + 2 * i)) (c (3 + 2 * i)) (A (4 + 2 * i)) (c (4 + 2 * i))
def nums (l : List Nat) : List Value := l.map fun (p : Nat) => Value.int .i64 (p : Int)
structure SetM (w : World) (S : Nat) (P : PSet) (A : Nat → Option Addr) (c : Nat → Nat) : Prop where
  blk : Blk w S [.slice (A 0) P.ps.length (c 0), .slice (A 1) P.rs.length (c 1), .slice (A 2) P.ready.length (c 2)]
  po : Row w 54 8 (A 0) (c 0) P.ps.length (P.ps.map pcells).flatten
  ro : Row w 58 5 (A 1) (c 1) P.rs.length (rrows P.rs A c).flatten
  rd : Row w 3 1 (A 2) (c 2) P.ready.length (nums P.ready)
  qo : ∀ i, i < P.rs.length → Row w 3 1 (A (3 + 2 * i)) (c (3 + 2 * i)) (P.rsc i).q.length (nums (P.rsc i).q)
  io : ∀ i, i < P.rs.length → Row w 2 1 (A (4 + 2 * i)) (c (4 + 2 * i)) (P.rsc i).items.length ((P.rsc i).items.map (Value.int .i64))
  ap : ∀ j k g, j ≠ k → (A j).map (·.block) = some g → (A k).map (·.block) ≠ some g
  aps : ∀ j, (A j).map (·.block) ≠ some S
  far : ∀ j, 3 + 2 * P.rs.length ≤ j → A j = none
/-- the set's own blocks -/
def Foot (S : Nat) (A : Nat → Option Addr) (k : Nat) : Prop := k = S ∨ ∃ j, (A j).map (·.block) = some k
/-- all stays but the set's own blocks, and its blocks are those that were, or new -/
structure FrS (S : Nat) (A : Nat → Option Addr) (w : World) (A' : Nat → Option Addr) (w' : World) : Prop where
  os : w'.os = w.os
  tape : w'.tape = w.tape
  output : w'.output = w.output
  size : w.heap.size ≤ w'.heap.size
  block : ∀ k, k < w.heap.size → ¬ Foot S A k → w'.heap[k]? = w.heap[k]?
  foot : ∀ k, Foot S A' k → Foot S A k ∨ w.heap.size ≤ k
  p0 : A' 0 = A 0
  p1 : A' 1 = A 1
section
variable {w w' w2 : World} {S : Nat} {P : PSet} {A A' A2 : Nat → Option Addr} {c c' : Nat → Nat}
theorem FrS.refl (S : Nat) (A : Nat → Option Addr) (w : World) : FrS S A w A w := ⟨rfl, rfl, rfl, Nat.le_refl _, fun _ _ _ => rfl, fun _ h => .inl h, rfl, rfl⟩
theorem FrS.trans (h : FrS S A w A' w') (h2 : FrS S A' w' A2 w2) : FrS S A w A2 w2 :=
  ⟨h2.os.trans h.os, h2.tape.trans h.tape, h2.output.trans h.output, Nat.le_trans h.size h2.size, fun k hk hf => by
    rw [h2.block k (Nat.lt_of_lt_of_le hk h.size) (fun hf' => ?_)]
    · exact h.block k hk hf
    · rcases h.foot k hf' with h3 | h3
      · exact hf h3
      · omega, fun k hk => by
    rcases h2.foot k hk with h3 | h3
    · exact h.foot k h3
    · exact .inr (Nat.le_trans h.size h3), h2.p0.trans h.p0, h2.p1.trans h.p1⟩
theorem FrS.below (h : Below w.heap.size w w') : FrS S A w A w' := ⟨h.os, h.tape, h.output, h.size, fun k hk _ => h.block k hk, fun _ h => .inl h, rfl, rfl⟩
theorem FrS.grown {row : Option Nat} (h : w.grownBy w' row) (hr : ∀ k, row = some k → Foot S A k ∨ w.heap.size ≤ k) : FrS S A w A w' :=
  ⟨h.os, h.tape, h.output, h.size, fun k hk hf => h.block k hk fun e => by
    rcases hr k e.symm with h3 | h3
    · exact hf h3
    · omega, fun _ h => .inl h, rfl, rfl⟩
theorem FrS.blk {b : Nat} {cs : List Value} (h : FrS S A w A' w') (hb : Blk w b cs) (hf : ¬ Foot S A b) : Blk w' b cs := hb.keep (h.block b hb.lt hf)
theorem pcells_len (x : Prc) : (pcells x).length = 8 := rfl
theorem ps_len (P : PSet) : ∀ x ∈ P.ps.map pcells, x.length = 8 := fun x hx => by
  obtain ⟨y, _, rfl⟩ := List.mem_map.1 hx
  rfl
theorem rr_len (rs : List Rsc) (A : Nat → Option Addr) (c : Nat → Nat) : ∀ x ∈ rrows rs A c, x.length = 5 := fun x hx => by
  obtain ⟨y, _, rfl⟩ := List.mem_map.1 hx
  rfl
theorem SetM.drew (h : SetM w S P A c) : SetM w.drew S P A c := ⟨h.blk, h.po, h.ro, h.rd, h.qo, h.io, h.ap, h.aps, h.far⟩
theorem SetM.drewN (h : SetM w S P A c) (n : Nat) : SetM (w.drewN n) S P A c := ⟨h.blk, h.po, h.ro, h.rd, h.qo, h.io, h.ap, h.aps, h.far⟩
theorem SetM.keepF (h : SetM w S P A c) (hs : w.heap.size ≤ w'.heap.size) (hk : ∀ k, k < w.heap.size → Foot S A k → w'.heap[k]? = w.heap[k]?) : SetM w' S P A c := by
  have hR : ∀ (j : Nat) {e size n xs}, Row w e size (A j) (c j) n xs → Row w' e size (A j) (c j) n xs := by
    intro j e size n xs hr
    refine ⟨hr.1, ?_⟩
    rcases hr.2 with h1 | ⟨g, cap, cur, hv, hb, hg, rest⟩
    · exact .inl h1
    · refine .inr ⟨g, cap, cur, hv, hb, ?_, rest⟩
      injection hv with h1
      have hlt : g < w.heap.size := (Array.getElem?_eq_some_iff.1 hg).1
      rw [hk g hlt (.inr ⟨j, by rw [h1]; rfl⟩)]
      exact hg
  exact ⟨h.blk.keep (hk S h.blk.lt (.inl rfl)), hR 0 h.po, hR 1 h.ro, hR 2 h.rd, fun i hi => hR _ (h.qo i hi), fun i hi => hR _ (h.io i hi), h.ap, h.aps, h.far⟩
theorem SetM.below (h : SetM w S P A c) (hb : Below w.heap.size w w') : SetM w' S P A c := h.keepF hb.size fun k hk _ => hb.block k hk
/-- behind a change that touches none of the set's blocks -/
theorem SetM.apart (h : SetM w S P A c) {row : Option Nat} (hg : w.grownBy w' row) (hr : ∀ k, row = some k → ¬ Foot S A k) : SetM w' S P A c := h.keepF hg.size fun k hk hf => hg.block k hk fun e => hr k e.symm hf
/-! ### a process's cells -/
theorem SetM.pcell (h : SetM w S P A c) {p : Nat} (hp : p < P.ps.length) : ∃ g, A 0 = some ⟨g, 0, none⟩ ∧ g < w.heap.size ∧ (∀ k, w.frozen? ⟨g, k, none⟩ = false) ∧ ∀ f v, (pcells (P.proc p))[f]? = some v → w.cell? ⟨g, p * 8 + f, none⟩ = some v := by
  have hpl : p < (P.ps.map pcells).length := by simpa using hp
  obtain ⟨hj0, _⟩ := flat_get (ps_len P) (p := p) (f := 0) hpl (by decide)
  obtain ⟨g, hA, hg, _, hf⟩ := h.po.at hj0
  refine ⟨g, hA, hg, hf, fun f v hv => ?_⟩
  have hf8 : f < 8 := by
    have := (List.getElem?_eq_some_iff.1 hv).1
    simpa [pcells] using this
  obtain ⟨hj, he⟩ := flat_get (ps_len P) (p := p) (f := f) hpl hf8
  obtain ⟨g', hA', _, hc, _⟩ := h.po.at hj
  rw [hA] at hA'
  injection hA' with hA'
  injection hA' with hA'
  subst hA'
  rw [hc, he]
  have e : (P.ps.map pcells)[p] = pcells (P.proc p) := by simp [PSet.proc, List.getD, hp]
  have hf' : f < (pcells (P.proc p)).length := (List.getElem?_eq_some_iff.1 hv).1
  have : ((P.ps.map pcells)[p])[f]? = some v := by rw [e]; exact hv
  rw [List.getElem?_eq_getElem (by rw [e]; exact hf')] at this
  rw [Option.some.inj this]
theorem SetM.storeP (h : SetM w S P A c) {p f : Nat} (hp : p < P.ps.length) (hf : f < 8) (v : Value) (x : Prc) (hx : (pcells (P.proc p)).set f v = pcells x) {g : Nat} (hA : A 0 = some ⟨g, 0, none⟩) :
    SetM (w.setCell ⟨g, p * 8 + f, none⟩ v) S (P.setP p x) A c := by
  have hgA : (A 0).map (·.block) = some g := by rw [hA]; rfl
  have hne : ∀ j, j ≠ 0 → (A j).map (·.block) ≠ some g := fun j hj => h.ap 0 j g (fun e => hj e.symm) hgA
  have hSg : g ≠ S := fun e => h.aps 0 (by rw [hgA, e])
  have hl : (P.ps.set p x).length = P.ps.length := List.length_set ..
  refine ⟨?_, ?_, h.ro.other (hne 1 (by decide)) v, h.rd.other (hne 2 (by decide)) v, fun i hi => (h.qo i hi).other (hne _ (by omega)) v, fun i hi => (h.io i hi).other (hne _ (by omega)) v, h.ap, h.aps, h.far⟩
  · show Blk _ S [.slice (A 0) (P.ps.set p x).length (c 0), _, _]
    rw [hl]
    exact h.blk.grown (grown_setCell w ⟨g, p * 8 + f, none⟩ v) (fun e => by injection e with e; exact hSg e)
  · show Row _ _ 8 (A 0) (c 0) (P.ps.set p x).length ((P.ps.set p x).map pcells).flatten
    have hpl : p < (P.ps.map pcells).length := by simpa using hp
    have e : (P.ps.map pcells)[p] = pcells (P.proc p) := by simp [PSet.proc, List.getD, hp]
    have hpo := h.po
    rw [hA] at hpo ⊢
    have := hpo.set (p * 8 + f) v
    rw [flat_set (ps_len P) hpl hf v, e, hx] at this
    rw [hl, List.map_set]
    exact this
theorem SetM.footP (_ : SetM w S P A c) {g : Nat} (hA : A 0 = some ⟨g, 0, none⟩) : Foot S A g := .inr ⟨0, by rw [hA]; rfl⟩
/-! ### a resource's cells -/
theorem rr_get (rs : List Rsc) (A : Nat → Option Addr) (c : Nat → Nat) {r : Nat} (hr : r < (rrows rs A c).length) : (rrows rs A c)[r] = rcells (rs.getD r default) (A (3 + 2 * r)) (c (3 + 2 * r)) (A (4 + 2 * r)) (c (4 + 2 * r)) := by simp [rrows]
theorem SetM.rcell (h : SetM w S P A c) {r : Nat} (hr : r < P.rs.length) : ∃ g, A 1 = some ⟨g, 0, none⟩ ∧ g < w.heap.size ∧ (∀ k, w.frozen? ⟨g, k, none⟩ = false) ∧ ∀ f v, (rcells (P.rsc r) (A (3 + 2 * r)) (c (3 + 2 * r)) (A (4 + 2 * r)) (c (4 + 2 * r)))[f]? = some v → w.cell? ⟨g, r * 5 + f, none⟩ = some v := by
  have hrl : r < (rrows P.rs A c).length := by simpa [rrows] using hr
  obtain ⟨hj0, _⟩ := flat_get (rr_len P.rs A c) (p := r) (f := 0) hrl (by decide)
  obtain ⟨g, hA, hg, _, hf⟩ := h.ro.at hj0
  refine ⟨g, hA, hg, hf, fun f v hv => ?_⟩
  have hf8 : f < 5 := by
    have := (List.getElem?_eq_some_iff.1 hv).1
    simpa [rcells] using this
  obtain ⟨hj, he⟩ := flat_get (rr_len P.rs A c) (p := r) (f := f) hrl hf8
  obtain ⟨g', hA', _, hc, _⟩ := h.ro.at hj
  rw [hA] at hA'
  injection hA' with hA'
  injection hA' with hA'
  subst hA'
  rw [hc, he]
  have e := rr_get P.rs A c hrl
  have hf' : f < (rcells (P.rsc r) (A (3 + 2 * r)) (c (3 + 2 * r)) (A (4 + 2 * r)) (c (4 + 2 * r))).length := (List.getElem?_eq_some_iff.1 hv).1
  have : ((rrows P.rs A c)[r])[f]? = some v := by rw [e]; exact hv
  rw [List.getElem?_eq_getElem (by rw [e]; exact hf')] at this
  rw [Option.some.inj this]
theorem SetM.lt (h : SetM w S P A c) (j g : Nat) (hg : (A j).map (·.block) = some g) : g < w.heap.size := by
  rcases Nat.lt_or_ge j (3 + 2 * P.rs.length) with hj | hj
  · obtain ⟨i, hi⟩ : ∃ i, i = (j - 3) / 2 := ⟨_, rfl⟩
    rcases (by omega : j = 0 ∨ j = 1 ∨ j = 2 ∨ (j = 3 + 2 * i) ∨ (j = 4 + 2 * i)) with rfl | rfl | rfl | rfl | rfl
    · exact h.po.lt g hg
    · exact h.ro.lt g hg
    · exact h.rd.lt g hg
    · exact (h.qo i (by omega)).lt g hg
    · exact (h.io i (by omega)).lt g hg
  · rw [h.far j hj] at hg; cases hg
/-- a row put in another's place -/
def upA (A : Nat → Option Addr) (k : Nat) (x : Option Addr) : Nat → Option Addr := fun j => if j = k then x else A j
def upC (c : Nat → Nat) (k x : Nat) : Nat → Nat := fun j => if j = k then x else c j
theorem upA_same (A : Nat → Option Addr) (k : Nat) (x : Option Addr) : upA A k x k = x := if_pos rfl
theorem upA_ne (A : Nat → Option Addr) {k j : Nat} (x : Option Addr) (h : j ≠ k) : upA A k x j = A j := if_neg h
theorem upC_same (A : Nat → Nat) (k : Nat) (x : Nat) : upC A k x k = x := if_pos rfl
theorem upC_ne (A : Nat → Nat) {k j : Nat} (x : Nat) (h : j ≠ k) : upC A k x j = A j := if_neg h
/-- the new row's block: the old row's, or a new one -/
def NewB (w : World) (Ak A2 : Option Addr) : Prop := A2.map (·.block) = Ak.map (·.block) ∨ ∀ g, A2.map (·.block) = some g → w.heap.size ≤ g
theorem SetM.ap_up (h : SetM w S P A c) {k : Nat} {A2 : Option Addr} (hb : NewB w (A k) A2) : ∀ i j g, i ≠ j → (upA A k A2 i).map (·.block) = some g → (upA A k A2 j).map (·.block) ≠ some g := by
  intro i j g hij hi hj
  by_cases h1 : i = k
  · have h2 : j ≠ k := fun e => hij (h1.trans e.symm)
    rw [h1, upA_same] at hi
    rw [upA_ne A A2 h2] at hj
    rcases hb with e | e
    · rw [e] at hi; exact h.ap k j g (fun e => h2 e.symm) hi hj
    · have := e g hi; have := h.lt j g hj; omega
  · rw [upA_ne A A2 h1] at hi
    by_cases h2 : j = k
    · rw [h2, upA_same] at hj
      rcases hb with e | e
      · rw [e] at hj; exact h.ap i k g h1 hi hj
      · have := e g hj; have := h.lt i g hi; omega
    · rw [upA_ne A A2 h2] at hj
      exact h.ap i j g hij hi hj
theorem SetM.aps_up (h : SetM w S P A c) {k : Nat} {A2 : Option Addr} (hb : NewB w (A k) A2) : ∀ i, (upA A k A2 i).map (·.block) ≠ some S := by
  intro i hi
  by_cases h1 : i = k
  · rw [h1, upA_same] at hi
    rcases hb with e | e
    · rw [e] at hi; exact h.aps k hi
    · have := e S hi; have := h.blk.lt; omega
  · rw [upA_ne A A2 h1] at hi; exact h.aps i hi
theorem SetM.far_up (h : SetM w S P A c) {k : Nat} {A2 : Option Addr} (hk : k < 3 + 2 * P.rs.length) : ∀ j, 3 + 2 * P.rs.length ≤ j → upA A k A2 j = none := fun j hj => by
  rw [upA_ne A A2 (by omega)]; exact h.far j hj
theorem foot_up {k : Nat} {A2 : Option Addr} (hb : NewB w (A k) A2) (x : Nat) (hf : Foot S (upA A k A2) x) : Foot S A x ∨ w.heap.size ≤ x := by
  rcases hf with rfl | ⟨j, hj⟩
  · exact .inl (.inl rfl)
  · by_cases h1 : j = k
    · rw [h1, upA_same] at hj
      rcases hb with e | e
      · rw [e] at hj; exact .inl (.inr ⟨k, hj⟩)
      · exact .inr (e x hj)
    · rw [upA_ne A A2 h1] at hj; exact .inl (.inr ⟨j, hj⟩)
/-- who is ready, anew -/
theorem SetM.putReady (h : SetM w S P A c) {A2 : Option Addr} {c2 : Nat} {L : List Nat} (hr : Row w' 3 1 A2 c2 L.length (nums L)) (hg : w.grownBy w' ((A 2).map (·.block))) (hb : NewB w (A 2) A2) :
    SetM (w'.setCell ⟨S, 2, none⟩ (.slice A2 L.length c2)) S { P with ready := L } (upA A 2 A2) (upC c 2 c2) ∧ FrS S A w (upA A 2 A2) (w'.setCell ⟨S, 2, none⟩ (.slice A2 L.length c2)) := by
  have hSb : ∀ j, j ≠ 2 → (A j).map (·.block) = none ∨ (A j).map (·.block) ≠ (A 2).map (·.block) := fun j hj => by
    cases hx : (A j).map (·.block) with
    | none => exact .inl rfl
    | some g => exact .inr fun e => h.ap j 2 g hj hx e.symm
  have hS2 : (A 2).map (·.block) ≠ some S := h.aps 2
  have hk : ∀ (j : Nat) {e size n xs}, j ≠ 2 → Row w e size (A j) (c j) n xs → Row (w'.setCell ⟨S, 2, none⟩ (.slice A2 L.length c2)) e size (A j) (c j) n xs := fun j {e size n xs} hj hx =>
    (hx.kept hg (hSb j hj)).other (h.aps j) _
  refine ⟨⟨?_, ?_, ?_, ?_, ?_, ?_, h.ap_up hb, h.aps_up hb, h.far_up (by omega)⟩, ?_⟩
  · have := (h.blk.grown hg hS2).setCell 2 (.slice A2 L.length c2)
    rw [upA_same, upC_same, upA_ne A A2 (by decide), upA_ne A A2 (by decide), upC_ne c c2 (by decide), upC_ne c c2 (by decide)]
    exact this
  · rw [upA_ne A A2 (by decide), upC_ne c c2 (by decide)]; exact hk 0 (by decide) h.po
  · have e : rrows P.rs (upA A 2 A2) (upC c 2 c2) = rrows P.rs A c := by
      unfold rrows
      refine List.map_congr_left fun i _ => ?_
      rw [upA_ne A A2 (by omega), upA_ne A A2 (by omega), upC_ne c c2 (by omega), upC_ne c c2 (by omega)]
    rw [upA_ne A A2 (by decide), upC_ne c c2 (by decide)]
    show Row _ _ 5 (A 1) (c 1) P.rs.length (rrows P.rs (upA A 2 A2) (upC c 2 c2)).flatten
    rw [e]; exact hk 1 (by decide) h.ro
  · rw [upA_same, upC_same]
    refine hr.other ?_ _
    rcases hb with e | e
    · rw [e]; exact hS2
    · intro hx; have := e S hx; have := h.blk.lt; omega
  · intro i hi
    rw [upA_ne A A2 (by omega), upC_ne c c2 (by omega)]; exact hk _ (by omega) (h.qo i hi)
  · intro i hi
    rw [upA_ne A A2 (by omega), upC_ne c c2 (by omega)]; exact hk _ (by omega) (h.io i hi)
  · have f1 : FrS S A w A w' := FrS.grown hg fun k e => .inl (.inr ⟨2, e⟩)
    have f2 : FrS S A w' A (w'.setCell ⟨S, 2, none⟩ (.slice A2 L.length c2)) := FrS.grown (grown_setCell _ _ _) fun k e => .inl (.inl (by injection e with e; exact e.symm))
    have f := f1.trans f2
    exact ⟨f.os, f.tape, f.output, f.size, f.block, fun k hk => foot_up hb k hk, upA_ne A A2 (by omega), upA_ne A A2 (by omega)⟩
/-- a resource's numbers -/
theorem SetM.storeR (h : SetM w S P A c) {r f : Nat} (hr : r < P.rs.length) (hf : f < 3) (v : Value) (x : Rsc) (hx : (rcells (P.rsc r) (A (3 + 2 * r)) (c (3 + 2 * r)) (A (4 + 2 * r)) (c (4 + 2 * r))).set f v = rcells x (A (3 + 2 * r)) (c (3 + 2 * r)) (A (4 + 2 * r)) (c (4 + 2 * r))) (hq : x.q = (P.rsc r).q) (hi : x.items = (P.rsc r).items) {g : Nat} (hA : A 1 = some ⟨g, 0, none⟩) :
    SetM (w.setCell ⟨g, r * 5 + f, none⟩ v) S (P.setR r x) A c := by
  have hgA : (A 1).map (·.block) = some g := by rw [hA]; rfl
  have hne : ∀ j, j ≠ 1 → (A j).map (·.block) ≠ some g := fun j hj => h.ap 1 j g (fun e => hj e.symm) hgA
  have hSg : g ≠ S := fun e => h.aps 1 (by rw [hgA, e])
  have hl : (P.rs.set r x).length = P.rs.length := List.length_set ..
  have hgd : ∀ i, ((P.rs.set r x).getD i default).q = (P.rsc i).q ∧ ((P.rs.set r x).getD i default).items = (P.rsc i).items := fun i => by
    by_cases e : i = r
    · subst e
      have : (P.rs.set i x).getD i default = x := by simp [List.getD, hr]
      rw [this]; exact ⟨hq, hi⟩
    · have : (P.rs.set r x).getD i default = P.rsc i := by simp [List.getD, PSet.rsc, List.getElem?_set_ne (Ne.symm e)]
      rw [this]; exact ⟨rfl, rfl⟩
  refine ⟨?_, h.po.other (hne 0 (by decide)) v, ?_, h.rd.other (hne 2 (by decide)) v, fun i hi' => ?_, fun i hi' => ?_, h.ap, h.aps, fun j hj => h.far j (by rw [← hl]; exact hj)⟩
  · show Blk _ S [_, .slice (A 1) (P.rs.set r x).length (c 1), _]
    rw [hl]
    exact h.blk.grown (grown_setCell w ⟨g, r * 5 + f, none⟩ v) (fun e => by injection e with e; exact hSg e)
  · show Row _ _ 5 (A 1) (c 1) (P.rs.set r x).length (rrows (P.rs.set r x) A c).flatten
    have hrl : r < (rrows P.rs A c).length := by simpa [rrows] using hr
    have hro := h.ro
    rw [hA] at hro ⊢
    have := hro.set (r * 5 + f) v
    rw [flat_set (rr_len P.rs A c) hrl (by omega) v, rr_get P.rs A c hrl] at this
    have e2 : (rcells (P.rs.getD r default) (A (3 + 2 * r)) (c (3 + 2 * r)) (A (4 + 2 * r)) (c (4 + 2 * r))).set f v = rcells x (A (3 + 2 * r)) (c (3 + 2 * r)) (A (4 + 2 * r)) (c (4 + 2 * r)) := hx
    rw [e2] at this
    have e3 : rrows (P.rs.set r x) A c = (rrows P.rs A c).set r (rcells x (A (3 + 2 * r)) (c (3 + 2 * r)) (A (4 + 2 * r)) (c (4 + 2 * r))) := by
      unfold rrows
      rw [hl]
      refine List.ext_getElem (by simp) fun i h1 h2 => ?_
      by_cases e : i = r
      · subst e; simp [List.getD, hr]
      · rw [List.getElem_set_ne (fun e' => e e'.symm)]
        simp [List.getD, List.getElem?_set_ne (Ne.symm e)]
    rw [e3, hl]
    exact this
  · have e := (hgd i).1
    show Row _ _ 1 _ _ ((P.rs.set r x).getD i default).q.length (nums ((P.rs.set r x).getD i default).q)
    rw [e]
    exact (h.qo i (by rw [← hl]; exact hi')).other (hne _ (by omega)) v
  · have e := (hgd i).2
    show Row _ _ 1 _ _ ((P.rs.set r x).getD i default).items.length (((P.rs.set r x).getD i default).items.map (Value.int .i64))
    rw [e]
    exact (h.io i (by rw [← hl]; exact hi')).other (hne _ (by omega)) v
end
end Go.Proofs.Ytgeffkdobnipgaa
/- A set of processes in memory: a resource's queue and its items, anew; append to a row. -/
namespace Go.Proofs.Ytgeffkdobnipgaa
open Go.RowKit Nac Nac.Procs
section
variable {w w' w2 : World} {S : Nat} {P : PSet} {A A' A2 : Nat → Option Addr} {c c' : Nat → Nat}
/-- a resource's queue, anew -/
theorem SetM.putQ (h : SetM w S P A c) {r : Nat} (hr : r < P.rs.length) {A2 : Option Addr} {c2 : Nat} {L : List Nat} (hrow : Row w' 3 1 A2 c2 L.length (nums L)) (hg : w.grownBy w' ((A (3 + 2 * r)).map (·.block))) (hb : NewB w (A (3 + 2 * r)) A2) {g : Nat} (hA : A 1 = some ⟨g, 0, none⟩) :
    SetM (w'.setCell ⟨g, r * 5 + 3, none⟩ (.slice A2 L.length c2)) S (P.setR r { P.rsc r with q := L }) (upA A (3 + 2 * r) A2) (upC c (3 + 2 * r) c2) ∧ FrS S A w (upA A (3 + 2 * r) A2) (w'.setCell ⟨g, r * 5 + 3, none⟩ (.slice A2 L.length c2)) := by
  have hgA : (A 1).map (·.block) = some g := by rw [hA]; rfl
  have hSg : g ≠ S := fun e => h.aps 1 (by rw [hgA, e])
  have hl : (P.rs.set r { P.rsc r with q := L }).length = P.rs.length := List.length_set ..
  have hSb : ∀ j, j ≠ 3 + 2 * r → (A j).map (·.block) = none ∨ (A j).map (·.block) ≠ (A (3 + 2 * r)).map (·.block) := fun j hj => by
    cases hx : (A j).map (·.block) with
    | none => exact .inl rfl
    | some g => exact .inr fun e => h.ap j (3 + 2 * r) g hj hx e.symm
  have hS2 : (A (3 + 2 * r)).map (·.block) ≠ some S := h.aps _
  have hg2 : (A (3 + 2 * r)).map (·.block) ≠ some g := h.ap 1 _ g (by omega) hgA
  have hk : ∀ (j : Nat) {e size n xs}, j ≠ 3 + 2 * r → j ≠ 1 → Row w e size (A j) (c j) n xs → Row (w'.setCell ⟨g, r * 5 + 3, none⟩ (.slice A2 L.length c2)) e size (A j) (c j) n xs := fun j {e size n xs} hj h1 hx =>
    (hx.kept hg (hSb j hj)).other (h.ap 1 j g (fun e => h1 e.symm) hgA) _
  have hgdi : ∀ i, ((P.rs.set r { P.rsc r with q := L }).getD i default).items = (P.rsc i).items := fun i => by
    by_cases e : i = r
    · subst e
      have : (P.rs.set i { P.rsc i with q := L }).getD i default = { P.rsc i with q := L } := by simp [List.getD, hr]
      rw [this]
    · have : (P.rs.set r { P.rsc r with q := L }).getD i default = P.rsc i := by simp [List.getD, PSet.rsc, List.getElem?_set_ne (Ne.symm e)]
      rw [this]
  have hgdq : ∀ i, i ≠ r → ((P.rs.set r { P.rsc r with q := L }).getD i default).q = (P.rsc i).q := fun i e => by
    have : (P.rs.set r { P.rsc r with q := L }).getD i default = P.rsc i := by simp [List.getD, PSet.rsc, List.getElem?_set_ne (Ne.symm e)]
    rw [this]
  have hgdr : (P.rs.set r { P.rsc r with q := L }).getD r default = { P.rsc r with q := L } := by simp [List.getD, hr]
  refine ⟨⟨?_, ?_, ?_, ?_, ?_, ?_, h.ap_up hb, h.aps_up hb, fun j hj => h.far_up (by omega) j (by rw [← hl]; exact hj)⟩, ?_⟩
  · rw [upA_ne A A2 (by omega), upA_ne A A2 (by omega), upA_ne A A2 (by omega), upC_ne c c2 (by omega), upC_ne c c2 (by omega), upC_ne c c2 (by omega)]
    show Blk _ S [_, .slice (A 1) (P.rs.set r { P.rsc r with q := L }).length (c 1), _]
    rw [hl]
    exact (h.blk.grown hg hS2).grown (grown_setCell w' ⟨g, r * 5 + 3, none⟩ _) (fun e => by injection e with e; exact hSg e)
  · rw [upA_ne A A2 (by omega), upC_ne c c2 (by omega)]; exact hk 0 (by omega) (by decide) h.po
  · rw [upA_ne A A2 (by omega), upC_ne c c2 (by omega)]
    show Row _ _ 5 (A 1) (c 1) (P.rs.set r { P.rsc r with q := L }).length (rrows (P.rs.set r { P.rsc r with q := L }) (upA A (3 + 2 * r) A2) (upC c (3 + 2 * r) c2)).flatten
    have hrl : r < (rrows P.rs A c).length := by simpa [rrows] using hr
    have hro := h.ro.kept hg (hSb 1 (by omega))
    rw [hA] at hro ⊢
    have := hro.set (r * 5 + 3) (.slice A2 L.length c2)
    rw [flat_set (rr_len P.rs A c) hrl (by omega) _, rr_get P.rs A c hrl] at this
    have e3 : rrows (P.rs.set r { P.rsc r with q := L }) (upA A (3 + 2 * r) A2) (upC c (3 + 2 * r) c2) = (rrows P.rs A c).set r ((rcells (P.rs.getD r default) (A (3 + 2 * r)) (c (3 + 2 * r)) (A (4 + 2 * r)) (c (4 + 2 * r))).set 3 (.slice A2 L.length c2)) := by
      unfold rrows
      rw [hl]
      refine List.ext_getElem (by simp) fun i h1 h2 => ?_
      by_cases e : i = r
      · subst e
        rw [List.getElem_set_self, List.getElem_map, List.getElem_range, hgdr, upA_same, upC_same, upA_ne A A2 (by omega), upC_ne c c2 (by omega)]
        rfl
      · rw [List.getElem_set_ne (fun e' => e e'.symm)]
        simp only [List.getElem_map, List.getElem_range]
        rw [upA_ne A A2 (by omega), upC_ne c c2 (by omega), upA_ne A A2 (by omega), upC_ne c c2 (by omega)]
        simp [List.getD, List.getElem?_set_ne (Ne.symm e)]
    rw [e3, hl]
    exact this
  · rw [upA_ne A A2 (by omega), upC_ne c c2 (by omega)]; exact hk 2 (by omega) (by decide) h.rd
  · intro i hi
    have hi : i < P.rs.length := by rw [← hl]; exact hi
    by_cases e : i = r
    · subst e
      rw [upA_same, upC_same]
      show Row _ _ 1 _ _ ((P.rs.set i { P.rsc i with q := L }).getD i default).q.length (nums ((P.rs.set i { P.rsc i with q := L }).getD i default).q)
      rw [hgdr]
      refine hrow.other ?_ _
      rcases hb with e | e
      · rw [e]; exact hg2
      · intro hx; have := e g hx; have := h.lt 1 g hgA; omega
    · rw [upA_ne A A2 (by omega), upC_ne c c2 (by omega)]
      show Row _ _ 1 _ _ ((P.rs.set r { P.rsc r with q := L }).getD i default).q.length (nums ((P.rs.set r { P.rsc r with q := L }).getD i default).q)
      rw [hgdq i e]
      exact hk _ (by omega) (by omega) (h.qo i hi)
  · intro i hi
    have hi : i < P.rs.length := by rw [← hl]; exact hi
    rw [upA_ne A A2 (by omega), upC_ne c c2 (by omega)]
    show Row _ _ 1 _ _ ((P.rs.set r { P.rsc r with q := L }).getD i default).items.length (((P.rs.set r { P.rsc r with q := L }).getD i default).items.map (Value.int .i64))
    rw [hgdi i]
    exact hk _ (by omega) (by omega) (h.io i hi)
  · have f1 : FrS S A w A w' := FrS.grown hg fun k e => .inl (.inr ⟨_, e⟩)
    have f2 : FrS S A w' A (w'.setCell ⟨g, r * 5 + 3, none⟩ (.slice A2 L.length c2)) := FrS.grown (grown_setCell _ _ _) fun k e => .inl (.inr ⟨1, by injection e with e; rw [hgA]; exact congrArg some e⟩)
    have f := f1.trans f2
    exact ⟨f.os, f.tape, f.output, f.size, f.block, fun k hk => foot_up hb k hk, upA_ne A A2 (by omega), upA_ne A A2 (by omega)⟩
/-- a resource's items, anew -/
theorem SetM.putI (h : SetM w S P A c) {r : Nat} (hr : r < P.rs.length) {A2 : Option Addr} {c2 : Nat} {L : List Int} (hrow : Row w' 2 1 A2 c2 L.length (L.map (Value.int .i64))) (hg : w.grownBy w' ((A (4 + 2 * r)).map (·.block))) (hb : NewB w (A (4 + 2 * r)) A2) {g : Nat} (hA : A 1 = some ⟨g, 0, none⟩) :
    SetM (w'.setCell ⟨g, r * 5 + 4, none⟩ (.slice A2 L.length c2)) S (P.setR r { P.rsc r with items := L }) (upA A (4 + 2 * r) A2) (upC c (4 + 2 * r) c2) ∧ FrS S A w (upA A (4 + 2 * r) A2) (w'.setCell ⟨g, r * 5 + 4, none⟩ (.slice A2 L.length c2)) := by
  have hgA : (A 1).map (·.block) = some g := by rw [hA]; rfl
  have hSg : g ≠ S := fun e => h.aps 1 (by rw [hgA, e])
  have hl : (P.rs.set r { P.rsc r with items := L }).length = P.rs.length := List.length_set ..
  have hSb : ∀ j, j ≠ 4 + 2 * r → (A j).map (·.block) = none ∨ (A j).map (·.block) ≠ (A (4 + 2 * r)).map (·.block) := fun j hj => by
    cases hx : (A j).map (·.block) with
    | none => exact .inl rfl
    | some g => exact .inr fun e => h.ap j (4 + 2 * r) g hj hx e.symm
  have hS2 : (A (4 + 2 * r)).map (·.block) ≠ some S := h.aps _
  have hg2 : (A (4 + 2 * r)).map (·.block) ≠ some g := h.ap 1 _ g (by omega) hgA
  have hk : ∀ (j : Nat) {e size n xs}, j ≠ 4 + 2 * r → j ≠ 1 → Row w e size (A j) (c j) n xs → Row (w'.setCell ⟨g, r * 5 + 4, none⟩ (.slice A2 L.length c2)) e size (A j) (c j) n xs := fun j {e size n xs} hj h1 hx =>
    (hx.kept hg (hSb j hj)).other (h.ap 1 j g (fun e => h1 e.symm) hgA) _
  have hgdq : ∀ i, ((P.rs.set r { P.rsc r with items := L }).getD i default).q = (P.rsc i).q := fun i => by
    by_cases e : i = r
    · subst e
      have : (P.rs.set i { P.rsc i with items := L }).getD i default = { P.rsc i with items := L } := by simp [List.getD, hr]
      rw [this]
    · have : (P.rs.set r { P.rsc r with items := L }).getD i default = P.rsc i := by simp [List.getD, PSet.rsc, List.getElem?_set_ne (Ne.symm e)]
      rw [this]
  have hgdi : ∀ i, i ≠ r → ((P.rs.set r { P.rsc r with items := L }).getD i default).items = (P.rsc i).items := fun i e => by
    have : (P.rs.set r { P.rsc r with items := L }).getD i default = P.rsc i := by simp [List.getD, PSet.rsc, List.getElem?_set_ne (Ne.symm e)]
    rw [this]
  have hgdr : (P.rs.set r { P.rsc r with items := L }).getD r default = { P.rsc r with items := L } := by simp [List.getD, hr]
  refine ⟨⟨?_, ?_, ?_, ?_, ?_, ?_, h.ap_up hb, h.aps_up hb, fun j hj => h.far_up (by omega) j (by rw [← hl]; exact hj)⟩, ?_⟩
  · rw [upA_ne A A2 (by omega), upA_ne A A2 (by omega), upA_ne A A2 (by omega), upC_ne c c2 (by omega), upC_ne c c2 (by omega), upC_ne c c2 (by omega)]
    show Blk _ S [_, .slice (A 1) (P.rs.set r { P.rsc r with items := L }).length (c 1), _]
    rw [hl]
    exact (h.blk.grown hg hS2).grown (grown_setCell w' ⟨g, r * 5 + 4, none⟩ _) (fun e => by injection e with e; exact hSg e)
  · rw [upA_ne A A2 (by omega), upC_ne c c2 (by omega)]; exact hk 0 (by omega) (by decide) h.po
  · rw [upA_ne A A2 (by omega), upC_ne c c2 (by omega)]
    show Row _ _ 5 (A 1) (c 1) (P.rs.set r { P.rsc r with items := L }).length (rrows (P.rs.set r { P.rsc r with items := L }) (upA A (4 + 2 * r) A2) (upC c (4 + 2 * r) c2)).flatten
    have hrl : r < (rrows P.rs A c).length := by simpa [rrows] using hr
    have hro := h.ro.kept hg (hSb 1 (by omega))
    rw [hA] at hro ⊢
    have := hro.set (r * 5 + 4) (.slice A2 L.length c2)
    rw [flat_set (rr_len P.rs A c) hrl (by omega) _, rr_get P.rs A c hrl] at this
    have e3 : rrows (P.rs.set r { P.rsc r with items := L }) (upA A (4 + 2 * r) A2) (upC c (4 + 2 * r) c2) = (rrows P.rs A c).set r ((rcells (P.rs.getD r default) (A (3 + 2 * r)) (c (3 + 2 * r)) (A (4 + 2 * r)) (c (4 + 2 * r))).set 4 (.slice A2 L.length c2)) := by
      unfold rrows
      rw [hl]
      refine List.ext_getElem (by simp) fun i h1 h2 => ?_
      by_cases e : i = r
      · subst e
        rw [List.getElem_set_self, List.getElem_map, List.getElem_range, hgdr, upA_same, upC_same, upA_ne A A2 (by omega), upC_ne c c2 (by omega)]
        rfl
      · rw [List.getElem_set_ne (fun e' => e e'.symm)]
        simp only [List.getElem_map, List.getElem_range]
        rw [upA_ne A A2 (by omega), upC_ne c c2 (by omega), upA_ne A A2 (by omega), upC_ne c c2 (by omega)]
        simp [List.getD, List.getElem?_set_ne (Ne.symm e)]
    rw [e3, hl]
    exact this
  · rw [upA_ne A A2 (by omega), upC_ne c c2 (by omega)]; exact hk 2 (by omega) (by decide) h.rd
  · intro i hi
    have hi : i < P.rs.length := by rw [← hl]; exact hi
    rw [upA_ne A A2 (by omega), upC_ne c c2 (by omega)]
    show Row _ _ 1 _ _ ((P.rs.set r { P.rsc r with items := L }).getD i default).q.length (nums ((P.rs.set r { P.rsc r with items := L }).getD i default).q)
    rw [hgdq i]
    exact hk _ (by omega) (by omega) (h.qo i hi)
  · intro i hi
    have hi : i < P.rs.length := by rw [← hl]; exact hi
    by_cases e : i = r
    · subst e
      rw [upA_same, upC_same]
      show Row _ _ 1 _ _ ((P.rs.set i { P.rsc i with items := L }).getD i default).items.length (((P.rs.set i { P.rsc i with items := L }).getD i default).items.map (Value.int .i64))
      rw [hgdr]
      refine hrow.other ?_ _
      rcases hb with e | e
      · rw [e]; exact hg2
      · intro hx; have := e g hx; have := h.lt 1 g hgA; omega
    · rw [upA_ne A A2 (by omega), upC_ne c c2 (by omega)]
      show Row _ _ 1 _ _ ((P.rs.set r { P.rsc r with items := L }).getD i default).items.length (((P.rs.set r { P.rsc r with items := L }).getD i default).items.map (Value.int .i64))
      rw [hgdi i e]
      exact hk _ (by omega) (by omega) (h.io i hi)
  · have f1 : FrS S A w A w' := FrS.grown hg fun k e => .inl (.inr ⟨_, e⟩)
    have f2 : FrS S A w' A (w'.setCell ⟨g, r * 5 + 4, none⟩ (.slice A2 L.length c2)) := FrS.grown (grown_setCell _ _ _) fun k e => .inl (.inr ⟨1, by injection e with e; rw [hgA]; exact congrArg some e⟩)
    have f := f1.trans f2
    exact ⟨f.os, f.tape, f.output, f.size, f.block, fun k hk => foot_up hb k hk, upA_ne A A2 (by omega), upA_ne A A2 (by omega)⟩
end
/-- append of one cell onto a row of the call's own -/
theorem wpList_app_row {T E : TypeId} {z : Value} {bytes : Nat} (hT : Try.prog.underlying T = some (.slice E)) (hinfo : (Try.prog.info? E).map (fun i => (i.zero, i.size, i.bytes)) = some (some z, 1, bytes)) (hz1 : z.cells.size = 1) (hby : bytes ≤ 8)
    (w : World) {ops : Array Oper} {rest : List Oper} {o : Oper} {a : Act} {Q : Exit → Act → World → Prop} (hgd : o.guard = none) (s x : Operand)
    (ho : o.op = .call { callee := .builtin .append, args := #[s, x], argTypes := #[T, T] })
    (A : Option Addr) (c n : Nat) (xs : List Value) (hs : a.eval s = .slice A n c) (hown : Row w E 1 A c n xs)
    (g c2 : Nat) (u : Value) (hx : a.eval x = .slice (some ⟨g, 0, none⟩) 1 c2) (hu1 : u.oneCell' = true) (hsrc : w.cell? ⟨g, 0, none⟩ = some u)
    (hlen : n ≤ 1000000)
    (h : ∀ A' c' w', Row w' E 1 A' c' (n + 1) (xs ++ [u]) → w.grownBy w' (A.map (·.block)) → NewB w A A' → wpList Try.prog ops Q rest (a.put o.dst (.slice A' (n + 1) c')) w') : wpList Try.prog ops Q (o :: rest) a w := by
  obtain ⟨i, hi, hz, hs1, hb1⟩ := info_parts hinfo
  have eb : Value.ownBlock (.slice A n c) = A.map (·.block) := by cases A <;> rfl
  have hmul : (n + 1) * bytes ≤ (n + 1) * 8 := Nat.mul_le_mul_left _ hby
  obtain ⟨v', w', hr, h2, h3, _, h5⟩ := run_append_own_at (P := Try.prog) w 0 T o.type E i z 1 bytes hT hi hz hs1 hb1 hz1 (by decide) _ n xs hown ⟨g, 0, none⟩ 1 c2 [u] rfl
    (fun j v hv => by
      have hj : j = 0 := by have := (List.getElem?_eq_some_iff.1 hv).1; simpa using this
      subst hj
      simp at hv
      subst hv
      simpa [Addr.add] using hsrc) (fun v hv => by simp at hv; subst hv; exact hu1) (by unfold maxLen; omega) (by omega) (Nat.zero_le _)
  obtain ⟨A', c', rfl⟩ := own_formI h2
  have eb' : Value.ownBlock (.slice A' (n + 1) c') = A'.map (·.block) := by cases A' <;> rfl
  rw [eb] at h3 h5
  rw [eb'] at h5
  have hK := h A' c' w' h2 h3 (by
    rcases h5 with h5 | h5
    · exact .inl h5
    · exact .inr fun g hg => by rw [h5] at hg; injection hg with hg; omega)
  refine wpList_plain hgd fun K hKK => ?_
  unfold Oper.wp execOp
  simp only [ho, resolve, invoke, builtin, Sem.run_bind, Sem.run_pure, Result.andThen_ok, List.map_toArray, List.map_cons, List.map_nil, hs, hx, hr]
  exact hKK _ _ hK
end Go.Proofs.Ytgeffkdobnipgaa
/- procs: isProcess, isResource, State, Count, Last, wake. -/
namespace Go.Proofs.Ytgeffkdobnipgaa
open Go.RowKit Nac Nac.Procs
def RetBw (w : World) (b : Bool) (e : Ending) (w' : World) : Prop := e = .returned (.bool b) ∧ w = w'
def RetIw (w : World) (z : Int) (e : Ending) (w' : World) : Prop := e = .returned (.int .i64 z) ∧ w = w'
theorem isProcess_calls (w : World) (S : Nat) (P : PSet) (A : Nat → Option Addr) (c : Nat → Nat) (h : SetM w S P A c) (p : Int) : Calls Try.prog 24 #[.pointer (some ⟨S, 0, none⟩), .int .i64 p] w (RetBw w (isP P p)) := by
  have c0 : w.cell? ⟨S, 0, none⟩ = some (.slice (A 0) P.ps.length (c 0)) := h.blk.cell rfl
  obtain ⟨n, hn⟩ : ∃ n, n = P.ps.length := ⟨_, rfl⟩
  have HB : Hid (isP P p = (decide (0 ≤ p) && decide (p < n))) := Lib.hid (by unfold isP; rw [hn])
  rw [← hn] at c0
  clear h hn
  by_cases hp : 0 ≤ p
  · have HB' : Hid (isP P p = decide (p < n)) := Lib.hid (by rw [HB.out]; simp [hp])
    clear HB
    go_enter Try.func24, Try.ntmps24
    go_wp2
    go_ret
    exact ⟨by rw [HB'.out]; rfl, rfl⟩
  · have hp' : decide (0 ≤ p) = false := by simpa using hp
    have HB' : Hid (isP P p = false) := Lib.hid (by rw [HB.out, hp']; rfl)
    clear HB hp
    go_enter Try.func24, Try.ntmps24
    go_wp2
    go_ret
    exact ⟨by rw [HB'.out]; rfl, rfl⟩
theorem isResource_calls (w : World) (S : Nat) (P : PSet) (A : Nat → Option Addr) (c : Nat → Nat) (h : SetM w S P A c) (p : Int) : Calls Try.prog 28 #[.pointer (some ⟨S, 0, none⟩), .int .i64 p] w (RetBw w (isR P p)) := by
  have c0 : w.cell? ⟨S, 1, none⟩ = some (.slice (A 1) P.rs.length (c 1)) := h.blk.cell rfl
  obtain ⟨n, hn⟩ : ∃ n, n = P.rs.length := ⟨_, rfl⟩
  have HB : Hid (isR P p = (decide (0 ≤ p) && decide (p < n))) := Lib.hid (by unfold isR; rw [hn])
  rw [← hn] at c0
  clear h hn
  by_cases hp : 0 ≤ p
  · have HB' : Hid (isR P p = decide (p < n)) := Lib.hid (by rw [HB.out]; simp [hp])
    clear HB
    go_enter Try.func28, Try.ntmps28
    go_wp2
    go_ret
    exact ⟨by rw [HB'.out]; rfl, rfl⟩
  · have hp' : decide (0 ≤ p) = false := by simpa using hp
    have HB' : Hid (isR P p = false) := Lib.hid (by rw [HB.out, hp']; rfl)
    clear HB hp
    go_enter Try.func28, Try.ntmps28
    go_wp2
    go_ret
    exact ⟨by rw [HB'.out]; rfl, rfl⟩
theorem State_calls (w : World) (S : Nat) (P : PSet) (A : Nat → Option Addr) (c : Nat → Nat) (h : SetM w S P A c) (h8 : P.ps.length ≤ 1000) (p : Int) : Calls Try.prog 19 #[.pointer (some ⟨S, 0, none⟩), .int .i64 p] w (RetIw w (stateI P p)) := by
  have H := Lib.hid h
  cases hip : isP P p with
  | false =>
    have HX : Hid (stateI P p = 0) := Lib.hid (by unfold stateI; rw [hip]; rfl)
    have HI := Lib.hid hip
    clear h hip
    go_enter Try.func19, Try.ntmps19
    go_wp2_with fail
    refine (isProcess_calls w S P A c H.out p).mono ?_
    rintro e w1 ⟨rfl, rfl⟩
    rw [HI.out]
    go_wp2
    go_ret
    exact ⟨by rw [HX.out]; rfl, rfl⟩
  | true =>
    obtain ⟨k, rfl⟩ : ∃ k : Nat, p = k := ⟨p.toNat, by unfold isP at hip; simp at hip; omega⟩
    have hk : k < P.ps.length := by unfold isP at hip; simp at hip; omega
    have HX : Hid (stateI P k = (P.proc k).st) := Lib.hid (by unfold stateI; rw [hip]; rfl)
    obtain ⟨g, hA, hg, hf, hc⟩ := h.pcell hk
    have c0 : w.cell? ⟨S, 0, none⟩ = some (.slice (some ⟨g, 0, none⟩) P.ps.length (c 0)) := by rw [← hA]; exact h.blk.cell rfl
    have c1 := hc 1 _ rfl
    obtain ⟨n, hn⟩ : ∃ n, n = P.ps.length := ⟨_, rfl⟩
    rw [← hn] at c0 hk h8
    have HI := Lib.hid hip
    clear h hip hA hg hf hc hn
    go_enter Try.func19, Try.ntmps19
    go_wp2_with fail
    refine (isProcess_calls w S P A c H.out k).mono ?_
    rintro e w1 ⟨rfl, rfl⟩
    rw [HI.out]
    go_wp2
    go_ret
    exact ⟨by rw [HX.out]; rfl, rfl⟩
theorem Count_calls (w : World) (S : Nat) (P : PSet) (A : Nat → Option Addr) (c : Nat → Nat) (h : SetM w S P A c) (h8 : P.rs.length ≤ 1000) (p : Int) : Calls Try.prog 14 #[.pointer (some ⟨S, 0, none⟩), .int .i64 p] w (RetIw w (countI P p)) := by
  have H := Lib.hid h
  cases hip : isR P p with
  | false =>
    have HX : Hid (countI P p = 0) := Lib.hid (by unfold countI; rw [hip]; rfl)
    have HI := Lib.hid hip
    clear h hip
    go_enter Try.func14, Try.ntmps14
    go_wp2_with fail
    refine (isResource_calls w S P A c H.out p).mono ?_
    rintro e w1 ⟨rfl, rfl⟩
    rw [HI.out]
    go_wp2
    go_ret
    exact ⟨by rw [HX.out]; rfl, rfl⟩
  | true =>
    obtain ⟨k, rfl⟩ : ∃ k : Nat, p = k := ⟨p.toNat, by unfold isR at hip; simp at hip; omega⟩
    have hk : k < P.rs.length := by unfold isR at hip; simp at hip; omega
    have HX : Hid (countI P k = (P.rsc k).count) := Lib.hid (by unfold countI; rw [hip]; rfl)
    obtain ⟨g, hA, hg, hf, hc⟩ := h.rcell hk
    have c0 : w.cell? ⟨S, 1, none⟩ = some (.slice (some ⟨g, 0, none⟩) P.rs.length (c 1)) := by rw [← hA]; exact h.blk.cell rfl
    have c1 := hc 1 _ rfl
    obtain ⟨n, hn⟩ : ∃ n, n = P.rs.length := ⟨_, rfl⟩
    rw [← hn] at c0 hk h8
    have HI := Lib.hid hip
    clear h hip hA hg hf hc hn
    go_enter Try.func14, Try.ntmps14
    go_wp2_with fail
    refine (isResource_calls w S P A c H.out k).mono ?_
    rintro e w1 ⟨rfl, rfl⟩
    rw [HI.out]
    go_wp2
    go_ret
    exact ⟨by rw [HX.out]; rfl, rfl⟩
end Go.Proofs.Ytgeffkdobnipgaa
/- procs: stores under one name; wake. -/
namespace Nac
open Go Go.RowKit
section
variable {P : Program} {w : World} {ops : Array Oper} {rest : List Oper} {o : Oper} {a : Act} {Q : Exit → Act → World → Prop}
theorem run_storeVar_cell (w : World) (b k : Nat) (ty : TypeId) (v old : Value) (hc : w.cell? ⟨b, k, none⟩ = some old) (hf : w.frozen? ⟨b, k, none⟩ = false) (hi : (P.info? ty).map (·.size) = some 1) (h1 : v.oneCell' = true) :
    (storeVar ty ⟨b, k, none⟩ v).run P w = .ok () (w.setCell ⟨b, k, none⟩ v) := by
  have hcv : v.cells = #[v] := by cases v <;> first | rfl | cases h1
  have := run_storeCells_cells (P := P) b k [v] 0 w (fun j hj => by
    have : j = 0 := by simpa using hj
    subst this; simp [hc]) (fun j hj => by
    have : j = 0 := by simpa using hj
    subst this; simpa using hf) (fun x hx => by simp at hx; subst hx; exact h1)
  cases hq : P.info? ty with
  | none => simp [hq] at hi
  | some i =>
    have hs : i.size = 1 := by simpa [hq] using hi
    simp only [Nat.add_zero] at this
    simp [storeVar, Go.sizeOf, typeInfo, hq, hcv, hs, this, World.setCells]
/-- a store of one cell: the world behind it under a name -/
theorem wpList_store1 (hg : o.guard = none) (ty : TypeId) (x y : Operand) (hop : o.op = .store ty x y) (b k : Nat) (v old : Value) (hx : a.eval x = .pointer (some ⟨b, k, none⟩)) (hy : a.eval y = v) (hc : w.cell? ⟨b, k, none⟩ = some old) (hf : w.frozen? ⟨b, k, none⟩ = false)
    (hi : (P.info? ty).map (·.size) = some 1) (h1 : v.oneCell' = true) (h : ∀ w', Hid (w' = w.setCell ⟨b, k, none⟩ v) → wpList P ops Q rest (a.put o.dst undef) w') : wpList P ops Q (o :: rest) a w :=
  wpList_plain hg fun _ hK => by
    unfold Oper.wp execOp
    simp only [hop, hx, hy, Instr.storeAt, Instr.sureAddr, Sem.run_bind, Sem.run_pure, Result.andThen_ok, run_storeVar_cell w b k ty v old hc hf hi h1]
    exact hK _ _ (h _ (Lib.hid rfl))
end
end Nac
namespace Go.Proofs.Ytgeffkdobnipgaa
open Go.RowKit Nac Nac.Procs
theorem s1Int : (Try.prog.info? 3).map (·.size) = some 1 := by kernel_rfl
theorem s1I64 : (Try.prog.info? 2).map (·.size) = some 1 := by kernel_rfl
theorem s1Ints : (Try.prog.info? 28).map (·.size) = some 1 := by kernel_rfl
theorem s1Words : (Try.prog.info? 56).map (·.size) = some 1 := by kernel_rfl
theorem Try.infoIt : (Try.prog.info? 3).map (fun i => (i.zero, i.size, i.bytes)) = some (some (.int .i64 0), 1, 8) := by kernel_rfl
/-- what a call that changes the set leaves -/
def RetSet (w : World) (S : Nat) (A : Nat → Option Addr) (v : Value) (P' : PSet) (e : Ending) (w' : World) : Prop :=
  e = .returned v ∧ ∃ A' c', SetM w' S P' A' c' ∧ FrS S A w A' w'
theorem SetM.head (w : World) (S : Nat) (P : PSet) (A : Nat → Option Addr) (c : Nat → Nat) (h : SetM w S P A c) : w.cell? ⟨S, 2, none⟩ = some (.slice (A 2) P.ready.length (c 2)) := h.blk.cell rfl
theorem wake_calls (w : World) (S : Nat) (P : PSet) (A : Nat → Option Addr) (c : Nat → Nat) (h : SetM w S P A c) (h8 : P.ps.length ≤ 1000) (hr8 : P.ready.length ≤ 1000) (p : Nat) (hp : p < P.ps.length) :
    Calls Try.prog 25 #[.pointer (some ⟨S, 0, none⟩), .int .i64 (p : Int)] w (RetSet w S A (.tuple #[]) (wake P p)) := by
  obtain ⟨g, hA, hg, hf, hc⟩ := h.pcell hp
  have c0 : w.cell? ⟨S, 0, none⟩ = some (.slice (some ⟨g, 0, none⟩) P.ps.length (c 0)) := by rw [← hA]; exact h.blk.cell rfl
  have c1 := hc 1 _ rfl
  have f1 := hf (p * 8 + 1)
  have h1 := h.storeP hp (f := 1) (by decide) (.int .i64 1) { P.proc p with st := 1 } rfl hA
  have hfr : FrS S A w A (w.setCell ⟨g, p * 8 + 1, none⟩ (.int .i64 1)) := FrS.grown (grown_setCell _ _ _) fun k e => .inl (by injection e with e; rw [← e]; exact h.footP hA)
  obtain ⟨n, hn⟩ : ∃ n, n = P.ps.length := ⟨_, rfl⟩
  rw [← hn] at c0 hp h8
  have H1 := Lib.hid h1
  have HF := Lib.hid hfr
  have HC1 := Lib.hid c1
  have HF1 := Lib.hid f1
  clear h h1 hfr hA hg hf hc hn c1 f1
  go_enter Try.func25, Try.ntmps25
  go_wp2_with ((with_reducible show wpList _ _ _ (Oper.mk _ (Op.store _ _ _) _ _ _ _ :: _) _ _); refine wpList_store1 rfl 3 _ _ rfl g (p * 8 + 1) (.int .i64 1) _ rfl rfl HC1.out HF1.out s1Int rfl ?_)
  intro w1 hw1
  rw [← hw1.out] at H1 HF
  have c2 : w1.cell? ⟨S, 2, none⟩ = some (.slice (A 2) P.ready.length (c 2)) := H1.out.blk.cell rfl
  clear hw1 HC1 HF1 c0
  obtain ⟨n2, hn2⟩ : ∃ n2, n2 = P.ready.length := ⟨_, rfl⟩
  have HR : Hid (Row (w1.alloc (.cells #[.int .i64 (p : Int)] 3)) 3 1 (A 2) (c 2) n2 (nums P.ready)) := Lib.hid (by rw [hn2]; exact H1.out.rd.below ((Below.refl _ _).alloc (Nat.le_refl _) _))
  have HN2 := Lib.hid hn2
  rw [← hn2] at hr8 c2
  clear hn2
  have HS : Hid ((w1.alloc (.cells #[.int .i64 (p : Int)] 3)).cell? ⟨w1.heap.size, 0, none⟩ = some (.int .i64 (p : Int))) := Lib.hid (by rw [World.cell?_alloc_at _ _ _ _ rfl]; rfl)
  go_wp2_with (at_builtin; refine wpList_app_row Try.underlying28 Try.infoIt rfl (by decide) _ rfl _ _ rfl (A 2) (c 2) n2 (nums P.ready) rfl HR.out w1.heap.size _ (.int .i64 (p : Int)) rfl rfl HS.out (by omega) ?_)
  intro A2 c2' w2 hr2 hg2 hb2
  have hba : Below w1.heap.size w1 (w1.alloc (.cells #[.int .i64 (p : Int)] 3)) := (Below.refl _ _).alloc (Nat.le_refl _) _
  have hg12 : w1.grownBy w2 ((A 2).map (·.block)) := ⟨hg2.os, hg2.tape, hg2.output, Nat.le_trans hba.size hg2.size, fun k hk hne => (hg2.block k (Nat.lt_of_lt_of_le hk hba.size) hne).trans (hba.block k hk)⟩
  have hb12 : NewB w1 (A 2) A2 := by
    rcases hb2 with e | e
    · exact .inl e
    · exact .inr fun g hg => Nat.le_trans hba.size (e g hg)
  have hlen : (P.ready ++ [p]).length = n2 + 1 := by simp [HN2.out]
  have enm : nums (P.ready ++ [p]) = nums P.ready ++ [.int .i64 (p : Int)] := by simp [nums]
  have hq := H1.out.putReady (L := P.ready ++ [p]) (w' := w2) (A2 := A2) (c2 := c2') (by rw [hlen, enm]; exact hr2) hg12 hb12
  rw [hlen] at hq
  have HQ := Lib.hid hq
  have c3 : w2.cell? ⟨S, 2, none⟩ = some (.slice (A 2) n2 (c 2)) := (H1.out.blk.grown hg12 (H1.out.aps 2)).cell (by rw [HN2.out]; rfl)
  have f3 : w2.frozen? ⟨S, 2, none⟩ = false := (H1.out.blk.grown hg12 (H1.out.aps 2)).free 2
  clear enm hr2 hg2 hb2 hba hg12 hb12 hlen hq HR HS c2 H1
  go_wp2
  refine bodyPost_ret (v := .tuple #[]) (by simp [results, Try.results25, go_sem]) rfl ⟨rfl, _, _, HQ.out.1, HF.out.trans HQ.out.2⟩
end Go.Proofs.Ytgeffkdobnipgaa
/- slices.IndexFunc with the closures of procs. -/
namespace Go.Proofs.Ytgeffkdobnipgaa
open Go.RowKit Nac Nac.Procs
/-- without's closure: is it p? -/
theorem wo_pred (w : World) (B : Nat) (p x : Int) (h : w.cell? ⟨B, 0, none⟩ = some (.int .i64 p)) : Calls Try.prog 57 #[.int .i64 x, .pointer (some ⟨B, 0, none⟩)] w (RetBw w (x == p)) := by
  go_enter Try.func57, Try.ntmps57
  go_wp2
  go_ret
  exact ⟨rfl, rfl⟩
def idxOf (l : List Nat) (pr : Nat → Bool) : Int := match l.findIdx? pr with | none => -1 | some i => i
theorem index_wo (w : World) (B p : Nat) (A : Option Addr) (c : Nat) (l : List Nat) (h : w.cell? ⟨B, 0, none⟩ = some (.int .i64 (p : Int))) (hr : Row w 3 1 A c l.length (nums l)) (h8 : l.length ≤ 1000) :
    Calls Try.prog 26 #[.slice A l.length c, .func (.func 57) #[] #[.pointer (some ⟨B, 0, none⟩)]] w (RetIw w (idxOf l (fun q => q == p))) := by
  obtain ⟨n, hn⟩ : ∃ n, n = l.length := ⟨_, rfl⟩
  have HR := Lib.hid hr
  have HN := Lib.hid hn
  have HB := Lib.hid h
  rw [← hn] at h8 ⊢
  clear hr hn h
  go_enter Try.func26, Try.ntmps26
  go_wp2
  go_loop [5, 8] (fun _ i => ∃ k : Nat, k ≤ n ∧ i = .int .i64 k ∧ Hid (∀ j, j < k → l.getD j 0 ≠ p)) (fun _ i => n - (intOf i).toNat)
  case atStart => exact ⟨0, Nat.zero_le _, rfl, Lib.hid fun j hj => absurd hj (Nat.not_lt_zero j)⟩
  case round =>
    obtain ⟨k, hk, rfl, HK⟩ := hrel
    by_cases hlt : k < n
    · have hkl : k < (nums l).length := by simp [nums, ← HN.out, hlt]
      obtain ⟨g, hA, hg, hc, hf⟩ := HR.out.at hkl
      have hc' : w.cell? ⟨g, k, none⟩ = some (.int .i64 (l.getD k 0 : Nat)) := by
        rw [hc]; simp [nums, List.getD, (show k < l.length by rw [← HN.out]; exact hlt)]
      subst hA
      clear hc hf hg hkl
      obtain ⟨x, hx⟩ : ∃ x, x = l.getD k 0 := ⟨_, rfl⟩
      rw [← hx] at hc'
      have HX := Lib.hid hx
      clear hx
      go_wp2_with fail
      refine (wo_pred w B p x HB.out).mono ?_
      rintro e w1 ⟨rfl, rfl⟩
      by_cases he : x = p
      · have hb : ((x : Int) == (p : Int)) = true := by rw [he]; simp
        have HI : Hid (idxOf l (fun q => q == p) = k) := Lib.hid (by
          have hk' : k < l.length := by rw [← HN.out]; exact hlt
          have e2 : l.findIdx? (fun q => q == p) = some k := by
            rw [List.findIdx?_eq_some_iff_getElem]
            refine ⟨hk', ?_, fun j hj => ?_⟩
            · have : l.getD k 0 = l[k] := by simp [List.getD, hk']
              rw [← this, ← HX.out, he]; simp
            · have hjl : j < l.length := by omega
              have := HK.out j hj
              rw [show l.getD j 0 = l[j] by simp [List.getD, hjl]] at this
              simpa using this
          unfold idxOf
          rw [e2])
        rw [hb]
        clear hb he
        go_wp2
        go_ret
        exact ⟨by rw [HI.out]; rfl, rfl⟩
      · have hb : ((x : Int) == (p : Int)) = false := by simp; omega
        have HK' : Hid (∀ j, j < k + 1 → l.getD j 0 ≠ p) := Lib.hid fun j hj => by
          rcases Nat.lt_or_ge j k with h | h
          · exact HK.out j h
          · have : j = k := by omega
            subst this
            rw [← HX.out]; exact he
        rw [hb]
        clear hb he HK
        go_wp2
        go_round
        case rel => exact ⟨k + 1, by omega, by go_num, HK'⟩
        case measure => simp [intOf]; omega
    · have hkn : k = n := by omega
      have HI : Hid (idxOf l (fun q => q == p) = -1) := Lib.hid (by
        have e2 : l.findIdx? (fun q => q == p) = none := by
          rw [List.findIdx?_eq_none_iff]
          intro y hy
          obtain ⟨j, hj, rfl⟩ := List.getElem_of_mem hy
          have := HK.out j (by rw [hkn, HN.out]; exact hj)
          rw [show l.getD j 0 = l[j] by simp [List.getD, hj]] at this
          simpa using this
        unfold idxOf
        rw [e2])
      subst hkn
      clear HK
      go_wp2
      go_ret
      exact ⟨by rw [HI.out]; rfl, rfl⟩
end Go.Proofs.Ytgeffkdobnipgaa
/- procs: without, by slices.DeleteFunc. -/
namespace Nac
open Go Go.RowKit
theorem Row.setOut {e : TypeId} {c n g : Nat} {xs : List Value} : ∀ (vs : List Value) (o : Nat) {w : World}, Row w e 1 (some ⟨g, 0, none⟩) c n xs → n ≤ o → Row (w.setCells g o vs) e 1 (some ⟨g, 0, none⟩) c n xs
  | [], _, _, h, _ => h
  | v :: vs, o, w, h, ho => by
    rw [World.setCells]
    have h1 := h.set o v
    rw [List.set_eq_of_length_le (by rw [h.len]; omega)] at h1
    exact Row.setOut vs (o + 1) h1 (by omega)
end Nac
namespace Go.Proofs.Ytgeffkdobnipgaa
open Go.RowKit Nac Nac.Procs
theorem without_snoc (l : List Nat) (p j : Nat) (h : j < l.length) : without (l.take (j + 1)) p = without (l.take j) p ++ (if l[j] = p then [] else [l[j]]) := by
  rw [List.take_succ_eq_append_getElem h]
  unfold without
  rw [List.filter_append]
  congr 1
  by_cases e : l[j] = p <;> simp [e]
theorem without_none (l : List Nat) (p : Nat) (h : idxOf l (fun q => q == p) = -1) : without l p = l := by
  unfold idxOf at h
  cases hf : l.findIdx? (fun q => q == p) with
  | some i => rw [hf] at h; simp only at h; omega
  | none =>
    rw [List.findIdx?_eq_none_iff] at hf
    unfold without
    rw [List.filter_eq_self]
    intro x hx
    rw [hf x hx]; rfl
theorem idx_some (l : List Nat) (p : Nat) (h : idxOf l (fun q => q == p) ≠ -1) : ∃ i, i < l.length ∧ idxOf l (fun q => q == p) = i ∧ without (l.take (i + 1)) p = l.take i := by
  unfold idxOf at h ⊢
  cases hf : l.findIdx? (fun q => q == p) with
  | none => rw [hf] at h; exact absurd rfl h
  | some i =>
    obtain ⟨hi, h1, h2⟩ := List.findIdx?_eq_some_iff_getElem.1 hf
    refine ⟨i, hi, rfl, ?_⟩
    have h1 : l[i] = p := by simpa using h1
    rw [without_snoc l p i hi, if_pos h1, List.append_nil]
    unfold without
    rw [List.filter_eq_self]
    intro x hx
    obtain ⟨j, hj, rfl⟩ := List.getElem_of_mem hx
    have hji : j < i := by simp at hj; omega
    have := h2 j hji
    rw [List.getElem_take]
    simpa using this
def RetDel (w : World) (A : Option Addr) (c : Nat) (L : List Nat) (e : Ending) (w' : World) : Prop :=
  e = .returned (.slice A L.length c) ∧ Row w' 3 1 A c L.length (nums L) ∧ w.grownBy w' (A.map (·.block))
/-- while the row is rewritten -/
def DelRel (w0 : World) (B g c p : Nat) (l : List Nat) (s5 s6 : Value) (w : World) : Prop :=
  ∃ (i j : Nat) (M : List Nat), s5 = .int .i64 (i : Int) ∧ s6 = .int .i64 (j : Int) ∧ i < j ∧ j ≤ l.length ∧ M.length = l.length ∧ M.take i = without (l.take j) p ∧ M.drop j = l.drop j ∧ Row w 3 1 (some ⟨g, 0, none⟩) c l.length (nums M) ∧ w0.grownBy w (some g) ∧ w.cell? ⟨B, 0, none⟩ = some (.int .i64 (p : Int))
theorem nums_set (M : List Nat) (i x : Nat) : (nums M).set i (.int .i64 (x : Int)) = nums (M.set i x) := by simp [nums, List.map_set]
theorem nums_take (M : List Nat) (i : Nat) : (nums M).take i = nums (M.take i) := by simp [nums, List.map_take]
theorem nums_len (M : List Nat) : (nums M).length = M.length := by simp [nums]
theorem zeroInt (w : World) : (zeroValue 3).run Try.prog w = .ok (.int .i64 0) w := by kernel_rfl
theorem index_wo_n (w : World) (B p : Nat) (A : Option Addr) (c : Nat) (l : List Nat) (n : Nat) (hn : n = l.length) (h : w.cell? ⟨B, 0, none⟩ = some (.int .i64 (p : Int))) (hr : Row w 3 1 A c l.length (nums l)) (h8 : n ≤ 1000) :
    Calls Try.prog 26 #[.slice A n c, .func (.func 57) #[] #[.pointer (some ⟨B, 0, none⟩)]] w (RetIw w (idxOf l (fun q => q == p))) := by
  subst hn
  exact index_wo w B p A c l h hr h8
set_option maxRecDepth 100000 in
set_option maxHeartbeats 1000000 in
theorem delete_wo (w : World) (B p : Nat) (A : Option Addr) (c : Nat) (l : List Nat) (h : w.cell? ⟨B, 0, none⟩ = some (.int .i64 (p : Int))) (hr : Row w 3 1 A c l.length (nums l)) (hne : A.map (·.block) ≠ some B) (h8 : l.length ≤ 1000) :
    Calls Try.prog 56 #[.slice A l.length c, .func (.func 57) #[] #[.pointer (some ⟨B, 0, none⟩)]] w (RetDel w A c (without l p)) := by
  have HR := Lib.hid hr
  have HB := Lib.hid h
  by_cases hidx : idxOf l (fun q => q == p) = -1
  · have HI := Lib.hid hidx
    have HWN := Lib.hid (without_none l p hidx)
    clear hr h hidx
    go_enter Try.func56, Try.ntmps56
    go_wp2_with fail
    refine (index_wo w B p A c l HB.out HR.out h8).mono ?_
    rintro e w1 ⟨rfl, rfl⟩
    rw [HI.out]
    go_wp2
    go_ret
    unfold RetDel
    rw [HWN.out]
    exact ⟨rfl, HR.out, World.grownBy.refl w _⟩
  · obtain ⟨i0, hi0, hidx2, hw0⟩ := idx_some l p hidx
    have hpos : 0 < (nums l).length := by rw [nums_len]; omega
    obtain ⟨g, hA, hg, hc0, hf⟩ := hr.at hpos
    have hcap := hr.cap
    subst hA
    have hgB : g ≠ B := fun e => hne (by rw [e]; rfl)
    have HI := Lib.hid hidx2
    have HW0 := Lib.hid hw0
    obtain ⟨n, hn⟩ : ∃ n, n = l.length := ⟨_, rfl⟩
    have HN := Lib.hid hn
    have HF := Lib.hid hf
    have hi0n : i0 < n := by rw [hn]; exact hi0
    rw [← hn] at h8 hcap ⊢
    clear hc0 hr h hidx hidx2 hw0 hpos hn hf hi0 hne
    go_enter Try.func56, Try.ntmps56
    go_wp2_with fail
    refine (index_wo_n w B p (some ⟨g, 0, none⟩) c l n HN.out HB.out HR.out h8).mono ?_
    rintro e w1 ⟨rfl, rfl⟩
    rw [HI.out]
    have hi1 : ((i0 : Int) == -1) = false := by simp
    have H0 : Hid (DelRel w B g c p l (.int .i64 (i0 : Int)) (.int .i64 ((i0 + 1 : Nat) : Int)) w) := Lib.hid ⟨i0, i0 + 1, l, rfl, rfl, by omega, by rw [← HN.out]; omega, rfl, HW0.out.symm, rfl, HR.out, World.grownBy.refl w _, HB.out⟩
    go_wp2
    clear hi1
    go_loopw [5, 6] (fun s5 s6 wr => DelRel w B g c p l s5 s6 wr) (fun _ s6 _ => n - (intOf s6).toNat)
    case atStart => exact H0.out
    case round =>
      obtain ⟨i, j, M, rfl, rfl, hij, hjn, hM, hMt, hMd, hrow, hgr, hcB⟩ := hrel
      have hjn : j ≤ n := by rw [HN.out]; exact hjn
      have HROW := Lib.hid hrow
      have HGR := Lib.hid hgr
      have HCB := Lib.hid hcB
      have HM := Lib.hid hM
      have HMT := Lib.hid hMt
      have HMD := Lib.hid hMd
      by_cases hlt : j < n
      · have hjl : j < l.length := by rw [← HN.out]; exact hlt
        have hjM : j < M.length := by rw [hM]; exact hjl
        have hMj : M[j] = l[j] := by
          have e1 : (M.drop j)[0]? = (l.drop j)[0]? := by rw [hMd]
          simp at e1
          rw [List.getElem?_eq_getElem hjM, List.getElem?_eq_getElem hjl] at e1
          exact Option.some.inj e1
        obtain ⟨g1, hA1, _, hc1, _⟩ := hrow.at (j := j) (by rw [nums_len]; exact hjM)
        injection hA1 with hA1
        injection hA1 with hA1
        subst hA1
        have hc1' : wr.cell? ⟨g, j, none⟩ = some (.int .i64 (l[j] : Int)) := by rw [hc1]; simp [nums, hMj]
        obtain ⟨g2, hA2, _, hc2, hf2⟩ := hrow.at (j := i) (by rw [nums_len, hM, ← HN.out]; omega)
        injection hA2 with hA2
        injection hA2 with hA2
        subst hA2
        have hfi := hf2 i
        have hiM0 : i < M.length := by rw [hM, ← HN.out]; omega
        obtain ⟨y, hy⟩ : ∃ y : Int, wr.cell? ⟨g, i, none⟩ = some (.int .i64 y) := ⟨(M[i] : Int), by rw [hc2]; simp [nums]⟩
        clear hc2 hiM0
        have hsn := without_snoc l p j hjl
        obtain ⟨x, hx⟩ : ∃ x, x = l[j] := ⟨_, rfl⟩
        rw [← hx] at hc1' hsn hMj
        have HSN := Lib.hid hsn
        have HMJ := Lib.hid hMj
        clear hrow hgr hcB hM hMt hMd hc1 hx hsn hf2 hMj H0 HR HI HW0 HF
        go_wp2_with fail
        refine (wo_pred wr B p x HCB.out).mono ?_
        rintro e w1 ⟨rfl, rfl⟩
        by_cases he : x = p
        · have hb : ((x : Int) == (p : Int)) = true := by rw [he]; simp
          have HT : Hid (M.take i = without (l.take (j + 1)) p) := Lib.hid (by rw [HSN.out, if_pos he, List.append_nil]; exact HMT.out)
          have HDJ : Hid (M.drop (j + 1) = l.drop (j + 1)) := Lib.hid (by rw [← List.drop_drop, HMD.out, List.drop_drop])
          rw [hb]
          clear hb he HSN HMJ
          go_wp2
          go_roundw
          case rel => exact ⟨i, j + 1, M, rfl, by go_num, by omega, by rw [← HN.out]; omega, HM.out, HT.out, HDJ.out, HROW.out, HGR.out, HCB.out⟩
          case measure => simp [intOf]; omega
        · have hb : ((x : Int) == (p : Int)) = false := by simp; omega
          have hiM : i < M.length := by rw [HM.out, ← HN.out]; omega
          have HT : Hid ((M.set i x).take (i + 1) = without (l.take (j + 1)) p) := Lib.hid (by
            rw [HSN.out, if_neg he, ← HMT.out, List.take_succ_eq_append_getElem (by simpa using hiM), List.getElem_set_self, List.take_set_of_le (Nat.le_refl _)])
          have HDJ : Hid ((M.set i x).drop (j + 1) = l.drop (j + 1)) := Lib.hid (by rw [List.drop_set_of_lt (by omega), ← List.drop_drop, HMD.out, List.drop_drop])
          have HRS : Hid (Row (wr.setCell ⟨g, i, none⟩ (.int .i64 (x : Int))) 3 1 (some ⟨g, 0, none⟩) c l.length (nums (M.set i x))) := Lib.hid (by
            have := HROW.out.set i (.int .i64 (x : Int))
            rw [nums_set] at this
            exact this)
          have HGS : Hid (w.grownBy (wr.setCell ⟨g, i, none⟩ (.int .i64 (x : Int))) (some g)) := Lib.hid (HGR.out.trans (grown_setCell wr ⟨g, i, none⟩ _))
          have HBS : Hid ((wr.setCell ⟨g, i, none⟩ (.int .i64 (x : Int))).cell? ⟨B, 0, none⟩ = some (.int .i64 (p : Int))) := Lib.hid ((grown_setCell wr ⟨g, i, none⟩ (.int .i64 (x : Int))).cell HCB.out (fun e => hgB (by injection e with e; exact e.symm)))
          rw [hb]
          clear hb he HSN HMJ
          go_wp2
          go_roundw
          case rel => exact ⟨i + 1, j + 1, M.set i x, by go_num, by go_num, by omega, by rw [← HN.out]; omega, by rw [List.length_set]; exact HM.out, HT.out, HDJ.out, HRS.out, HGS.out, HBS.out⟩
          case measure => simp [intOf]; omega
      · have hjn2 : j = n := by omega
        subst hjn2
        have hMw : M.take i = without l p := by rw [hMt, List.take_of_length_le (by rw [← HN.out]; omega)]
        have hwl : (without l p).length = i := by rw [← hMw, List.length_take, hM, ← HN.out]; omega
        have HSH : Hid (Row wr 3 1 (some ⟨g, 0, none⟩) c i (nums (without l p))) := Lib.hid (by
          have := hrow.short i (by rw [← HN.out]; omega)
          rw [Nat.mul_one, nums_take, hMw] at this
          exact this)
        have hcl : ∀ ty, (Builtin.clear_ #[28] ty #[.slice (some ⟨g, i, none⟩) (j - i) (c - i)]).run Try.prog wr = .ok (.tuple #[]) (wr.setCells g i (List.replicate (j - i) (.int .i64 0))) := fun ty =>
          Lib.run_clear_slice wr 28 3 ty (.int .i64 0) Try.underlying28 zeroInt rfl rfl g i (j - i) (c - i) (by omega) (fun t ht => by
            obtain ⟨g1, hA1, _, hc1, _⟩ := hrow.at (j := i + t) (by rw [nums_len, hM, ← HN.out]; omega)
            injection hA1 with hA1
            injection hA1 with hA1
            rw [hA1, hc1]; rfl) (fun t ht => by
            obtain ⟨g1, hA1, _, _, hf1⟩ := hrow.at (j := i + t) (by rw [nums_len, hM, ← HN.out]; omega)
            injection hA1 with hA1
            injection hA1 with hA1
            rw [hA1]; exact hf1 _)
        have HWL := Lib.hid hwl
        clear hrow hgr hcB hM hMt hMd hMw hwl H0 HR HI HW0 HF HROW HM HMT HMD hlt
        have hic : i < c := by omega
        go_wp2
        go_ret
        unfold RetDel
        rw [HWL.out]
        exact ⟨rfl, HSH.out.setOut _ i (Nat.le_refl _), HGR.out.trans (by simpa using grown_setCells g (List.replicate (j - i) (.int .i64 0)) i wr)⟩
theorem without_calls (w : World) (p : Nat) (A : Option Addr) (c : Nat) (l : List Nat) (hr : Row w 3 1 A c l.length (nums l)) (h8 : l.length ≤ 1000) :
    Calls Try.prog 47 #[.slice A l.length c, .int .i64 (p : Int)] w (RetDel w A c (without l p)) := by
  have hmf : ∀ (fn : Fn) (first cap : Array Value) (w : World), (Instr.makeFunc fn first cap).run Try.prog w = .ok (.func fn first cap) w := fun _ _ _ _ => rfl
  have hb1 : Below w.heap.size w (w.alloc (.cells #[.int .i64 (p : Int)] 3)) := (Below.refl _ _).alloc (Nat.le_refl _) _
  have HR1 := Lib.hid (hr.below hb1)
  have HB1 : Hid ((w.alloc (.cells #[.int .i64 (p : Int)] 3)).cell? ⟨w.heap.size, 0, none⟩ = some (.int .i64 (p : Int))) := Lib.hid (by rw [World.cell?_alloc_at _ _ _ _ rfl]; rfl)
  have HNE : Hid (A.map (·.block) ≠ some w.heap.size) := Lib.hid fun e => by have := hr.lt _ e; omega
  have HBW := Lib.hid hb1
  clear hr hb1
  go_enter Try.func47, Try.ntmps47
  go_wp2_with fail
  refine (delete_wo _ w.heap.size p A c l HB1.out HR1.out HNE.out h8).mono ?_
  rintro e w2 ⟨rfl, hrow, hg⟩
  have HROW := Lib.hid hrow
  have HG := Lib.hid hg
  clear hrow hg
  go_wp2
  go_ret
  exact ⟨rfl, HROW.out, ⟨HG.out.os, HG.out.tape, HG.out.output, Nat.le_trans HBW.out.size HG.out.size, fun k hk hne => (HG.out.block k (Nat.lt_of_lt_of_le hk HBW.out.size) hne).trans (HBW.out.block k hk)⟩⟩
end Go.Proofs.Ytgeffkdobnipgaa
