/- Bundle 1 of the texts Com, Blk, Mono, Val, Struct, Tail, MonoV, TailM, App, Bytes, StoreB, Row, Cell1. -/
import Derived.WalkKit
import Derived.WalkLawsBesides
import Derived.WalkSpells
import Derived.Deep.AppendLies
import Derived.Deep.Draws
import Derived.Deep.MidRow
import Derived.Orders
import Derived.Shelf.Abstract
import Derived.Test.YtiebpmpjclnpeaaDoorProg
import Derived.Lib.Hide
import Derived.Maps.AppendAt
import Derived.Deep.OwnRows
import Derived.OneCell
/- Words of our own for bytes in memory, and small facts that the walks of this seat share. No program in sight. -/
namespace Nac
open Go Go.RowKit
/-- a byte as a cell -/
def bv (x : UInt8) : Value := .int .u8 (x.toNat : Int)
/-- the slice at A reads as the bytes l, below block B -/
def RB (w : World) (B : Nat) (A : Option Addr) (l : List UInt8) : Prop :=
  l ≠ [] → ∃ b o, A = some ⟨b, o, none⟩ ∧ b < B ∧ ∀ j (h : j < l.length), w.cell? ⟨b, o + j, none⟩ = some (.int .u8 ((l[j]).toNat : Int))
theorem RB.nil (w : World) (B : Nat) (A : Option Addr) : RB w B A [] := fun h => absurd rfl h
theorem RB.get {w : World} {B : Nat} {A : Option Addr} {l : List UInt8} (h : RB w B A l) {k : Nat} (hk : k < l.length) :
    ∃ b o, A = some ⟨b, o, none⟩ ∧ b < B ∧ w.cell? ⟨b, o + k, none⟩ = some (.int .u8 ((l[k]).toNat : Int)) := by
  obtain ⟨b, o, hA, hb, hc⟩ := h (by intro e; subst e; simp at hk)
  exact ⟨b, o, hA, hb, hc k hk⟩
theorem RB.keep {w w' : World} {B : Nat} {A : Option Addr} {l : List UInt8} (h : RB w B A l) (hk : ∀ p : Addr, p.block < B → w'.cell? p = w.cell? p) : RB w' B A l := fun hn => by
  obtain ⟨b, o, hA, hb, hc⟩ := h hn
  exact ⟨b, o, hA, hb, fun j hj => (hk _ hb).trans (hc j hj)⟩
theorem RB.below {w w' : World} {B : Nat} {A : Option Addr} {l : List UInt8} (h : RB w B A l) (hb : Below B w w') : RB w' B A l := h.keep fun _ hp => hb.cell hp
theorem RB.mono {w : World} {B B' : Nat} {A : Option Addr} {l : List UInt8} (h : RB w B A l) (hB : B ≤ B') : RB w B' A l := fun hn => by
  obtain ⟨b, o, hA, hb, hc⟩ := h hn
  exact ⟨b, o, hA, by omega, hc⟩
theorem RB.drop {w : World} {B b o : Nat} {l : List UInt8} (h : RB w B (some ⟨b, o, none⟩) l) (k : Nat) : RB w B (some ⟨b, o + k, none⟩) (l.drop k) := fun hn => by
  obtain ⟨b', o', hA, hb, hc⟩ := h (by rintro rfl; simp at hn)
  injection hA with hA
  injection hA with h1 h2
  subst h1
  subst h2
  refine ⟨b, o + k, rfl, hb, fun j hj => ?_⟩
  have := hc (k + j) (by simp at hj; omega)
  rw [List.getElem_drop, ← this, Nat.add_assoc]
theorem RB.take {w : World} {B : Nat} {A : Option Addr} {l : List UInt8} (h : RB w B A l) (k : Nat) : RB w B A (l.take k) := fun hn => by
  obtain ⟨b', o', hA, hb, hc⟩ := h (by rintro rfl; simp at hn)
  refine ⟨b', o', hA, hb, fun j hj => ?_⟩
  have := hc j (by simp at hj; omega)
  rw [List.getElem_take, ← this]
end Nac
/- A block that is known whole: its cells as a list; loads and stores in its midst. Over whatever program. -/
namespace Nac
open Go Go.RowKit
/-- block b holds the cells cs, and may be written -/
def Blk (w : World) (b : Nat) (cs : List Value) : Prop := ∃ t, w.heap[b]? = some (.cells cs.toArray t (0, 0))
section
variable {w w' : World} {b : Nat} {cs : List Value}
theorem Blk.lt (h : Blk w b cs) : b < w.heap.size := by
  obtain ⟨t, h⟩ := h
  exact (Array.getElem?_eq_some_iff.1 h).1
theorem Blk.cell (h : Blk w b cs) {j : Nat} {v : Value} (hj : cs[j]? = some v) : w.cell? ⟨b, j, none⟩ = some v := by
  obtain ⟨t, h⟩ := h
  rw [cell_of_row w b j _ t (0, 0) h]
  simpa using hj
theorem Blk.free (h : Blk w b cs) (j : Nat) : w.frozen? ⟨b, j, none⟩ = false := by
  obtain ⟨t, h⟩ := h
  exact frozen_of_row w b j _ t h
theorem Blk.keep (h : Blk w b cs) (hk : w'.heap[b]? = w.heap[b]?) : Blk w' b cs := by
  obtain ⟨t, h⟩ := h
  exact ⟨t, hk.trans h⟩
theorem Blk.grown (h : Blk w b cs) {row : Option Nat} (hg : w.grownBy w' row) (hne : row ≠ some b) : Blk w' b cs := h.keep (hg.block b h.lt (fun e => hne e.symm))
theorem Blk.below {B : Nat} (h : Blk w b cs) (hb : Below B w w') (hB : b < B) : Blk w' b cs := h.keep (hb.block b hB)
theorem Blk.drew (h : Blk w b cs) : Blk w.drew b cs := h
theorem Blk.alloc (h : Blk w b cs) (o : Obj) : Blk (w.alloc o) b cs := h.keep (Below.heap_alloc w o b h.lt)
theorem Blk.new (w : World) (cs : List Value) (t : TypeId) : Blk (w.alloc (.cells cs.toArray t)) w.heap.size cs := ⟨t, heap_alloc_new w _⟩
theorem Blk.setCell (h : Blk w b cs) (j : Nat) (v : Value) : Blk (w.setCell ⟨b, j, none⟩ v) b (cs.set j v) := by
  obtain ⟨t, h⟩ := h
  exact ⟨t, by rw [heap_setCell_same w b j _ t v h]; simp⟩
theorem Blk.setCells : ∀ (vs : List Value) (o : Nat) {w : World} {cs : List Value}, Blk w b cs → o + vs.length ≤ cs.length → Blk (w.setCells b o vs) b (cs.take o ++ vs ++ cs.drop (o + vs.length))
  | [], o, w, cs, h, _ => by simpa [World.setCells] using h
  | v :: vs, o, w, cs, h, hl => by
    rw [World.setCells]
    have hl' : o + 1 + vs.length ≤ cs.length := by simp at hl; omega
    have := Blk.setCells vs (o + 1) (h.setCell o v) (by simpa using hl')
    have e : (cs.set o v).take (o + 1) ++ vs ++ (cs.set o v).drop (o + 1 + vs.length) = cs.take o ++ (v :: vs) ++ cs.drop (o + (v :: vs).length) := by
      rw [List.take_succ_eq_append_getElem (by simp; omega), List.getElem_set_self, List.take_set_of_le (by omega), List.drop_set_of_lt (by omega)]
      simp [Nat.add_assoc, Nat.add_comm 1]
    rw [e] at this
    exact this
theorem Blk.range (h : Blk w b cs) (o : Nat) (vs : List Value) (hv : ∃ pre post, cs = pre ++ vs ++ post ∧ pre.length = o) : w.rangeAt b o vs := by
  obtain ⟨pre, post, rfl, rfl⟩ := hv
  intro j v hj
  refine h.cell ?_
  have hj' : j < vs.length := (List.getElem?_eq_some_iff.1 hj).1
  rw [List.append_assoc, List.getElem?_append_right (by omega), Nat.add_sub_cancel_left, List.getElem?_append_left hj']
  exact hj
theorem Blk.there (h : Blk w b cs) (o n : Nat) (hl : o + n ≤ cs.length) : w.there b o n := fun j hj => by
  have hlt : o + j < cs.length := by omega
  exact ⟨by rw [h.cell (List.getElem?_eq_getElem hlt)]; rfl, h.free _⟩
end
theorem grown_setCell (w : World) (a : Addr) (v : Value) : w.grownBy (w.setCell a v) (some a.block) :=
  ⟨rfl, rfl, rfl, by simp [World.setCell], fun k _ hk => heap_setCell_other w a k v (fun e => hk (by simp [e]))⟩
theorem grown_setCells (b : Nat) : ∀ (vs : List Value) (o : Nat) (w : World), w.grownBy (w.setCells b o vs) (some b)
  | [], _, w => World.grownBy.refl w _
  | v :: vs, o, w => by
    rw [World.setCells]
    exact (grown_setCell w ⟨b, o, none⟩ v).trans (grown_setCells b vs (o + 1) _)
theorem grown_drew {w w' : World} {row : Option Nat} (h : w.grownBy w' row) : w.grownBy w'.drew row := ⟨h.os, h.tape, h.output, h.size, h.block⟩
theorem grown_of_drew {w w' : World} {row : Option Nat} (h : w.drew.grownBy w' row) : w.grownBy w' row := ⟨h.os, h.tape, h.output, h.size, h.block⟩
theorem grown_none {w w' : World} {row : Option Nat} (h : w.grownBy w' none) : w.grownBy w' row := ⟨h.os, h.tape, h.output, h.size, fun k hk _ => h.block k hk (by simp)⟩
/-- lists of rows of one length -/
theorem flatten_len (n : Nat) (L : List (List Value)) (h : ∀ x ∈ L, x.length = n) : L.flatten.length = n * L.length := by
  induction L with
  | nil => simp
  | cons x L ih =>
    rw [List.flatten_cons, List.length_append, ih (fun y hy => h y (List.mem_cons_of_mem _ hy)), h x List.mem_cons_self, List.length_cons, Nat.mul_succ, Nat.add_comm]
theorem flatten_set (n : Nat) (L : List (List Value)) (h : ∀ x ∈ L, x.length = n) (s : Nat) (hs : s < L.length) (x : List Value) (hx : x.length = n) :
    L.flatten.take (n * s) ++ x ++ L.flatten.drop (n * s + n) = (L.set s x).flatten := by
  have h1 : L = L.take s ++ L[s] :: L.drop (s + 1) := by rw [List.getElem_cons_drop, List.take_append_drop]
  have h2 : L.set s x = L.take s ++ x :: L.drop (s + 1) := by rw [List.set_eq_take_append_cons_drop, if_pos hs]
  have hl : (L.take s).flatten.length = n * s := by
    rw [flatten_len n _ (fun y hy => h y (List.mem_of_mem_take hy)), List.length_take, Nat.min_eq_left (by omega)]
  have hm : L[s].length = n := h _ (List.getElem_mem hs)
  have e : L.flatten = (L.take s).flatten ++ (L[s] ++ (L.drop (s + 1)).flatten) := by
    have h3 := congrArg List.flatten h1
    rwa [List.flatten_append, List.flatten_cons] at h3
  rw [h2, e, List.flatten_append, List.flatten_cons, ← hl, List.take_left, List.drop_append, List.drop_of_length_le (by omega), Nat.add_sub_cancel_left, List.nil_append, ← hm, List.drop_left, List.append_assoc]
theorem flatten_at (n : Nat) (L : List (List Value)) (h : ∀ x ∈ L, x.length = n) (s : Nat) (hs : s < L.length) : ∃ pre post, L.flatten = pre ++ L[s] ++ post ∧ pre.length = n * s := by
  have h1 : L = L.take s ++ L[s] :: L.drop (s + 1) := by rw [List.getElem_cons_drop, List.take_append_drop]
  refine ⟨(L.take s).flatten, (L.drop (s + 1)).flatten, ?_, ?_⟩
  · have h3 := congrArg List.flatten h1
    rw [List.flatten_append, List.flatten_cons] at h3
    rw [List.append_assoc]
    exact h3
  · rw [flatten_len n _ (fun y hy => h y (List.mem_of_mem_take hy)), List.length_take, Nat.min_eq_left (by omega)]
end Nac
/- A region that draws its order, of which no result hangs on the order: each operation keeps what the others have left, for memory only grows. One proof an operation, whatever the order. Over whatever program. -/
namespace Nac
open Go Go.RowKit
/-- what is known of a slot's value -/
inductive VD where
  | is (v : Value)
  | pr (p : Value → World → Prop) (hm : ∀ v w w', p v w → Below w.heap.size w w' → p v w')
def VD.ok : VD → Value → World → Prop
  | .is u, v, _ => v = u
  | .pr p _, v, w => p v w
theorem VD.mono (d : VD) (v : Value) (w w' : World) (h : d.ok v w) (hb : Below w.heap.size w w') : d.ok v w' := by
  cases d with
  | is u => exact h
  | pr p hm => exact hm v w w' h hb
def dstOf (ops : Array Oper) (i : Nat) : Option Tmp := (ops[i]?).bind (·.dst)
/-- the operations that must have come ahead of operation i -/
def preds (ops : Array Oper) : Nat → Nat → List Nat
  | 0, _ => []
  | n + 1, i => match ops[i]? with
    | none => []
    | some o => (o.after.toList.filter fun e => Region.binds .any e).flatMap fun e => e.on :: preds ops n e.on
/-- slot t still holds, when operation i is run, what it held at first -/
def origB (ops : Array Oper) (i t : Nat) : Bool := (List.range ops.size).all fun k => dstOf ops k != some t || (preds ops 3 k).contains i
def distinctB (ops : Array Oper) (n : Nat) : Bool := (List.range ops.size).all fun i => (match dstOf ops i with | none => true | some d => decide (d < n)) && (List.range ops.size).all fun j => i == j || dstOf ops i == none || dstOf ops i != dstOf ops j
section
variable {P : Program} {ops : Array Oper} {Q : Exit → Act → World → Prop} {D : Nat → VD} {a0 : Act} {W0 : World}
structure MCtx (ops : Array Oper) (D : Nat → VD) (a0 : Act) (W0 : World) (i : Nat) (a : Act) (w : World) : Prop where
  below : Below W0.heap.size W0 w
  tsize : a.tmps.size = a0.tmps.size
  pred : ∀ k d, k ∈ preds ops 3 i → dstOf ops k = some d → (D k).ok (a.tmps.getD d undef) w
  orig : ∀ t, origB ops i t = true → a.tmps.getD t undef = a0.tmps.getD t undef
def MStep (P : Program) (ops : Array Oper) (Q : Exit → Act → World → Prop) (D : Nat → VD) (a0 : Act) (W0 : World) (i : Nat) : Prop :=
  ∀ o, ops[i]? = some o → ∀ a w, MCtx ops D a0 W0 i a w →
    if Region.wanted o (yielded ops a.tmps) = true then o.wp P a w (fun a' w' => ∃ v, a' = a.put o.dst v ∧ (D i).ok v w' ∧ Below w.heap.size w w') Q else (D i).ok undef w
structure MInv (ops : Array Oper) (D : Nat → VD) (a0 : Act) (W0 : World) (listed : Array Bool) (a : Act) (w : World) : Prop where
  size : listed.size = ops.size
  below : Below W0.heap.size W0 w
  defers : a.defers = a0.defers
  tsize : a.tmps.size = a0.tmps.size
  closed : ∀ i o, ops[i]? = some o → listed.getD i false = true → ∀ e ∈ o.after, Region.binds .any e = true → listed.getD e.on false = true
  done : ∀ i d, listed.getD i false = true → dstOf ops i = some d → (D i).ok (a.tmps.getD d undef) w
  rest : ∀ t, (∀ i, listed.getD i false = true → dstOf ops i ≠ some t) → a.tmps.getD t undef = a0.tmps.getD t undef
theorem preds_closed {listed : Array Bool} (hc : ∀ i o, ops[i]? = some o → listed.getD i false = true → ∀ e ∈ o.after, Region.binds .any e = true → listed.getD e.on false = true) :
    ∀ (n i : Nat), (∀ o, ops[i]? = some o → ∀ e ∈ o.after, Region.binds .any e = true → listed.getD e.on false = true) → ∀ k ∈ preds ops n i, listed.getD k false = true := by
  intro n
  induction n with
  | zero => intro i _ k hk; simp [preds] at hk
  | succ n ih =>
    intro i hi k hk
    unfold preds at hk
    cases ho : ops[i]? with
    | none => simp [ho] at hk
    | some o =>
      simp only [ho, List.mem_flatMap, List.mem_filter, Array.mem_toList_iff] at hk
      obtain ⟨e, ⟨he, hb⟩, hk⟩ := hk
      have h1 := hi o ho e he hb
      rcases List.mem_cons.1 hk with rfl | hk
      · exact h1
      · exact ih e.on (fun o' ho' e' he' hb' => hc e.on o' ho' h1 e' he' hb') k hk
theorem getD_setIf (l : Array Bool) (i j : Nat) (h : i < l.size) : (l.setIfInBounds i true).getD j false = if i = j then true else l.getD j false := by
  simp only [Array.getD_eq_getD_getElem?, Array.getElem?_setIfInBounds]
  by_cases e : i = j
  · subst e; simp [h]
  · simp [e]
theorem getD_put (t : Array Value) (d k : Nat) (v : Value) (h : d < t.size) : (t.setIfInBounds d v).getD k undef = if d = k then v else t.getD k undef := by
  simp only [Array.getD_eq_getD_getElem?, Array.getElem?_setIfInBounds]
  by_cases e : d = k
  · subst e; simp [h]
  · simp [e]
theorem mono_put {listed : Array Bool} {a : Act} {w w' : World} {i : Nat} {o : Oper} (hI : MInv ops D a0 W0 listed a w) (hi : i < ops.size) (ho : ops[i]? = some o)
    (hd : distinctB ops a0.tmps.size = true) (hready : ∀ e ∈ o.after, Region.binds .any e = true → listed.getD e.on false = true) {v : Value} (hv : (D i).ok v w') (hb : Below w.heap.size w w') : MInv ops D a0 W0 (listed.setIfInBounds i true) (a.put o.dst v) w' := by
  have hs : i < listed.size := by rw [hI.size]; exact hi
  have hdo : dstOf ops i = o.dst := by simp [dstOf, ho]
  have hdist : ∀ x y d, x < ops.size → y < ops.size → dstOf ops x = some d → (d < a0.tmps.size) ∧ (dstOf ops y = some d → x = y) := by
    intro x y d hx hy hxd
    unfold distinctB at hd
    rw [List.all_eq_true] at hd
    have h1 := hd x (by simpa using hx)
    rw [Bool.and_eq_true, List.all_eq_true] at h1
    obtain ⟨h1, h2⟩ := h1
    have h2 := h2 y (by simpa using hy)
    rw [hxd] at h1 h2
    refine ⟨by simpa using h1, fun hyd => ?_⟩
    rw [hyd] at h2
    simpa using h2
  have hin : ∀ k d, dstOf ops k = some d → k < ops.size := by
    intro k d hk
    rcases Nat.lt_or_ge k ops.size with h | h
    · exact h
    · simp [dstOf, Array.getElem?_eq_none h] at hk
  have hput : ∀ t, (a.put o.dst v).tmps.getD t undef = if o.dst = some t then v else a.tmps.getD t undef := by
    intro t
    cases hod : o.dst with
    | none => simp [Act.put]
    | some d =>
      have hlt := (hdist i i d hi hi (by rw [hdo, hod])).1
      simp only [Act.put]
      rw [getD_put _ _ _ _ (by rw [hI.tsize]; exact hlt)]
      simp
  refine ⟨by simpa using hI.size, hI.below.trans (hb.mono hI.below.size), ?_, ?_, ?_, ?_, ?_⟩
  · cases o.dst <;> simpa [Act.put] using hI.defers
  · cases o.dst <;> simpa [Act.put] using hI.tsize
  · intro j oj hj hl e he hbind
    rw [getD_setIf _ _ _ hs] at hl ⊢
    by_cases hx : i = e.on
    · simp [hx]
    · rw [if_neg hx]
      by_cases hij : i = j
      · subst hij
        rw [ho] at hj
        obtain rfl := Option.some.inj hj
        exact hready e he hbind
      · rw [if_neg hij] at hl
        exact hI.closed j oj hj hl e he hbind
  · intro j d hl hjd
    rw [getD_setIf _ _ _ hs] at hl
    rw [hput]
    by_cases hij : i = j
    · subst hij
      rw [hdo] at hjd
      rw [if_pos hjd]
      exact hv
    · rw [if_neg hij] at hl
      rw [if_neg (fun h => hij ((hdist i j d hi (hin j d hjd) (by rw [hdo]; exact h)).2 hjd))]
      exact VD.mono _ _ _ _ (hI.done j d hl hjd) hb
  · intro t ht
    have h1 : o.dst ≠ some t := by
      have := ht i (by rw [getD_setIf _ _ _ hs]; simp)
      rwa [hdo] at this
    rw [hput, if_neg h1]
    refine hI.rest t fun j hl => ht j ?_
    rw [getD_setIf _ _ _ hs]
    split
    · rfl
    · exact hl
def falses (l : Array Bool) : Nat := (l.toList.filter (! ·)).length
theorem falses_list : ∀ (xs : List Bool) (i : Nat), xs[i]? = some false → ((xs.set i true).filter (! ·)).length + 1 = (xs.filter (! ·)).length := by
  intro xs
  induction xs with
  | nil => intro i h; simp at h
  | cons x xs ih =>
    intro i h
    cases i with
    | zero =>
      simp only [List.getElem?_cons_zero, Option.some.injEq] at h
      subst h
      simp
    | succ i =>
      simp only [List.getElem?_cons_succ] at h
      have := ih i h
      cases x <;> simp <;> omega
theorem falses_set (l : Array Bool) (i : Nat) (h : i < l.size) (hf : l.getD i false = false) : falses (l.setIfInBounds i true) + 1 = falses l := by
  unfold falses
  rw [Array.toList_setIfInBounds]
  refine falses_list _ _ ?_
  rw [Array.getElem?_toList, Array.getElem?_eq_getElem h]
  rw [Array.getD_eq_getD_getElem?, Array.getElem?_eq_getElem h] at hf
  simpa using hf
theorem falses_zero (l : Array Bool) (h : falses l = 0) (i : Nat) (hi : i < l.size) : l.getD i false = true := by
  unfold falses at h
  rw [List.length_eq_zero_iff, List.filter_eq_nil_iff] at h
  rw [Array.getD_eq_getD_getElem?, Array.getElem?_eq_getElem hi]
  have := h l[i] (by simp)
  simpa using this
def backB (ops : Array Oper) : Bool := (List.range ops.size).all fun i => match ops[i]? with | none => true | some o => o.after.all fun e => !Region.binds .any e || decide (e.on < i)
theorem ready_of {listed : Array Bool} {i : Nat} (h : i ∈ Region.ready .any ops listed) (hs : listed.size = ops.size) : i < ops.size ∧ listed.getD i false = false ∧ ∃ o, ops[i]? = some o ∧ ∀ e ∈ o.after, Region.binds .any e = true → listed.getD e.on false = true := by
  unfold Region.ready at h
  rw [List.mem_filter] at h
  obtain ⟨h1, h2⟩ := h
  have hi : i < ops.size := by simpa using h1
  have ho : ops[i]? = some ops[i] := Array.getElem?_eq_getElem hi
  rw [ho] at h2
  rw [Bool.and_eq_true] at h2
  obtain ⟨h2, h3⟩ := h2
  refine ⟨hi, ?_, ops[i], ho, fun e he hb => ?_⟩
  · have hsz : i < listed.size := by omega
    rw [Array.getD_eq_getD_getElem?, Array.getElem?_eq_getElem hsz] at h2 ⊢
    simpa using h2
  · simp only [Option.map_some, Option.getD_some] at h3
    rw [Array.all_eq_true_iff_forall_mem] at h3
    have := h3 e he
    rw [hb] at this
    simpa using this
theorem ready_ex {listed : Array Bool} (hb : backB ops = true) (hs : listed.size = ops.size) : ∀ i, i < ops.size → listed.getD i false = false → Region.ready .any ops listed ≠ [] := by
  intro i
  induction i using Nat.strongRecOn with
  | ind i ih =>
    intro hi hf
    by_cases hall : ∀ e ∈ ops[i].after, Region.binds .any e = true → listed.getD e.on false = true
    · have : i ∈ Region.ready .any ops listed := by
        unfold Region.ready
        rw [List.mem_filter]
        refine ⟨by simpa using hi, ?_⟩
        rw [Array.getElem?_eq_getElem hi, Bool.and_eq_true]
        constructor
        · have hsz : i < listed.size := by omega
          rw [Array.getD_eq_getD_getElem?, Array.getElem?_eq_getElem hsz] at hf ⊢
          simpa using hf
        · simp only [Option.map_some, Option.getD_some]
          rw [Array.all_eq_true_iff_forall_mem]
          intro e he
          cases hx : Region.binds .any e
          · simp
          · simpa using hall e he hx
      intro h
      rw [h] at this
      cases this
    · simp only [Classical.not_forall] at hall
      obtain ⟨e, he, hbd, hl⟩ := hall
      unfold backB at hb
      rw [List.all_eq_true] at hb
      have h1 := hb i (by simpa using hi)
      rw [Array.getElem?_eq_getElem hi] at h1
      simp only at h1
      rw [Array.all_eq_true_iff_forall_mem] at h1
      have h2 := h1 e he
      rw [hbd] at h2
      have hlt : e.on < i := by simpa using h2
      exact ih e.on hlt (by omega) (by simpa using hl)
theorem mono_any (hd : distinctB ops a0.tmps.size = true) (hbk : backB ops = true)
    (step : ∀ i, i < ops.size → MStep P ops Q D a0 W0 i)
    (fin : ∀ a w, Below W0.heap.size W0 w → a.defers = a0.defers → a.tmps.size = a0.tmps.size → (∀ i d, dstOf ops i = some d → (D i).ok (a.tmps.getD d undef) w) → (∀ t, (∀ i, dstOf ops i ≠ some t) → a.tmps.getD t undef = a0.tmps.getD t undef) → Q .normal a w) :
    ∀ (fuel : Nat) (listed : Array Bool) (a : Act) (w : World), falses listed ≤ fuel → MInv ops D a0 W0 listed a w → wpAny P .any ops Q fuel listed a w := by
  have hfin : ∀ (listed : Array Bool) (a : Act) (w : World), (∀ i, i < ops.size → listed.getD i false = true) → MInv ops D a0 W0 listed a w → Q .normal a w := by
    intro listed a w hall hI
    refine fin a w hI.below hI.defers hI.tsize (fun i d h => hI.done i d (hall i ?_) h) (fun t ht => hI.rest t fun i _ => ht i)
    rcases Nat.lt_or_ge i ops.size with h' | h'
    · exact h'
    · simp [dstOf, Array.getElem?_eq_none h'] at h
  have hnil : ∀ (listed : Array Bool), listed.size = ops.size → Region.ready .any ops listed = [] → ∀ i, i < ops.size → listed.getD i false = true := by
    intro listed hs hr i hi
    cases hf : listed.getD i false
    · exact absurd hr (ready_ex hbk hs i hi hf)
    · rfl
  intro fuel
  induction fuel with
  | zero =>
    intro listed a w hf hI
    have hall : ∀ i, i < ops.size → listed.getD i false = true := fun i hi => falses_zero listed (by omega) i (by rw [hI.size]; exact hi)
    refine ⟨?_, hfin listed a w hall hI⟩
    apply List.eq_nil_iff_forall_not_mem.2
    intro i hi
    obtain ⟨h1, h2, _⟩ := ready_of hi hI.size
    rw [hall i h1] at h2
    cases h2
  | succ fuel ih =>
    intro listed a w hf hI
    refine ⟨fun hr => hfin listed a w (hnil listed hI.size hr) hI, fun i hi => ?_⟩
    obtain ⟨h1, h2, o, ho, hready⟩ := ready_of hi hI.size
    have hctx : MCtx ops D a0 W0 i a w := by
      have hpc := preds_closed hI.closed 3 i (fun o' ho' => by rw [ho] at ho'; obtain rfl := Option.some.inj ho'; exact hready)
      refine ⟨hI.below, hI.tsize, fun k d hk hkd => hI.done k d (hpc k hk) hkd, fun t ht => hI.rest t fun k hl hkd => ?_⟩
      unfold origB at ht
      rw [List.all_eq_true] at ht
      have hk : k < ops.size := by
        rcases Nat.lt_or_ge k ops.size with h | h
        · exact h
        · simp [dstOf, Array.getElem?_eq_none h] at hkd
      have h3 := ht k (by simpa using hk)
      rw [hkd] at h3
      simp only [bne_self_eq_false, Bool.false_or, List.contains_iff_mem] at h3
      have := preds_closed hI.closed 3 k (fun o' ho' e he hb' => hI.closed k o' ho' hl e he hb') i h3
      rw [h2] at this
      cases this
    have hs := step i h1 o ho a w hctx
    have hfl : falses (listed.setIfInBounds i true) ≤ fuel := by
      have := falses_set listed i (by rw [hI.size]; exact h1) h2
      omega
    unfold wpOp
    rw [ho]
    simp only
    split
    · rename_i hw
      rw [if_pos hw] at hs
      refine Or.inl (Oper.wp_mono ?_ hs)
      rintro a' w' ⟨v, rfl, hv, hb⟩
      exact ih _ _ _ hfl (mono_put hI h1 ho hd hready hv hb)
    · rename_i hw
      rw [if_neg hw] at hs
      exact ih _ _ _ hfl (mono_put hI h1 ho hd hready hs (Below.refl _ _))
/-- THE LAW: a region that draws, of operations that only let memory grow -/
theorem region_mono {id : Nat} {a0 : Act} {w0 : World} (D : Nat → VD) (hm : P.follows .mixedOrders = true) (hd : distinctB ops a0.tmps.size = true) (hbk : backB ops = true)
    (step : ∀ i, i < ops.size → MStep P ops Q D a0 w0.drew i)
    (fin : ∀ a w, Below w0.heap.size w0 w → a.defers = a0.defers → a.tmps.size = a0.tmps.size → (∀ i d, dstOf ops i = some d → (D i).ok (a.tmps.getD d undef) w) → (∀ t, (∀ i, dstOf ops i ≠ some t) → a.tmps.getD t undef = a0.tmps.getD t undef) → Q .normal a w) :
    (Code.region id ops true).wp P Q a0 w0 := by
  refine wp_region_any hm ?_
  have hg : ∀ i, (Array.replicate ops.size false).getD i false = false := by
    intro i
    rw [Array.getD_eq_getD_getElem?, Array.getElem?_replicate]
    split <;> rfl
  refine mono_any (D := D) (a0 := a0) (W0 := w0.drew) hd hbk step (fun a w hb => fin a w ⟨hb.os, hb.tape, hb.output, hb.size, hb.block⟩) _ _ _ _ ?_ ⟨by simp, Below.refl _ _, rfl, rfl, fun i o _ h => (by rw [hg] at h; cases h), fun i d h => (by rw [hg] at h; cases h), fun _ _ => rfl⟩
  unfold falses
  simp
/-! ### one operation -/
variable {i : Nat} {o : Oper}
theorem mwant_none (hg : o.guard = none) : ∀ a w, MCtx ops D a0 W0 i a w → Region.wanted o (yielded ops a.tmps) = true := fun _ _ _ => by simp [Region.wanted, hg]
theorem mwant (j : Nat) (want : Bool) (d : Tmp) (hg : o.guard = some (j, want)) (hj : (preds ops 3 i).contains j = true) (hdj : dstOf ops j = some d) (hD : D j = .is (.bool want)) (hlt : decide (d < a0.tmps.size) = true) :
    ∀ a w, MCtx ops D a0 W0 i a w → Region.wanted o (yielded ops a.tmps) = true := fun a w c => by
  have hsz := c.tsize
  have h := c.pred j d (by simpa using hj) hdj
  rw [hD] at h
  have h : a.tmps.getD d undef = .bool want := h
  have hlt : d < a.tmps.size := by rw [hsz]; simpa using hlt
  have hy : yielded ops a.tmps j = some want := by
    unfold yielded
    have hdj' : (ops[j]?).bind (·.dst) = some d := hdj
    rw [hdj']
    rw [Array.getD_eq_getD_getElem?, Array.getElem?_eq_getElem hlt] at h
    simp only [Option.getD_some] at h
    simp [Array.getElem?_eq_getElem hlt, h]
  simp [Region.wanted, hg, hy]
theorem mstep_val (ho : ops[i]? = some o) (hw : ∀ a w, MCtx ops D a0 W0 i a w → Region.wanted o (yielded ops a.tmps) = true)
    (h : ∀ a w, MCtx ops D a0 W0 i a w → ∃ v w', (execOp a.eval o).run P w = .ok (.value v) w' ∧ (D i).ok v w' ∧ Below w.heap.size w w') : MStep P ops Q D a0 W0 i := by
  intro o' ho' a w c
  rw [ho] at ho'
  obtain rfl := Option.some.inj ho'
  rw [if_pos (hw a w c)]
  obtain ⟨v, w', hr, hv, hb⟩ := h a w c
  unfold Oper.wp
  rw [hr]
  exact ⟨v, rfl, hv, hb⟩
/-- one that leaves the world as it is -/
theorem mstep_pure (ho : ops[i]? = some o) (hw : ∀ a w, MCtx ops D a0 W0 i a w → Region.wanted o (yielded ops a.tmps) = true)
    (h : ∀ a w, MCtx ops D a0 W0 i a w → ∃ v, (execOp a.eval o).run P w = .ok (.value v) w ∧ (D i).ok v w) : MStep P ops Q D a0 W0 i :=
  mstep_val ho hw fun a w c => let ⟨v, h1, h2⟩ := h a w c; ⟨v, w, h1, h2, Below.refl _ _⟩
theorem mstep_copy (ho : ops[i]? = some o) (hw : ∀ a w, MCtx ops D a0 W0 i a w → Region.wanted o (yielded ops a.tmps) = true) (t : Tmp) (hop : o.op = .move (.tmp t) ∨ o.op = .assign (.tmp t))
    (k : Nat) (hk : (preds ops 3 i).contains k = true) (hkd : dstOf ops k = some t) (hD : D i = D k) : MStep P ops Q D a0 W0 i :=
  mstep_pure ho hw fun a w c => ⟨a.tmps.getD t undef, by rcases hop with h | h <;> simp [execOp, h, Act.eval], by rw [hD]; exact c.pred k t (by simpa using hk) hkd⟩
theorem mstep_first (ho : ops[i]? = some o) (hw : ∀ a w, MCtx ops D a0 W0 i a w → Region.wanted o (yielded ops a.tmps) = true) (t : Tmp) (hop : o.op = .move (.tmp t) ∨ o.op = .assign (.tmp t))
    (ht : origB ops i t = true) (hD : ∀ w, Below W0.heap.size W0 w → (D i).ok (a0.tmps.getD t undef) w) : MStep P ops Q D a0 W0 i :=
  mstep_pure ho hw fun a w c => ⟨a.tmps.getD t undef, by rcases hop with h | h <;> simp [execOp, h, Act.eval], by rw [c.orig t ht]; exact hD w c.below⟩
theorem mstep_const (ho : ops[i]? = some o) (hw : ∀ a w, MCtx ops D a0 W0 i a w → Region.wanted o (yielded ops a.tmps) = true) (v : Value) (hop : o.op = .move (.const v) ∨ o.op = .assign (.const v)) (hD : D i = .is v) : MStep P ops Q D a0 W0 i :=
  mstep_pure ho hw fun a w _ => ⟨v, by rcases hop with h | h <;> simp [execOp, h, Act.eval], by rw [hD]; rfl⟩
theorem mstep_pick (ho : ops[i]? = some o) (hw : ∀ a w, MCtx ops D a0 W0 i a w → Region.wanted o (yielded ops a.tmps) = true) (tc tx : Tmp) (y : Operand) (hop : o.op = .pick (.tmp tc) (.tmp tx) y)
    (kc kx : Nat) (hkc : (preds ops 3 i).contains kc = true) (hkx : (preds ops 3 i).contains kx = true) (hc : dstOf ops kc = some tc) (hx : dstOf ops kx = some tx) (hDc : D kc = .is (.bool true)) (hD : D i = D kx) : MStep P ops Q D a0 W0 i :=
  mstep_pure ho hw fun a w c => by
    have h1 := c.pred kc tc (by simpa using hkc) hc
    rw [hDc] at h1
    have h1 : a.tmps.getD tc undef = .bool true := h1
    have h2 := c.pred kx tx (by simpa using hkx) hx
    rw [← hD] at h2
    refine ⟨a.tmps.getD tx undef, ?_, h2⟩
    simp [execOp, hop, Act.eval, h1, asBool]
theorem mstep_call (ho : ops[i]? = some o) (hw : ∀ a w, MCtx ops D a0 W0 i a w → Region.wanted o (yielded ops a.tmps) = true) (f : FuncId) (args : Array Operand) (ts : Array TypeId)
    (hop : o.op = .call { callee := .value (.func f), args := args, argTypes := ts }) (he : ∀ vs w, (callFunc f vs).run P w = .ok (.enter f vs) w)
    (h : ∀ a w, MCtx ops D a0 W0 i a w → Calls P f (args.map a.eval) w fun e w' => ∃ v, e = .returned v ∧ (D i).ok v w' ∧ Below w.heap.size w w') : MStep P ops Q D a0 W0 i := by
  intro o' ho' a w c
  rw [ho] at ho'
  obtain rfl := Option.some.inj ho'
  rw [if_pos (hw a w c)]
  have hr : (execOp a.eval o).run P w = .ok (.enter f (args.map a.eval)) w := by
    simp [execOp, hop, resolve, Deferred.ofValue, Act.eval, invoke, he]
  unfold Oper.wp
  rw [hr]
  refine (h a w c).mono ?_
  rintro e w' ⟨v, rfl, hv, hb⟩
  exact ⟨v, rfl, hv, hb⟩
theorem mstep_call0 (ho : ops[i]? = some o) (hw : ∀ a w, MCtx ops D a0 W0 i a w → Region.wanted o (yielded ops a.tmps) = true) (f : FuncId) (ts : Array TypeId)
    (hop : o.op = .call { callee := .value (.func f), args := #[], argTypes := ts }) (he : ∀ vs w, (callFunc f vs).run P w = .ok (.enter f vs) w)
    (h : ∀ w, Below W0.heap.size W0 w → Calls P f #[] w fun e w' => ∃ v, e = .returned v ∧ (D i).ok v w' ∧ Below w.heap.size w w') : MStep P ops Q D a0 W0 i :=
  mstep_call ho hw f #[] ts hop he fun a w c => by
    have e : (#[] : Array Operand).map a.eval = #[] := by simp
    rw [e]
    exact h w c.below
theorem mstep_call1 (ho : ops[i]? = some o) (hw : ∀ a w, MCtx ops D a0 W0 i a w → Region.wanted o (yielded ops a.tmps) = true) (f : FuncId) (x : Tmp) (ts : Array TypeId)
    (hop : o.op = .call { callee := .value (.func f), args := #[.tmp x], argTypes := ts }) (he : ∀ vs w, (callFunc f vs).run P w = .ok (.enter f vs) w)
    (kx : Nat) (hkx : (preds ops 3 i).contains kx = true) (hx : dstOf ops kx = some x)
    (h : ∀ v w, Below W0.heap.size W0 w → (D kx).ok v w → Calls P f #[v] w fun e w' => ∃ v, e = .returned v ∧ (D i).ok v w' ∧ Below w.heap.size w w') : MStep P ops Q D a0 W0 i :=
  mstep_call ho hw f #[.tmp x] ts hop he fun a w c => by
    have e : (#[Operand.tmp x]).map a.eval = #[a.tmps.getD x undef] := by simp [Act.eval]
    rw [e]
    exact h _ w c.below (c.pred kx x (by simpa using hkx) hx)
theorem mstep_call2 (ho : ops[i]? = some o) (hw : ∀ a w, MCtx ops D a0 W0 i a w → Region.wanted o (yielded ops a.tmps) = true) (f : FuncId) (x y : Tmp) (ts : Array TypeId)
    (hop : o.op = .call { callee := .value (.func f), args := #[.tmp x, .tmp y], argTypes := ts }) (he : ∀ vs w, (callFunc f vs).run P w = .ok (.enter f vs) w)
    (kx ky : Nat) (hkx : (preds ops 3 i).contains kx = true) (hky : (preds ops 3 i).contains ky = true) (hx : dstOf ops kx = some x) (hy : dstOf ops ky = some y)
    (h : ∀ v u w, Below W0.heap.size W0 w → (D kx).ok v w → (D ky).ok u w → Calls P f #[v, u] w fun e w' => ∃ v, e = .returned v ∧ (D i).ok v w' ∧ Below w.heap.size w w') : MStep P ops Q D a0 W0 i :=
  mstep_call ho hw f #[.tmp x, .tmp y] ts hop he fun a w c => by
    have e : (#[Operand.tmp x, Operand.tmp y]).map a.eval = #[a.tmps.getD x undef, a.tmps.getD y undef] := by simp [Act.eval]
    rw [e]
    exact h _ _ w c.below (c.pred kx x (by simpa using hkx) hx) (c.pred ky y (by simpa using hky) hy)
theorem mstep_bin (ho : ops[i]? = some o) (hw : ∀ a w, MCtx ops D a0 W0 i a w → Region.wanted o (yielded ops a.tmps) = true) (op : BinOp) (T T' : TypeId) (x y : Tmp) (hop : o.op = .binOp op T (.tmp x) (.tmp y) T')
    (kx ky : Nat) (hkx : (preds ops 3 i).contains kx = true) (hky : (preds ops 3 i).contains ky = true) (hx : dstOf ops kx = some x) (hy : dstOf ops ky = some y) (vx vy r : Value) (hDx : D kx = .is vx) (hDy : D ky = .is vy) (hD : D i = .is r)
    (hv : ∀ w, (do eqGuard op T (.tmp x) (.tmp y) vx vy; binOp op T vx vy : Sem Value).run P w = .ok r w) : MStep P ops Q D a0 W0 i :=
  mstep_pure ho hw fun a w c => by
    have h1 := c.pred kx x (by simpa using hkx) hx
    rw [hDx] at h1
    have h1 : a.tmps.getD x undef = vx := h1
    have h2 := c.pred ky y (by simpa using hky) hy
    rw [hDy] at h2
    have h2 : a.tmps.getD y undef = vy := h2
    refine ⟨r, ?_, by rw [hD]; rfl⟩
    have h3 := hv w
    simp only [execOp, hop, Act.eval, h1, h2]
    rw [Sem.run_bind, h3]
    rfl
theorem mstep_binc (ho : ops[i]? = some o) (hw : ∀ a w, MCtx ops D a0 W0 i a w → Region.wanted o (yielded ops a.tmps) = true) (op : BinOp) (T T' : TypeId) (x : Tmp) (vy : Value) (hop : o.op = .binOp op T (.tmp x) (.const vy) T')
    (kx : Nat) (hkx : (preds ops 3 i).contains kx = true) (hx : dstOf ops kx = some x) (vx r : Value) (hDx : D kx = .is vx) (hD : D i = .is r)
    (hv : ∀ w, (do eqGuard op T (.tmp x) (.const vy) vx vy; binOp op T vx vy : Sem Value).run P w = .ok r w) : MStep P ops Q D a0 W0 i :=
  mstep_pure ho hw fun a w c => by
    have h1 := c.pred kx x (by simpa using hkx) hx
    rw [hDx] at h1
    have h1 : a.tmps.getD x undef = vx := h1
    refine ⟨r, ?_, by rw [hD]; rfl⟩
    have h3 := hv w
    simp only [execOp, hop, Act.eval, h1]
    rw [Sem.run_bind, h3]
    rfl
/-- whatever reads one slot -/
theorem mstep_one (ho : ops[i]? = some o) (hw : ∀ a w, MCtx ops D a0 W0 i a w → Region.wanted o (yielded ops a.tmps) = true) (x : Tmp)
    (kx : Nat) (hkx : (preds ops 3 i).contains kx = true) (hx : dstOf ops kx = some x)
    (h : ∀ (a : Act) w, (D kx).ok (a.tmps.getD x undef) w → ∃ v, (execOp a.eval o).run P w = .ok (.value v) w ∧ (D i).ok v w) : MStep P ops Q D a0 W0 i :=
  mstep_pure ho hw fun a w c => h a w (c.pred kx x (by simpa using hkx) hx)
end
end Nac
/- A region that draws its order, with calls that write: of each operation what its slot holds, and of the world what holds while just some of the operations have been run. One proof an operation, whatever the order. Over whatever program. -/
namespace Nac
open Go Go.RowKit
def upd (L : Nat → Bool) (i : Nat) : Nat → Bool := fun k => if k = i then true else L k
section
variable {P : Program} {ops : Array Oper} {Q : Exit → Act → World → Prop} {D : Nat → Value → Prop} {J : (Nat → Bool) → World → Prop} {a0 : Act}
structure VCtx (ops : Array Oper) (D : Nat → Value → Prop) (J : (Nat → Bool) → World → Prop) (a0 : Act) (i : Nat) (L : Nat → Bool) (a : Act) (w : World) : Prop where
  world : J L w
  tsize : a.tmps.size = a0.tmps.size
  fresh : L i = false
  ahead : ∀ k, k ∈ preds ops 3 i → L k = true
  pred : ∀ k d, k ∈ preds ops 3 i → dstOf ops k = some d → D k (a.tmps.getD d undef)
  orig : ∀ t, origB ops i t = true → a.tmps.getD t undef = a0.tmps.getD t undef
def VStep (P : Program) (ops : Array Oper) (Q : Exit → Act → World → Prop) (D : Nat → Value → Prop) (J : (Nat → Bool) → World → Prop) (a0 : Act) (i : Nat) : Prop :=
  ∀ o, ops[i]? = some o → ∀ L a w, VCtx ops D J a0 i L a w →
    if Region.wanted o (yielded ops a.tmps) = true then o.wp P a w (fun a' w' => ∃ v, a' = a.put o.dst v ∧ D i v ∧ J (upd L i) w') Q else D i undef ∧ J (upd L i) w
structure VInv (ops : Array Oper) (D : Nat → Value → Prop) (J : (Nat → Bool) → World → Prop) (a0 : Act) (listed : Array Bool) (a : Act) (w : World) : Prop where
  size : listed.size = ops.size
  world : J (fun i => listed.getD i false) w
  defers : a.defers = a0.defers
  tsize : a.tmps.size = a0.tmps.size
  closed : ∀ i o, ops[i]? = some o → listed.getD i false = true → ∀ e ∈ o.after, Region.binds .any e = true → listed.getD e.on false = true
  done : ∀ i d, listed.getD i false = true → dstOf ops i = some d → D i (a.tmps.getD d undef)
  rest : ∀ t, (∀ i, listed.getD i false = true → dstOf ops i ≠ some t) → a.tmps.getD t undef = a0.tmps.getD t undef
theorem upd_listed (listed : Array Bool) (i : Nat) (h : i < listed.size) : (fun k => (listed.setIfInBounds i true).getD k false) = upd (fun k => listed.getD k false) i := by
  funext k
  rw [getD_setIf _ _ _ h]
  unfold upd
  by_cases e : i = k
  · rw [if_pos e, if_pos e.symm]
  · rw [if_neg e, if_neg (Ne.symm e)]
theorem val_put {listed : Array Bool} {a : Act} {w w' : World} {i : Nat} {o : Oper} (hI : VInv ops D J a0 listed a w) (hi : i < ops.size) (ho : ops[i]? = some o)
    (hd : distinctB ops a0.tmps.size = true) (hready : ∀ e ∈ o.after, Region.binds .any e = true → listed.getD e.on false = true) {v : Value} (hv : D i v) (hb : J (upd (fun k => listed.getD k false) i) w') : VInv ops D J a0 (listed.setIfInBounds i true) (a.put o.dst v) w' := by
  have hs : i < listed.size := by rw [hI.size]; exact hi
  have hdo : dstOf ops i = o.dst := by simp [dstOf, ho]
  have hdist : ∀ x y d, x < ops.size → y < ops.size → dstOf ops x = some d → (d < a0.tmps.size) ∧ (dstOf ops y = some d → x = y) := by
    intro x y d hx hy hxd
    unfold distinctB at hd
    rw [List.all_eq_true] at hd
    have h1 := hd x (by simpa using hx)
    rw [Bool.and_eq_true, List.all_eq_true] at h1
    obtain ⟨h1, h2⟩ := h1
    have h2 := h2 y (by simpa using hy)
    rw [hxd] at h1 h2
    refine ⟨by simpa using h1, fun hyd => ?_⟩
    rw [hyd] at h2
    simpa using h2
  have hin : ∀ k d, dstOf ops k = some d → k < ops.size := by
    intro k d hk
    rcases Nat.lt_or_ge k ops.size with h | h
    · exact h
    · simp [dstOf, Array.getElem?_eq_none h] at hk
  have hput : ∀ t, (a.put o.dst v).tmps.getD t undef = if o.dst = some t then v else a.tmps.getD t undef := by
    intro t
    cases hod : o.dst with
    | none => simp [Act.put]
    | some d =>
      have hlt := (hdist i i d hi hi (by rw [hdo, hod])).1
      simp only [Act.put]
      rw [getD_put _ _ _ _ (by rw [hI.tsize]; exact hlt)]
      simp
  refine ⟨by simpa using hI.size, by rw [upd_listed _ _ hs]; exact hb, ?_, ?_, ?_, ?_, ?_⟩
  · cases o.dst <;> simpa [Act.put] using hI.defers
  · cases o.dst <;> simpa [Act.put] using hI.tsize
  · intro j oj hj hl e he hbind
    rw [getD_setIf _ _ _ hs] at hl ⊢
    by_cases hx : i = e.on
    · simp [hx]
    · rw [if_neg hx]
      by_cases hij : i = j
      · subst hij
        rw [ho] at hj
        obtain rfl := Option.some.inj hj
        exact hready e he hbind
      · rw [if_neg hij] at hl
        exact hI.closed j oj hj hl e he hbind
  · intro j d hl hjd
    rw [getD_setIf _ _ _ hs] at hl
    rw [hput]
    by_cases hij : i = j
    · subst hij
      rw [hdo] at hjd
      rw [if_pos hjd]
      exact hv
    · rw [if_neg hij] at hl
      rw [if_neg (fun h => hij ((hdist i j d hi (hin j d hjd) (by rw [hdo]; exact h)).2 hjd))]
      exact hI.done j d hl hjd
  · intro t ht
    have h1 : o.dst ≠ some t := by
      have := ht i (by rw [getD_setIf _ _ _ hs]; simp)
      rwa [hdo] at this
    rw [hput, if_neg h1]
    refine hI.rest t fun j hl => ht j ?_
    rw [getD_setIf _ _ _ hs]
    split
    · rfl
    · exact hl
theorem val_any (hd : distinctB ops a0.tmps.size = true) (hbk : backB ops = true)
    (step : ∀ i, i < ops.size → VStep P ops Q D J a0 i)
    (fin : ∀ L a w, (∀ i, i < ops.size → L i = true) → J L w → a.defers = a0.defers → a.tmps.size = a0.tmps.size → (∀ i d, dstOf ops i = some d → D i (a.tmps.getD d undef)) → (∀ t, (∀ i, dstOf ops i ≠ some t) → a.tmps.getD t undef = a0.tmps.getD t undef) → Q .normal a w) :
    ∀ (fuel : Nat) (listed : Array Bool) (a : Act) (w : World), falses listed ≤ fuel → VInv ops D J a0 listed a w → wpAny P .any ops Q fuel listed a w := by
  have hfin : ∀ (listed : Array Bool) (a : Act) (w : World), (∀ i, i < ops.size → listed.getD i false = true) → VInv ops D J a0 listed a w → Q .normal a w := by
    intro listed a w hall hI
    refine fin _ a w hall hI.world hI.defers hI.tsize (fun i d h => hI.done i d (hall i ?_) h) (fun t ht => hI.rest t fun i _ => ht i)
    rcases Nat.lt_or_ge i ops.size with h' | h'
    · exact h'
    · simp [dstOf, Array.getElem?_eq_none h'] at h
  have hnil : ∀ (listed : Array Bool), listed.size = ops.size → Region.ready .any ops listed = [] → ∀ i, i < ops.size → listed.getD i false = true := by
    intro listed hs hr i hi
    cases hf : listed.getD i false
    · exact absurd hr (ready_ex hbk hs i hi hf)
    · rfl
  intro fuel
  induction fuel with
  | zero =>
    intro listed a w hf hI
    have hall : ∀ i, i < ops.size → listed.getD i false = true := fun i hi => falses_zero listed (by omega) i (by rw [hI.size]; exact hi)
    refine ⟨?_, hfin listed a w hall hI⟩
    apply List.eq_nil_iff_forall_not_mem.2
    intro i hi
    obtain ⟨h1, h2, _⟩ := ready_of hi hI.size
    rw [hall i h1] at h2
    cases h2
  | succ fuel ih =>
    intro listed a w hf hI
    refine ⟨fun hr => hfin listed a w (hnil listed hI.size hr) hI, fun i hi => ?_⟩
    obtain ⟨h1, h2, o, ho, hready⟩ := ready_of hi hI.size
    have hctx : VCtx ops D J a0 i (fun k => listed.getD k false) a w := by
      have hpc := preds_closed hI.closed 3 i (fun o' ho' => by rw [ho] at ho'; obtain rfl := Option.some.inj ho'; exact hready)
      refine ⟨hI.world, hI.tsize, h2, hpc, fun k d hk hkd => hI.done k d (hpc k hk) hkd, fun t ht => hI.rest t fun k hl hkd => ?_⟩
      unfold origB at ht
      rw [List.all_eq_true] at ht
      have hk : k < ops.size := by
        rcases Nat.lt_or_ge k ops.size with h | h
        · exact h
        · simp [dstOf, Array.getElem?_eq_none h] at hkd
      have h3 := ht k (by simpa using hk)
      rw [hkd] at h3
      simp only [bne_self_eq_false, Bool.false_or, List.contains_iff_mem] at h3
      have := preds_closed hI.closed 3 k (fun o' ho' e he hb' => hI.closed k o' ho' hl e he hb') i h3
      rw [h2] at this
      cases this
    have hs := step i h1 o ho _ a w hctx
    have hfl : falses (listed.setIfInBounds i true) ≤ fuel := by
      have := falses_set listed i (by rw [hI.size]; exact h1) h2
      omega
    unfold wpOp
    rw [ho]
    simp only
    split
    · rename_i hw
      rw [if_pos hw] at hs
      refine Or.inl (Oper.wp_mono ?_ hs)
      rintro a' w' ⟨v, rfl, hv, hb⟩
      exact ih _ _ _ hfl (val_put hI h1 ho hd hready hv hb)
    · rename_i hw
      rw [if_neg hw] at hs
      exact ih _ _ _ hfl (val_put hI h1 ho hd hready hs.1 hs.2)
/-- THE LAW -/
theorem region_val {id : Nat} {a0 : Act} {w0 : World} (D : Nat → Value → Prop) (J : (Nat → Bool) → World → Prop) (hm : P.follows .mixedOrders = true) (hd : distinctB ops a0.tmps.size = true) (hbk : backB ops = true)
    (h0 : J (fun _ => false) w0.drew)
    (step : ∀ i, i < ops.size → VStep P ops Q D J a0 i)
    (fin : ∀ L a w, (∀ i, i < ops.size → L i = true) → J L w → a.defers = a0.defers → a.tmps.size = a0.tmps.size → (∀ i d, dstOf ops i = some d → D i (a.tmps.getD d undef)) → (∀ t, (∀ i, dstOf ops i ≠ some t) → a.tmps.getD t undef = a0.tmps.getD t undef) → Q .normal a w) :
    (Code.region id ops true).wp P Q a0 w0 := by
  refine wp_region_any hm ?_
  have hg : ∀ i, (Array.replicate ops.size false).getD i false = false := by
    intro i
    rw [Array.getD_eq_getD_getElem?, Array.getElem?_replicate]
    split <;> rfl
  refine val_any (D := D) (J := J) (a0 := a0) hd hbk step fin _ _ _ _ ?_ ⟨by simp, ?_, rfl, rfl, fun i o _ h => (by rw [hg] at h; cases h), fun i d h => (by rw [hg] at h; cases h), fun _ _ => rfl⟩
  · unfold falses
    simp
  · rw [show (fun i => (Array.replicate ops.size false).getD i false) = fun _ => false from funext hg]
    exact h0
/-- the frame behind such a region, where each slot's value is known -/
def putsL : List (Option Tmp × Value) → Act → Act
  | [], a => a
  | (d, v) :: r, a => putsL r (a.put d v)
theorem put_size (a : Act) (d : Option Tmp) (v : Value) : (a.put d v).tmps.size = a.tmps.size := by cases d <;> simp [Act.put]
theorem put_defers (a : Act) (d : Option Tmp) (v : Value) : (a.put d v).defers = a.defers := by cases d <;> simp [Act.put]
theorem putsL_size : ∀ (l : List (Option Tmp × Value)) (a : Act), (putsL l a).tmps.size = a.tmps.size
  | [], _ => rfl
  | (d, v) :: r, a => by rw [putsL, putsL_size r, put_size]
theorem putsL_defers : ∀ (l : List (Option Tmp × Value)) (a : Act), (putsL l a).defers = a.defers
  | [], _ => rfl
  | (d, v) :: r, a => by rw [putsL, putsL_defers r, put_defers]
theorem putsL_get (t : Nat) (u : Value) : ∀ (l : List (Option Tmp × Value)) (a : Act), t < a.tmps.size → (∀ x ∈ l, x.1 = some t → u = x.2) → ((∀ x ∈ l, x.1 ≠ some t) → a.tmps.getD t undef = u) → (putsL l a).tmps.getD t undef = u
  | [], a, _, _, h => h (fun x hx => by cases hx)
  | (d, v) :: r, a, ht, hl, h => by
    rw [putsL]
    refine putsL_get t u r (a.put d v) (by rw [put_size]; exact ht) (fun x hx => hl x (List.mem_cons_of_mem _ hx)) fun hr => ?_
    by_cases hd : d = some t
    · subst hd
      simp only [Act.put]
      rw [getD_put _ _ _ _ ht, if_pos rfl]
      exact (hl _ List.mem_cons_self rfl).symm
    · have e : (a.put d v).tmps.getD t undef = a.tmps.getD t undef := by
        cases d with
        | none => rfl
        | some d' =>
          simp only [Act.put]
          by_cases hlt : d' < a.tmps.size
          · rw [getD_put _ _ _ _ hlt, if_neg (fun e => hd (by rw [e]))]
          · rw [Array.setIfInBounds_eq_of_size_le (Nat.le_of_not_lt hlt)]
      rw [e]
      refine h fun x hx => ?_
      rcases List.mem_cons.1 hx with rfl | hx
      · exact hd
      · exact hr x hx
theorem putsL_eq {a : Act} {l : List (Option Tmp × Value)} (hde : a.defers = a0.defers) (hts : a.tmps.size = a0.tmps.size)
    (hd : ∀ x ∈ l, ∀ t, x.1 = some t → a.tmps.getD t undef = x.2) (hr : ∀ t, (∀ x ∈ l, x.1 ≠ some t) → a.tmps.getD t undef = a0.tmps.getD t undef) : a = putsL l a0 := by
  obtain ⟨tm, df⟩ := a
  have h1 := putsL_size l a0
  have h2 := putsL_defers l a0
  have h3 : ∀ t, t < a0.tmps.size → (putsL l a0).tmps.getD t undef = tm.getD t undef := fun t ht => putsL_get t _ l a0 ht (fun x hx e => hd x hx t e) (fun h => (hr t h).symm)
  obtain ⟨p, hp⟩ : ∃ p, p = putsL l a0 := ⟨_, rfl⟩
  rw [← hp] at h1 h2 h3 ⊢
  clear hp
  obtain ⟨tm', df'⟩ := p
  simp only at h1 h2 h3 hde hts
  subst hde
  subst h2
  congr 1
  apply Array.ext (by omega)
  intro i g1 g2
  have := h3 i (by omega)
  rw [Array.getD_eq_getD_getElem?, Array.getD_eq_getD_getElem?, Array.getElem?_eq_getElem g1, Array.getElem?_eq_getElem g2] at this
  exact this.symm
/-- THE LAW, where each operation's value is known -/
theorem region_vals {id : Nat} {a0 : Act} {w0 : World} (V : List Value) (ds : List (Option Tmp)) (J : (Nat → Bool) → World → Prop) (hm : P.follows .mixedOrders = true) (hd : distinctB ops a0.tmps.size = true) (hbk : backB ops = true)
    (hds : ops.toList.map (·.dst) = ds) (hV : V.length = ds.length)
    (h0 : J (fun _ => false) w0.drew)
    (step : ∀ i, i < ops.size → VStep P ops Q (fun i v => v = V.getD i undef) J a0 i)
    (fin : ∀ L w, (∀ i, i < ops.size → L i = true) → J L w → Q .normal (putsL (ds.zip V) a0) w) :
    (Code.region id ops true).wp P Q a0 w0 := by
  refine region_val (fun i v => v = V.getD i undef) J hm hd hbk h0 step fun L a w hall hJ hde hts hs hr => ?_
  have hdi : ∀ i, i < ops.size → dstOf ops i = (ds[i]?).join := by
    intro i hi
    rw [← hds, List.getElem?_map, Array.getElem?_toList]
    unfold dstOf
    cases ops[i]? <;> rfl
  have hsz : ops.size = ds.length := by rw [← hds]; simp
  have e := putsL_eq (a0 := a0) (a := a) (l := ds.zip V) hde hts ?_ ?_
  · rw [e]
    exact fin L w hall hJ
  · intro x hx t ht
    obtain ⟨i, hi⟩ := List.mem_iff_getElem?.1 hx
    obtain ⟨h1, h2⟩ := List.getElem?_zip_eq_some.1 hi
    have hil : i < ops.size := by rw [hsz]; exact (List.getElem?_eq_some_iff.1 h1).1
    have := hs i t (by rw [hdi i hil, h1]; exact ht)
    rw [this, List.getD_eq_getElem?_getD, h2]
    rfl
  · intro t ht
    refine hr t fun i hdt => ?_
    have hil : i < ops.size := by
      rcases Nat.lt_or_ge i ops.size with h | h
      · exact h
      · simp [dstOf, Array.getElem?_eq_none h] at hdt
    rw [hdi i hil] at hdt
    have h1 : i < ds.length := by omega
    have h2 : i < V.length := by omega
    rw [List.getElem?_eq_getElem h1] at hdt
    exact ht (ds[i], V[i]) (List.mem_iff_getElem?.2 ⟨i, List.getElem?_zip_eq_some.2 ⟨List.getElem?_eq_getElem h1, List.getElem?_eq_getElem h2⟩⟩) hdt
theorem VCtx.slot {i : Nat} {L : Nat → Bool} {a : Act} {w : World} (c : VCtx ops D J a0 i L a w) (k x : Nat) (hk : (preds ops 3 i).contains k = true) (hx : dstOf ops k = some x) : D k (a.tmps.getD x undef) :=
  c.pred k x (by simpa using hk) hx
/-! ### one operation -/
variable {i : Nat} {o : Oper}
theorem vwant_none (hg : o.guard = none) : ∀ L a w, VCtx ops D J a0 i L a w → Region.wanted o (yielded ops a.tmps) = true := fun _ _ _ _ => by simp [Region.wanted, hg]
theorem vwant (j : Nat) (want : Bool) (d : Tmp) (hg : o.guard = some (j, want)) (hj : (preds ops 3 i).contains j = true) (hdj : dstOf ops j = some d) (hD : ∀ v, D j v → v = .bool want) (hlt : decide (d < a0.tmps.size) = true) :
    ∀ L a w, VCtx ops D J a0 i L a w → Region.wanted o (yielded ops a.tmps) = true := fun L a w c => by
  have hsz := c.tsize
  have h := hD _ (c.pred j d (by simpa using hj) hdj)
  have hlt : d < a.tmps.size := by rw [hsz]; simpa using hlt
  have hy : yielded ops a.tmps j = some want := by
    unfold yielded
    have hdj' : (ops[j]?).bind (·.dst) = some d := hdj
    rw [hdj']
    rw [Array.getD_eq_getD_getElem?, Array.getElem?_eq_getElem hlt] at h
    simp only [Option.getD_some] at h
    simp [Array.getElem?_eq_getElem hlt, h]
  simp [Region.wanted, hg, hy]
/-- the guard says no -/
theorem vstep_unwanted (ho : ops[i]? = some o) (j : Nat) (want : Bool) (d : Tmp) (hg : o.guard = some (j, want)) (hj : (preds ops 3 i).contains j = true) (hdj : dstOf ops j = some d) (hD : ∀ v, D j v → v = .bool (!want) ∨ v = undef) (hlt : decide (d < a0.tmps.size) = true)
    (hu : D i undef) (hJ : ∀ L w, J L w → J (upd L i) w) : VStep P ops Q D J a0 i := by
  intro o' ho' L a w c
  rw [ho] at ho'
  obtain rfl := Option.some.inj ho'
  have hsz := c.tsize
  have h := hD _ (c.pred j d (by simpa using hj) hdj)
  have hlt : d < a.tmps.size := by rw [hsz]; simpa using hlt
  have hy : Region.wanted o (yielded ops a.tmps) = false := by
    have hy : yielded ops a.tmps j = some (!want) ∨ yielded ops a.tmps j = none := by
      unfold yielded
      have hdj' : (ops[j]?).bind (·.dst) = some d := hdj
      rw [hdj']
      rw [Array.getD_eq_getD_getElem?, Array.getElem?_eq_getElem hlt] at h
      simp only [Option.getD_some] at h
      rcases h with h | h
      · left; simp [Array.getElem?_eq_getElem hlt, h]
      · right; simp [Array.getElem?_eq_getElem hlt, h, undef]
    rcases hy with hy | hy
    · cases want <;> simp [Region.wanted, hg, hy]
    · simp [Region.wanted, hg, hy]
  rw [if_neg (by rw [hy]; simp)]
  exact ⟨hu, hJ _ _ c.world⟩
/-- one that leaves the world as it is -/
theorem vstep_pure (ho : ops[i]? = some o) (hw : ∀ L a w, VCtx ops D J a0 i L a w → Region.wanted o (yielded ops a.tmps) = true) (hJ : ∀ L w, J L w → J (upd L i) w)
    (h : ∀ L a w, VCtx ops D J a0 i L a w → ∃ v, (execOp a.eval o).run P w = .ok (.value v) w ∧ D i v) : VStep P ops Q D J a0 i := by
  intro o' ho' L a w c
  rw [ho] at ho'
  obtain rfl := Option.some.inj ho'
  rw [if_pos (hw L a w c)]
  obtain ⟨v, hr, hv⟩ := h L a w c
  unfold Oper.wp
  rw [hr]
  exact ⟨v, rfl, hv, hJ _ _ c.world⟩
theorem vstep_copy (ho : ops[i]? = some o) (hw : ∀ L a w, VCtx ops D J a0 i L a w → Region.wanted o (yielded ops a.tmps) = true) (hJ : ∀ L w, J L w → J (upd L i) w) (t : Tmp) (hop : o.op = .move (.tmp t) ∨ o.op = .assign (.tmp t))
    (k : Nat) (hk : (preds ops 3 i).contains k = true) (hkd : dstOf ops k = some t) (hD : ∀ v, D k v → D i v) : VStep P ops Q D J a0 i :=
  vstep_pure ho hw hJ fun L a w c => ⟨a.tmps.getD t undef, by rcases hop with h | h <;> simp [execOp, h, Act.eval], hD _ (c.pred k t (by simpa using hk) hkd)⟩
theorem vstep_first (ho : ops[i]? = some o) (hw : ∀ L a w, VCtx ops D J a0 i L a w → Region.wanted o (yielded ops a.tmps) = true) (hJ : ∀ L w, J L w → J (upd L i) w) (t : Tmp) (hop : o.op = .move (.tmp t) ∨ o.op = .assign (.tmp t))
    (ht : origB ops i t = true) (hD : D i (a0.tmps.getD t undef)) : VStep P ops Q D J a0 i :=
  vstep_pure ho hw hJ fun L a w c => ⟨a.tmps.getD t undef, by rcases hop with h | h <;> simp [execOp, h, Act.eval], by rw [c.orig t ht]; exact hD⟩
theorem vstep_const (ho : ops[i]? = some o) (hw : ∀ L a w, VCtx ops D J a0 i L a w → Region.wanted o (yielded ops a.tmps) = true) (hJ : ∀ L w, J L w → J (upd L i) w) (v : Value) (hop : o.op = .move (.const v) ∨ o.op = .assign (.const v)) (hD : D i v) : VStep P ops Q D J a0 i :=
  vstep_pure ho hw hJ fun L a w _ => ⟨v, by rcases hop with h | h <;> simp [execOp, h, Act.eval], hD⟩
/-- whatever reads one slot that an operation ahead of it has written -/
theorem vstep_one (ho : ops[i]? = some o) (hw : ∀ L a w, VCtx ops D J a0 i L a w → Region.wanted o (yielded ops a.tmps) = true) (hJ : ∀ L w, J L w → J (upd L i) w) (x : Tmp)
    (kx : Nat) (hkx : (preds ops 3 i).contains kx = true) (hx : dstOf ops kx = some x)
    (h : ∀ L (a : Act) w, J L w → D kx (a.tmps.getD x undef) → ∃ v, (execOp a.eval o).run P w = .ok (.value v) w ∧ D i v) : VStep P ops Q D J a0 i :=
  vstep_pure ho hw hJ fun L a w c => h L a w c.world (c.pred kx x (by simpa using hkx) hx)
/-- whatever reads two -/
theorem vstep_two (ho : ops[i]? = some o) (hw : ∀ L a w, VCtx ops D J a0 i L a w → Region.wanted o (yielded ops a.tmps) = true) (hJ : ∀ L w, J L w → J (upd L i) w) (x y : Tmp)
    (kx ky : Nat) (hkx : (preds ops 3 i).contains kx = true) (hky : (preds ops 3 i).contains ky = true) (hx : dstOf ops kx = some x) (hy : dstOf ops ky = some y)
    (h : ∀ L (a : Act) w, J L w → D kx (a.tmps.getD x undef) → D ky (a.tmps.getD y undef) → ∃ v, (execOp a.eval o).run P w = .ok (.value v) w ∧ D i v) : VStep P ops Q D J a0 i :=
  vstep_pure ho hw hJ fun L a w c => h L a w c.world (c.pred kx x (by simpa using hkx) hx) (c.pred ky y (by simpa using hky) hy)
theorem vstep_field (ho : ops[i]? = some o) (hw : ∀ L a w, VCtx ops D J a0 i L a w → Region.wanted o (yielded ops a.tmps) = true) (hJ : ∀ L w, J L w → J (upd L i) w) (x : Tmp) (s : TypeId) (f : Nat) (hop : o.op = .fieldAddr s (.tmp x) f)
    (kx : Nat) (hkx : (preds ops 3 i).contains kx = true) (hx : dstOf ops kx = some x) (v r : Value) (hDx : ∀ u, D kx u → u = v) (hD : D i r) (hr : ∀ w, (Instr.fieldAt s v f).run P w = .ok r w) : VStep P ops Q D J a0 i :=
  vstep_one ho hw hJ x kx hkx hx fun L a w _ h => by
    have h := hDx _ h
    refine ⟨r, ?_, hD⟩
    simp only [execOp, hop, Act.eval, h]
    rw [Sem.run_bind, hr w]
    rfl
theorem vstep_load (ho : ops[i]? = some o) (hw : ∀ L a w, VCtx ops D J a0 i L a w → Region.wanted o (yielded ops a.tmps) = true) (hJ : ∀ L w, J L w → J (upd L i) w) (x : Tmp) (ty : TypeId) (hop : o.op = .load ty (.tmp x))
    (kx : Nat) (hkx : (preds ops 3 i).contains kx = true) (hx : dstOf ops kx = some x) (p r : Value) (hDx : ∀ u, D kx u → u = p) (hD : D i r) (hr : ∀ L w, J L w → (Instr.loadAt ty p).run P w = .ok r w) : VStep P ops Q D J a0 i :=
  vstep_one ho hw hJ x kx hkx hx fun L a w hj h => by
    have h := hDx _ h
    refine ⟨r, ?_, hD⟩
    simp only [execOp, hop, Act.eval, h]
    rw [Sem.run_bind, hr L w hj]
    rfl
theorem vstep_call (ho : ops[i]? = some o) (hw : ∀ L a w, VCtx ops D J a0 i L a w → Region.wanted o (yielded ops a.tmps) = true) (f : FuncId) (args : Array Operand) (ts : Array TypeId)
    (hop : o.op = .call { callee := .value (.func f), args := args, argTypes := ts }) (he : ∀ vs w, (callFunc f vs).run P w = .ok (.enter f vs) w)
    (h : ∀ L a w, VCtx ops D J a0 i L a w → Calls P f (args.map a.eval) w fun e w' => ∃ v, e = .returned v ∧ D i v ∧ J (upd L i) w') : VStep P ops Q D J a0 i := by
  intro o' ho' L a w c
  rw [ho] at ho'
  obtain rfl := Option.some.inj ho'
  rw [if_pos (hw L a w c)]
  have hr : (execOp a.eval o).run P w = .ok (.enter f (args.map a.eval)) w := by
    simp [execOp, hop, resolve, Deferred.ofValue, Act.eval, invoke, he]
  unfold Oper.wp
  rw [hr]
  refine (h L a w c).mono ?_
  rintro e w' ⟨v, rfl, hv, hb⟩
  exact ⟨v, rfl, hv, hb⟩
theorem vstep_call3 (ho : ops[i]? = some o) (hw : ∀ L a w, VCtx ops D J a0 i L a w → Region.wanted o (yielded ops a.tmps) = true) (f : FuncId) (x y z : Tmp) (ts : Array TypeId)
    (hop : o.op = .call { callee := .value (.func f), args := #[.tmp x, .tmp y, .tmp z], argTypes := ts }) (he : ∀ vs w, (callFunc f vs).run P w = .ok (.enter f vs) w)
    (kx ky kz : Nat) (hkx : (preds ops 3 i).contains kx = true) (hky : (preds ops 3 i).contains ky = true) (hkz : (preds ops 3 i).contains kz = true) (hx : dstOf ops kx = some x) (hy : dstOf ops ky = some y) (hz : dstOf ops kz = some z)
    (h : ∀ L u v t w, J L w → L i = false → (∀ k, k ∈ preds ops 3 i → L k = true) → D kx u → D ky v → D kz t → Calls P f #[u, v, t] w fun e w' => ∃ v, e = .returned v ∧ D i v ∧ J (upd L i) w') : VStep P ops Q D J a0 i :=
  vstep_call ho hw f #[.tmp x, .tmp y, .tmp z] ts hop he fun L a w c => by
    have e : (#[Operand.tmp x, Operand.tmp y, Operand.tmp z]).map a.eval = #[a.tmps.getD x undef, a.tmps.getD y undef, a.tmps.getD z undef] := by simp [Act.eval]
    rw [e]
    exact h L _ _ _ w c.world c.fresh c.ahead (c.pred kx x (by simpa using hkx) hx) (c.pred ky y (by simpa using hky) hy) (c.pred kz z (by simpa using hkz) hz)
theorem vstep_index (ho : ops[i]? = some o) (hw : ∀ L a w, VCtx ops D J a0 i L a w → Region.wanted o (yielded ops a.tmps) = true) (hJ : ∀ L w, J L w → J (upd L i) w) (x y : Tmp) (t : TypeId) (hop : o.op = .indexAddr t (.tmp x) (.tmp y))
    (kx ky : Nat) (hkx : (preds ops 3 i).contains kx = true) (hky : (preds ops 3 i).contains ky = true) (hx : dstOf ops kx = some x) (hy : dstOf ops ky = some y)
    (vx vy r : Value) (hDx : ∀ u, D kx u → u = vx) (hDy : ∀ u, D ky u → u = vy) (hD : D i r) (hr : ∀ w, (Instr.indexAt t vx vy).run P w = .ok r w) : VStep P ops Q D J a0 i :=
  vstep_two ho hw hJ x y kx ky hkx hky hx hy fun L a w _ h1 h2 => by
    have h1 := hDx _ h1
    have h2 := hDy _ h2
    refine ⟨r, ?_, hD⟩
    simp only [execOp, hop, Act.eval, h1, h2]
    rw [Sem.run_bind, hr w]
    rfl
theorem vstep_bin (ho : ops[i]? = some o) (hw : ∀ L a w, VCtx ops D J a0 i L a w → Region.wanted o (yielded ops a.tmps) = true) (hJ : ∀ L w, J L w → J (upd L i) w) (op : BinOp) (T T' : TypeId) (x y : Tmp) (hop : o.op = .binOp op T (.tmp x) (.tmp y) T')
    (kx ky : Nat) (hkx : (preds ops 3 i).contains kx = true) (hky : (preds ops 3 i).contains ky = true) (hx : dstOf ops kx = some x) (hy : dstOf ops ky = some y) (vx vy r : Value) (hDx : ∀ u, D kx u → u = vx) (hDy : ∀ u, D ky u → u = vy) (hD : D i r)
    (hv : ∀ w, (do eqGuard op T (.tmp x) (.tmp y) vx vy; binOp op T vx vy : Sem Value).run P w = .ok r w) : VStep P ops Q D J a0 i :=
  vstep_two ho hw hJ x y kx ky hkx hky hx hy fun L a w _ h1 h2 => by
    have h1 := hDx _ h1
    have h2 := hDy _ h2
    refine ⟨r, ?_, hD⟩
    have h3 := hv w
    simp only [execOp, hop, Act.eval, h1, h2]
    rw [Sem.run_bind, h3]
    rfl
theorem vstep_binc (ho : ops[i]? = some o) (hw : ∀ L a w, VCtx ops D J a0 i L a w → Region.wanted o (yielded ops a.tmps) = true) (hJ : ∀ L w, J L w → J (upd L i) w) (op : BinOp) (T T' : TypeId) (x : Tmp) (vy : Value) (hop : o.op = .binOp op T (.tmp x) (.const vy) T')
    (kx : Nat) (hkx : (preds ops 3 i).contains kx = true) (hx : dstOf ops kx = some x) (vx r : Value) (hDx : ∀ u, D kx u → u = vx) (hD : D i r)
    (hv : ∀ w, (do eqGuard op T (.tmp x) (.const vy) vx vy; binOp op T vx vy : Sem Value).run P w = .ok r w) : VStep P ops Q D J a0 i :=
  vstep_one ho hw hJ x kx hkx hx fun L a w _ h1 => by
    have h1 := hDx _ h1
    refine ⟨r, ?_, hD⟩
    have h3 := hv w
    simp only [execOp, hop, Act.eval, h1]
    rw [Sem.run_bind, h3]
    rfl
end
end Nac
/- Structs of any size: loads, stores, new ones; in a region that draws its order, too. -/
namespace Go.Proofs.YtiebpmpjclnpeaaDoor
open Go.RowKit Nac
structure SInfo (T : TypeId) (n : Nat) : Prop where
  info : (Tryd.prog.info? T).map (·.size) = some n
  row : ∃ d, Tryd.prog.underlying T = some d ∧ d.isRow = true
section
variable {w : World} {ops : Array Oper} {rest : List Oper} {o : Oper} {a : Act} {Q : Exit → Act → World → Prop} {T : TypeId} {n : Nat}
theorem run_loadS (hS : SInfo T n) (b : Nat) (cs : List Value) (hb : Blk w b cs) (hl : cs.length = n) : (loadVar T ⟨b, 0, none⟩).run Tryd.prog w = .ok (.agg cs.toArray) w := by
  obtain ⟨d, hu, hd⟩ := hS.row
  exact run_loadVar_mid w b 0 T cs d (hb.range 0 cs ⟨[], [], by simp, rfl⟩) hu hd (by rw [hS.info, hl])
theorem wpList_loadS (hS : SInfo T n) (hg : o.guard = none) (x : Operand) (hop : o.op = .load T x) (b : Nat) (cs : List Value) (hx : a.eval x = .pointer (some ⟨b, 0, none⟩)) (hb : Blk w b cs) (hl : cs.length = n)
    (h : wpList Tryd.prog ops Q rest (a.put o.dst (.agg cs.toArray)) w) : wpList Tryd.prog ops Q (o :: rest) a w := by
  obtain ⟨d, hu, hd⟩ := hS.row
  exact wpList_load_mid hg T x hop b 0 hx cs d (hb.range 0 cs ⟨[], [], by simp, rfl⟩) hu hd (by rw [hS.info, hl]) h
theorem wpList_storeS (hS : SInfo T n) (hg : o.guard = none) (x y : Operand) (hop : o.op = .store T x y) (b : Nat) (cs0 cs : List Value) (hx : a.eval x = .pointer (some ⟨b, 0, none⟩)) (hy : a.eval y = .agg cs.toArray) (hb : Blk w b cs0) (hl0 : cs0.length = n) (hl : cs.length = n) (h1 : ∀ v ∈ cs, v.oneCell' = true)
    (h : ∀ w', Blk w' b cs → w.grownBy w' (some b) → wpList Tryd.prog ops Q rest (a.put o.dst undef) w') : wpList Tryd.prog ops Q (o :: rest) a w :=
  wpList_store_mid hg T x y hop b 0 cs.toArray hx hy (hb.there 0 _ (by simp [hl0, hl])) (by rw [hS.info]; simp [hl]) (all_oneCell_toArray h1)
    (h _ (by have := hb.setCells cs 0 (by omega); rw [List.take_zero, List.nil_append, List.drop_eq_nil_of_le (by omega), List.append_nil] at this; exact this) (by simpa using grown_setCells b cs 0 w))
theorem run_storeS (hS : SInfo T n) (b : Nat) (cs0 cs : List Value) (hb : Blk w b cs0) (hl0 : cs0.length = n) (hl : cs.length = n) (h1 : ∀ v ∈ cs, v.oneCell' = true) :
    ∃ w', (Instr.storeAt T (.pointer (some ⟨b, 0, none⟩)) (.agg cs.toArray)).run Tryd.prog w = .ok () w' ∧ Blk w' b cs ∧ w.grownBy w' (some b) :=
  ⟨_, run_storeAt_mid w b 0 T cs.toArray (hb.there 0 _ (by simp [hl0, hl])) (by rw [hS.info]; simp [hl]) (all_oneCell_toArray h1),
    by have := hb.setCells cs 0 (by omega); rw [List.take_zero, List.nil_append, List.drop_eq_nil_of_le (by omega), List.append_nil] at this; exact this, by simpa using grown_setCells b cs 0 w⟩
theorem wpList_binV (hw : Region.wanted o (yielded ops a.tmps) = true) (op : BinOp) (T T' : TypeId) (x y : Operand) (hop : o.op = .binOp op T x y T') (v : Value)
    (hv : (do eqGuard op T x y (a.eval x) (a.eval y); binOp op T (a.eval x) (a.eval y) : Sem Value).run Tryd.prog w = .ok v w) (h : wpList Tryd.prog ops Q rest (a.put o.dst v) w) : wpList Tryd.prog ops Q (o :: rest) a w := by
  unfold wpList
  rw [if_pos hw]
  refine Or.inl ?_
  unfold Oper.wp
  have e : (execOp a.eval o).run Tryd.prog w = .ok (.value v) w := by
    simp only [execOp, hop]
    rw [Sem.run_bind] at hv
    rw [Sem.run_bind, Sem.run_bind, hv]
    rfl
  rw [e]
  exact h
theorem wpList_boxS (hg : o.guard = none) (x : Operand) (hop : o.op = .box T x) (cs : List Value) (hx : a.eval x = .agg cs.toArray)
    (h : ∀ w', Blk w' w.heap.size cs → w.grownBy w' none → w'.heap.size = w.heap.size + 1 → wpList Tryd.prog ops Q rest (a.put o.dst (.pointer (some ⟨w.heap.size, 0, none⟩))) w') : wpList Tryd.prog ops Q (o :: rest) a w := by
  refine wpList_plain hg fun K hK => ?_
  unfold Oper.wp execOp
  simp only [hop, Sem.run_bind, Instr.box, newVar, newRow, run_newObj_alloc, Sem.run_pure, Result.andThen_ok, hx, Value.cells]
  exact hK _ _ (h _ (Blk.new w cs T) (World.grownBy_alloc w _ none) (by simp))
theorem wpList_allocS (cs : List Value) (hz : ((Tryd.prog.info? T).bind (·.zero)) = some (.agg cs.toArray)) (hg : o.guard = none) (hop : o.op = .alloc T)
    (h : ∀ w', Blk w' w.heap.size cs → w.grownBy w' none → w'.heap.size = w.heap.size + 1 → wpList Tryd.prog ops Q rest (a.put o.dst (.pointer (some ⟨w.heap.size, 0, none⟩))) w') : wpList Tryd.prog ops Q (o :: rest) a w := by
  refine wpList_plain hg fun K hK => ?_
  have hz : (zeroValue T).run Tryd.prog w = .ok (.agg cs.toArray) w := by
    cases hi : Tryd.prog.info? T with
    | none => simp [hi] at hz
    | some i =>
      simp [hi] at hz
      simp [zeroValue, typeInfo, hi, hz]
  have hr : (Instr.alloc T true (.tuple #[])).run Tryd.prog w = .ok (.pointer (some ⟨w.heap.size, 0, none⟩)) (w.alloc (.cells cs.toArray T)) := by
    simp [Instr.alloc, hz, newVar, newRow, Value.cells]
  unfold Oper.wp execOp
  simp only [hop, Sem.run_bind, hr, Result.andThen_ok]
  exact hK _ _ (h _ (Blk.new w cs T) (World.grownBy_alloc w _ none) (by simp))
end
section
variable {ops : Array Oper} {Q : Exit → Act → World → Prop} {D : Nat → Value → Prop} {J : (Nat → Bool) → World → Prop} {a0 : Act} {i : Nat} {o : Oper} {T : TypeId} {n : Nat}
theorem vstep_loadS (hS : SInfo T n) (ho : ops[i]? = some o) (hw : ∀ L a w, VCtx ops D J a0 i L a w → Region.wanted o (yielded ops a.tmps) = true) (hJ : ∀ L w, J L w → J (upd L i) w) (x : Tmp) (hop : o.op = .load T (.tmp x)) (b : Nat) (cs : List Value) (hl : cs.length = n)
    (hx : ∀ L a w, VCtx ops D J a0 i L a w → a.tmps.getD x undef = .pointer (some ⟨b, 0, none⟩)) (hb : ∀ L w, J L w → Blk w b cs) (hD : D i (.agg cs.toArray)) : VStep Tryd.prog ops Q D J a0 i := by
  obtain ⟨d, hu, hd⟩ := hS.row
  refine vstep_pure ho hw hJ fun L a w c => ⟨.agg cs.toArray, ?_, hD⟩
  have e := hx L a w c
  unfold execOp
  simp only [hop, Act.eval, e, Instr.loadAt, Instr.sureAddr, Sem.run_bind, Sem.run_pure, Result.andThen_ok, run_loadS hS b cs (hb L w c.world) hl]
theorem vstep_storeS (hS : SInfo T n) (ho : ops[i]? = some o) (hw : ∀ L a w, VCtx ops D J a0 i L a w → Region.wanted o (yielded ops a.tmps) = true) (x y : Tmp) (hop : o.op = .store T (.tmp x) (.tmp y)) (b : Nat) (cs : List Value) (hl : cs.length = n) (h1 : ∀ v ∈ cs, v.oneCell' = true)
    (hx : ∀ L a w, VCtx ops D J a0 i L a w → a.tmps.getD x undef = .pointer (some ⟨b, 0, none⟩)) (hy : ∀ L a w, VCtx ops D J a0 i L a w → a.tmps.getD y undef = .agg cs.toArray) (hb : ∀ L w, J L w → ∃ cs0, cs0.length = n ∧ Blk w b cs0) (hD : D i undef)
    (hJ : ∀ L w w', J L w → Blk w' b cs → w.grownBy w' (some b) → J (upd L i) w') : VStep Tryd.prog ops Q D J a0 i := by
  intro o' ho' L a w c
  rw [ho] at ho'
  obtain rfl := Option.some.inj ho'
  rw [if_pos (hw L a w c)]
  obtain ⟨cs0, hl0, hb0⟩ := hb L w c.world
  obtain ⟨w', hr, hb', hg⟩ := run_storeS hS b cs0 cs hb0 hl0 hl h1
  have e1 := hx L a w c
  have e2 := hy L a w c
  have hr2 : (execOp a.eval o).run Tryd.prog w = .ok .skip w' := by
    unfold execOp
    simp only [hop, Act.eval, e1, e2, Sem.run_bind, hr, Result.andThen_ok, Sem.run_pure]
  unfold Oper.wp
  rw [hr2]
  exact ⟨undef, rfl, hD, hJ L w w' c.world hb' hg⟩
end
end Go.Proofs.YtiebpmpjclnpeaaDoor
/- A region that draws its order, of which the last operations come in one order: the first ones in any order, each slot's value known; then the last ones as a list. Over whatever program. -/
namespace Nac
open Go Go.RowKit
def depsOf (ops : Array Oper) (i : Nat) : List Nat := match ops[i]? with
  | none => []
  | some o => (o.after.toList.filter fun e => Region.binds .any e).map (·.on)
/-- all that must have come ahead, from the set s on -/
def closOf (ops : Array Oper) : Nat → List Nat → List Nat
  | 0, s => s
  | j + 1, s => closOf ops j (if s.contains j then s ++ depsOf ops j else s)
/-- each operation from p on comes behind all that stand ahead of it -/
def chainB (ops : Array Oper) (p : Nat) : Bool := decide (p ≤ ops.size) && (List.range ops.size).all fun i => decide (i < p) || (List.range i).all fun j => (closOf ops i (depsOf ops i)).contains j
section
variable {P : Program} {ops : Array Oper} {Q : Exit → Act → World → Prop} {D : Nat → Value → Prop} {J : (Nat → Bool) → World → Prop} {a0 : Act}
theorem clos_listed {listed : Array Bool} (hc : ∀ i o, ops[i]? = some o → listed.getD i false = true → ∀ e ∈ o.after, Region.binds .any e = true → listed.getD e.on false = true) :
    ∀ (n : Nat) (s : List Nat), (∀ x ∈ s, listed.getD x false = true) → ∀ x ∈ closOf ops n s, listed.getD x false = true := by
  intro n
  induction n with
  | zero => intro s hs x hx; exact hs x hx
  | succ n ih =>
    intro s hs x hx
    unfold closOf at hx
    refine ih _ ?_ x hx
    intro y hy
    split at hy
    · rename_i hcn
      rcases List.mem_append.1 hy with h | h
      · exact hs y h
      · unfold depsOf at h
        cases ho : ops[n]? with
        | none => simp [ho] at h
        | some o =>
          simp only [ho, List.mem_map, List.mem_filter, Array.mem_toList_iff] at h
          obtain ⟨e, ⟨he, hb⟩, rfl⟩ := h
          exact hc n o ho (hs n (by simpa using hcn)) e he hb
    · exact hs y hy
theorem chain_listed {listed : Array Bool} {p i : Nat} (hch : chainB ops p = true) (hc : ∀ i o, ops[i]? = some o → listed.getD i false = true → ∀ e ∈ o.after, Region.binds .any e = true → listed.getD e.on false = true)
    (hi : i < ops.size) (hp : p ≤ i) (hr : ∀ o, ops[i]? = some o → ∀ e ∈ o.after, Region.binds .any e = true → listed.getD e.on false = true) : ∀ j, j < i → listed.getD j false = true := by
  intro j hj
  unfold chainB at hch
  rw [Bool.and_eq_true, List.all_eq_true] at hch
  have h1 := hch.2 i (by simpa using hi)
  have hnp : decide (i < p) = false := by simpa using hp
  rw [hnp, Bool.false_or, List.all_eq_true] at h1
  have h2 := h1 j (by simpa using hj)
  refine clos_listed hc i _ ?_ j (by simpa using h2)
  intro x hx
  unfold depsOf at hx
  cases ho : ops[i]? with
  | none => simp [ho] at hx
  | some o =>
    simp only [ho, List.mem_map, List.mem_filter, Array.mem_toList_iff] at hx
    obtain ⟨e, ⟨he, hb⟩, rfl⟩ := hx
    exact hr o ho e he hb
theorem tail_any {p : Nat} (hch : chainB ops p = true) (hbk : backB ops = true) : ∀ (fuel : Nat) (listed : Array Bool) (a : Act) (w : World) (i : Nat), p ≤ i → i ≤ ops.size → listed.size = ops.size → falses listed ≤ fuel →
    (∀ j, j < i → listed.getD j false = true) → (∀ j, i ≤ j → listed.getD j false = false) →
    (∀ i o, ops[i]? = some o → listed.getD i false = true → ∀ e ∈ o.after, Region.binds .any e = true → listed.getD e.on false = true) →
    wpList P ops Q (ops.toList.drop i) a w → wpAny P .any ops Q fuel listed a w := by
  intro fuel
  have hend : ∀ (a : Act) (w : World) (i : Nat), ¬ i < ops.size → wpList P ops Q (ops.toList.drop i) a w → Q .normal a w := by
    intro a w i hi h
    rw [List.drop_eq_nil_of_le (by simpa using hi)] at h
    exact h
  induction fuel with
  | zero =>
    intro listed a w i hp hi hs hf h1 h2 hc h
    have hn : ¬ i < ops.size := fun hlt => by
      have := falses_zero listed (by omega) i (by omega)
      rw [h2 i (Nat.le_refl _)] at this
      cases this
    refine ⟨?_, hend a w i hn h⟩
    apply List.eq_nil_iff_forall_not_mem.2
    intro x hx
    obtain ⟨g1, g2, _⟩ := ready_of hx hs
    rw [h1 x (by omega)] at g2
    cases g2
  | succ fuel ih =>
    intro listed a w i hp hi hs hf h1 h2 hc h
    refine ⟨fun hr => ?_, fun x hx => ?_⟩
    · refine hend a w i (fun hlt => ?_) h
      exact absurd hr (ready_ex hbk hs i hlt (h2 i (Nat.le_refl _)))
    · obtain ⟨g1, g2, o, ho, hready⟩ := ready_of hx hs
      have hge : i ≤ x := by
        rcases Nat.lt_or_ge x i with hlt | hge
        · rw [h1 x hlt] at g2; cases g2
        · exact hge
      have hxi : x = i := by
        rcases Nat.lt_or_ge i x with hlt | hle
        · have := chain_listed hch hc g1 (by omega) (fun o' ho' => by rw [ho] at ho'; obtain rfl := Option.some.inj ho'; exact hready) i hlt
          rw [h2 i (Nat.le_refl _)] at this
          cases this
        · omega
      subst hxi
      have hfl : falses (listed.setIfInBounds x true) ≤ fuel := by
        have := falses_set listed x (by omega) g2
        omega
      have hd : ops.toList.drop x = o :: ops.toList.drop (x + 1) := by
        rw [List.drop_eq_getElem_cons (by simpa using g1)]
        congr 1
        have := Array.getElem?_eq_getElem g1
        rw [this] at ho
        simpa using Option.some.inj ho
      rw [hd] at h
      have next : ∀ a' w', wpList P ops Q (ops.toList.drop (x + 1)) a' w' → wpAny P .any ops Q fuel (listed.setIfInBounds x true) a' w' := by
        intro a' w' h'
        refine ih _ a' w' (x + 1) (by omega) g1 (by simpa using hs) hfl ?_ ?_ ?_ h'
        · intro j hj
          rw [getD_setIf _ _ _ (by omega)]
          split
          · rfl
          · exact h1 j (by omega)
        · intro j hj
          rw [getD_setIf _ _ _ (by omega), if_neg (by omega)]
          exact h2 j (by omega)
        · intro j oj hj hl e he hb
          rw [getD_setIf _ _ _ (by omega)] at hl ⊢
          by_cases hex : x = e.on
          · rw [if_pos hex]
          · rw [if_neg hex]
            by_cases hxj : x = j
            · subst hxj
              rw [ho] at hj
              obtain rfl := Option.some.inj hj
              exact hready e he hb
            · rw [if_neg hxj] at hl
              exact hc j oj hj hl e he hb
      unfold wpOp
      rw [ho]
      simp only
      unfold wpList at h
      split
      · rename_i hw
        rw [if_pos hw] at h
        rcases h with h | h
        · exact Or.inl (Oper.wp_mono next h)
        · exact Or.inr h
      · rename_i hw
        rw [if_neg hw] at h
        exact next _ _ h
theorem val_tail {p : Nat} (hch : chainB ops p = true) (hd : distinctB ops a0.tmps.size = true) (hbk : backB ops = true)
    (step : ∀ i, i < p → VStep P ops Q D J a0 i)
    (fin : ∀ L a w, (∀ i, i < p → L i = true) → J L w → a.defers = a0.defers → a.tmps.size = a0.tmps.size → (∀ i d, i < p → dstOf ops i = some d → D i (a.tmps.getD d undef)) → (∀ t, (∀ i, i < p → dstOf ops i ≠ some t) → a.tmps.getD t undef = a0.tmps.getD t undef) → wpList P ops Q (ops.toList.drop p) a w) :
    ∀ (fuel : Nat) (listed : Array Bool) (a : Act) (w : World), falses listed ≤ fuel → (∀ j, p ≤ j → listed.getD j false = false) → VInv ops D J a0 listed a w → wpAny P .any ops Q fuel listed a w := by
  have hps : p ≤ ops.size := by
    unfold chainB at hch
    rw [Bool.and_eq_true] at hch
    simpa using hch.1
  have hall : ∀ (fuel : Nat) (listed : Array Bool) (a : Act) (w : World), falses listed ≤ fuel → (∀ j, p ≤ j → listed.getD j false = false) → VInv ops D J a0 listed a w → (∀ j, j < p → listed.getD j false = true) → wpAny P .any ops Q fuel listed a w := by
    intro fuel listed a w hf hz hI hl
    refine tail_any hch hbk fuel listed a w p (Nat.le_refl _) hps hI.size hf hl hz hI.closed ?_
    refine fin _ a w (fun i hi => hl i hi) hI.world hI.defers hI.tsize (fun i d hi h => hI.done i d (hl i hi) h) (fun t ht => hI.rest t fun i hli => ht i ?_)
    rcases Nat.lt_or_ge i p with h | h
    · exact h
    · rw [hz i h] at hli; cases hli
  intro fuel
  induction fuel with
  | zero =>
    intro listed a w hf hz hI
    exact hall 0 listed a w hf hz hI fun i hi => falses_zero listed (by omega) i (by rw [hI.size]; omega)
  | succ fuel ih =>
    intro listed a w hf hz hI
    by_cases hdone : ∀ j, j < p → listed.getD j false = true
    · exact hall _ listed a w hf hz hI hdone
    have hnd : ∃ j, j < p ∧ listed.getD j false = false := by
      apply Classical.byContradiction
      intro h
      refine hdone fun j hj => ?_
      cases hb : listed.getD j false
      · exact absurd ⟨j, hj, hb⟩ h
      · rfl
    obtain ⟨j0, hj0, hl0⟩ := hnd
    refine ⟨fun hr => absurd hr (ready_ex hbk hI.size j0 (by omega) hl0), fun i hi => ?_⟩
    obtain ⟨h1, h2, o, ho, hready⟩ := ready_of hi hI.size
    have hip : i < p := by
      rcases Nat.lt_or_ge i p with h | h
      · exact h
      · have := chain_listed hch hI.closed h1 h (fun o' ho' => by rw [ho] at ho'; obtain rfl := Option.some.inj ho'; exact hready) j0 (by omega)
        rw [hl0] at this
        cases this
    have hctx : VCtx ops D J a0 i (fun k => listed.getD k false) a w := by
      have hpc := preds_closed hI.closed 3 i (fun o' ho' => by rw [ho] at ho'; obtain rfl := Option.some.inj ho'; exact hready)
      refine ⟨hI.world, hI.tsize, h2, hpc, fun k d hk hkd => hI.done k d (hpc k hk) hkd, fun t ht => hI.rest t fun k hl hkd => ?_⟩
      unfold origB at ht
      rw [List.all_eq_true] at ht
      have hk : k < ops.size := by
        rcases Nat.lt_or_ge k ops.size with h | h
        · exact h
        · simp [dstOf, Array.getElem?_eq_none h] at hkd
      have h3 := ht k (by simpa using hk)
      rw [hkd] at h3
      simp only [bne_self_eq_false, Bool.false_or, List.contains_iff_mem] at h3
      have := preds_closed hI.closed 3 k (fun o' ho' e he hb' => hI.closed k o' ho' hl e he hb') i h3
      rw [h2] at this
      cases this
    have hs := step i hip o ho _ a w hctx
    have hfl : falses (listed.setIfInBounds i true) ≤ fuel := by
      have := falses_set listed i (by rw [hI.size]; exact h1) h2
      omega
    have hz' : ∀ j, p ≤ j → (listed.setIfInBounds i true).getD j false = false := fun j hj => by
      rw [getD_setIf _ _ _ (by rw [hI.size]; exact h1), if_neg (by omega)]
      exact hz j hj
    unfold wpOp
    rw [ho]
    simp only
    split
    · rename_i hw
      rw [if_pos hw] at hs
      refine Or.inl (Oper.wp_mono ?_ hs)
      rintro a' w' ⟨v, rfl, hv, hb⟩
      exact ih _ _ _ hfl hz' (val_put hI h1 ho hd hready hv hb)
    · rename_i hw
      rw [if_neg hw] at hs
      exact ih _ _ _ hfl hz' (val_put hI h1 ho hd hready hs.1 hs.2)
/-- THE LAW: the first p operations in any order, each slot's value known; then the rest as a list -/
theorem region_tail {id : Nat} {a0 : Act} {w0 : World} (p : Nat) (V : List Value) (ds : List (Option Tmp)) (J : (Nat → Bool) → World → Prop) (hm : P.follows .mixedOrders = true) (hd : distinctB ops a0.tmps.size = true) (hbk : backB ops = true)
    (hch : chainB ops p = true) (hds : (ops.toList.take p).map (·.dst) = ds) (hV : V.length = ds.length)
    (h0 : J (fun _ => false) w0.drew)
    (step : ∀ i, i < p → VStep P ops Q (fun i v => v = V.getD i undef) J a0 i)
    (fin : ∀ L w, (∀ i, i < p → L i = true) → J L w → wpList P ops Q (ops.toList.drop p) (putsL (ds.zip V) a0) w) :
    (Code.region id ops true).wp P Q a0 w0 := by
  refine wp_region_any hm ?_
  have hps : p ≤ ops.size := by
    unfold chainB at hch
    rw [Bool.and_eq_true] at hch
    simpa using hch.1
  have hg : ∀ i, (Array.replicate ops.size false).getD i false = false := by
    intro i
    rw [Array.getD_eq_getD_getElem?, Array.getElem?_replicate]
    split <;> rfl
  refine val_tail (D := fun i v => v = V.getD i undef) (J := J) (a0 := a0) hch hd hbk step (fun L a w hall hJ hde hts hs hr => ?_) _ _ _ _ ?_ (fun j _ => hg j) ⟨by simp, ?_, rfl, rfl, fun i o _ h => (by rw [hg] at h; cases h), fun i d h => (by rw [hg] at h; cases h), fun _ _ => rfl⟩
  · have hdi : ∀ i, i < p → dstOf ops i = (ds[i]?).join := by
      intro i hi
      rw [← hds, List.getElem?_map, List.getElem?_take_of_lt hi, Array.getElem?_toList]
      unfold dstOf
      cases ops[i]? <;> rfl
    have hsz : p = ds.length := by rw [← hds]; simp; omega
    have e := putsL_eq (a0 := a0) (a := a) (l := ds.zip V) hde hts ?_ ?_
    · rw [e]
      exact fin L w hall hJ
    · intro x hx t ht
      obtain ⟨i, hi⟩ := List.mem_iff_getElem?.1 hx
      obtain ⟨h1, h2⟩ := List.getElem?_zip_eq_some.1 hi
      have hil : i < p := by rw [hsz]; exact (List.getElem?_eq_some_iff.1 h1).1
      have := hs i t hil (by rw [hdi i hil, h1]; exact ht)
      rw [this, List.getD_eq_getElem?_getD, h2]
      rfl
    · intro t ht
      refine hr t fun i hil hdt => ?_
      rw [hdi i hil] at hdt
      have h1 : i < ds.length := by omega
      have h2 : i < V.length := by omega
      rw [List.getElem?_eq_getElem h1] at hdt
      exact ht (ds[i], V[i]) (List.mem_iff_getElem?.2 ⟨i, List.getElem?_zip_eq_some.2 ⟨List.getElem?_eq_getElem h1, List.getElem?_eq_getElem h2⟩⟩) hdt
  · unfold falses
    simp
  · rw [show (fun i => (Array.replicate ops.size false).getD i false) = fun _ => false from funext hg]
    exact h0
end
end Nac
/- A region that draws its order, of operations that only let memory grow (XMono): what it leaves, slot by slot. Over whatever program. -/
namespace Nac
open Go Go.RowKit
section
variable {P : Program} {ops : Array Oper} {Q : Exit → Act → World → Prop} {D : Nat → VD} {a0 : Act} {W0 : World}
theorem MCtx.slot {i : Nat} {a : Act} {w : World} (c : MCtx ops D a0 W0 i a w) (k x : Nat) (hk : (preds ops 3 i).contains k = true) (hx : dstOf ops k = some x) : (D k).ok (a.tmps.getD x undef) w :=
  c.pred k x (by simpa using hk) hx
/-- the slots' values, as the region leaves them -/
def slotsOf (t : Array Value) (ds : List (Option Tmp)) : List Value := ds.map fun d => match d with | none => undef | some d => t.getD d undef
theorem region_monos {id : Nat} {a0 : Act} {w0 : World} (D : Nat → VD) (ds : List (Option Tmp)) (hm : P.follows .mixedOrders = true) (hd : distinctB ops a0.tmps.size = true) (hbk : backB ops = true)
    (hds : ops.toList.map (·.dst) = ds)
    (step : ∀ i, i < ops.size → MStep P ops Q D a0 w0.drew i)
    (fin : ∀ V w, V.length = ds.length → Below w0.heap.size w0 w → (∀ i d, ds[i]? = some (some d) → (D i).ok (V.getD i undef) w) → Q .normal (putsL (ds.zip V) a0) w) :
    (Code.region id ops true).wp P Q a0 w0 := by
  refine region_mono D hm hd hbk step fun a w hb hde hts hs hr => ?_
  have hdi : ∀ i d, ds[i]? = some (some d) → dstOf ops i = some d := by
    intro i d h
    rw [← hds, List.getElem?_map, Array.getElem?_toList] at h
    unfold dstOf
    cases ho : ops[i]? with
    | none => rw [ho] at h; cases h
    | some o => rw [ho] at h; simpa using h
  have hdi' : ∀ i d, dstOf ops i = some d → ds[i]? = some (some d) := by
    intro i d h
    rw [← hds, List.getElem?_map, Array.getElem?_toList]
    unfold dstOf at h
    cases ho : ops[i]? with
    | none => rw [ho] at h; cases h
    | some o => rw [ho] at h; simpa using h
  have e := putsL_eq (a0 := a0) (a := a) (l := ds.zip (slotsOf a.tmps ds)) hde hts ?_ ?_
  · rw [e]
    refine fin _ w (by simp [slotsOf]) hb fun i d h => ?_
    have := hs i d (hdi i d h)
    have e2 : (slotsOf a.tmps ds).getD i undef = a.tmps.getD d undef := by
      unfold slotsOf
      rw [List.getD_eq_getElem?_getD, List.getElem?_map, h]
      rfl
    rw [e2]
    exact this
  · intro x hx t ht
    obtain ⟨i, hi⟩ := List.mem_iff_getElem?.1 hx
    obtain ⟨h1, h2⟩ := List.getElem?_zip_eq_some.1 hi
    unfold slotsOf at h2
    rw [List.getElem?_map, h1] at h2
    obtain ⟨d, v⟩ := x
    simp only at ht h1 h2
    subst ht
    simpa using h2
  · intro t ht
    refine hr t fun i hdt => ?_
    have h1 := hdi' i t hdt
    have h3 : (slotsOf a.tmps ds)[i]? = some (a.tmps.getD t undef) := by
      unfold slotsOf
      rw [List.getElem?_map, h1]
      rfl
    exact ht (some t, a.tmps.getD t undef) (List.mem_iff_getElem?.2 ⟨i, List.getElem?_zip_eq_some.2 ⟨h1, h3⟩⟩) rfl
end
end Nac
/- As XTail, where the first operations only let memory grow, and a slot's value may be known by what it reads as. Over whatever program. -/
namespace Nac
open Go Go.RowKit
section
variable {P : Program} {ops : Array Oper} {Q : Exit → Act → World → Prop} {D : Nat → VD} {a0 : Act} {W0 : World}
theorem mono_tail {p : Nat} (hch : chainB ops p = true) (hd : distinctB ops a0.tmps.size = true) (hbk : backB ops = true)
    (step : ∀ i, i < p → MStep P ops Q D a0 W0 i)
    (fin : ∀ a w, Below W0.heap.size W0 w → a.defers = a0.defers → a.tmps.size = a0.tmps.size → (∀ i d, i < p → dstOf ops i = some d → (D i).ok (a.tmps.getD d undef) w) → (∀ t, (∀ i, i < p → dstOf ops i ≠ some t) → a.tmps.getD t undef = a0.tmps.getD t undef) → wpList P ops Q (ops.toList.drop p) a w) :
    ∀ (fuel : Nat) (listed : Array Bool) (a : Act) (w : World), falses listed ≤ fuel → (∀ j, p ≤ j → listed.getD j false = false) → MInv ops D a0 W0 listed a w → wpAny P .any ops Q fuel listed a w := by
  have hps : p ≤ ops.size := by
    unfold chainB at hch
    rw [Bool.and_eq_true] at hch
    simpa using hch.1
  have hall : ∀ (fuel : Nat) (listed : Array Bool) (a : Act) (w : World), falses listed ≤ fuel → (∀ j, p ≤ j → listed.getD j false = false) → MInv ops D a0 W0 listed a w → (∀ j, j < p → listed.getD j false = true) → wpAny P .any ops Q fuel listed a w := by
    intro fuel listed a w hf hz hI hl
    refine tail_any hch hbk fuel listed a w p (Nat.le_refl _) hps hI.size hf hl hz hI.closed ?_
    refine fin a w hI.below hI.defers hI.tsize (fun i d hi h => hI.done i d (hl i hi) h) (fun t ht => hI.rest t fun i hli => ht i ?_)
    rcases Nat.lt_or_ge i p with h | h
    · exact h
    · rw [hz i h] at hli; cases hli
  intro fuel
  induction fuel with
  | zero =>
    intro listed a w hf hz hI
    exact hall 0 listed a w hf hz hI fun i hi => falses_zero listed (by omega) i (by rw [hI.size]; omega)
  | succ fuel ih =>
    intro listed a w hf hz hI
    by_cases hdone : ∀ j, j < p → listed.getD j false = true
    · exact hall _ listed a w hf hz hI hdone
    have hnd : ∃ j, j < p ∧ listed.getD j false = false := by
      apply Classical.byContradiction
      intro h
      refine hdone fun j hj => ?_
      cases hb : listed.getD j false
      · exact absurd ⟨j, hj, hb⟩ h
      · rfl
    obtain ⟨j0, hj0, hl0⟩ := hnd
    refine ⟨fun hr => absurd hr (ready_ex hbk hI.size j0 (by omega) hl0), fun i hi => ?_⟩
    obtain ⟨h1, h2, o, ho, hready⟩ := ready_of hi hI.size
    have hip : i < p := by
      rcases Nat.lt_or_ge i p with h | h
      · exact h
      · have := chain_listed hch hI.closed h1 h (fun o' ho' => by rw [ho] at ho'; obtain rfl := Option.some.inj ho'; exact hready) j0 (by omega)
        rw [hl0] at this
        cases this
    have hctx : MCtx ops D a0 W0 i a w := by
      have hpc := preds_closed hI.closed 3 i (fun o' ho' => by rw [ho] at ho'; obtain rfl := Option.some.inj ho'; exact hready)
      refine ⟨hI.below, hI.tsize, fun k d hk hkd => hI.done k d (hpc k hk) hkd, fun t ht => hI.rest t fun k hl hkd => ?_⟩
      unfold origB at ht
      rw [List.all_eq_true] at ht
      have hk : k < ops.size := by
        rcases Nat.lt_or_ge k ops.size with h | h
        · exact h
        · simp [dstOf, Array.getElem?_eq_none h] at hkd
      have h3 := ht k (by simpa using hk)
      rw [hkd] at h3
      simp only [bne_self_eq_false, Bool.false_or, List.contains_iff_mem] at h3
      have := preds_closed hI.closed 3 k (fun o' ho' e he hb' => hI.closed k o' ho' hl e he hb') i h3
      rw [h2] at this
      cases this
    have hs := step i hip o ho a w hctx
    have hfl : falses (listed.setIfInBounds i true) ≤ fuel := by
      have := falses_set listed i (by rw [hI.size]; exact h1) h2
      omega
    have hz' : ∀ j, p ≤ j → (listed.setIfInBounds i true).getD j false = false := fun j hj => by
      rw [getD_setIf _ _ _ (by rw [hI.size]; exact h1), if_neg (by omega)]
      exact hz j hj
    unfold wpOp
    rw [ho]
    simp only
    split
    · rename_i hw
      rw [if_pos hw] at hs
      refine Or.inl (Oper.wp_mono ?_ hs)
      rintro a' w' ⟨v, rfl, hv, hb⟩
      exact ih _ _ _ hfl hz' (mono_put hI h1 ho hd hready hv hb)
    · rename_i hw
      rw [if_neg hw] at hs
      exact ih _ _ _ hfl hz' (mono_put hI h1 ho hd hready hs (Below.refl _ _))
/-- THE LAW -/
theorem region_tails {id : Nat} {a0 : Act} {w0 : World} (p : Nat) (D : Nat → VD) (ds : List (Option Tmp)) (hm : P.follows .mixedOrders = true) (hd : distinctB ops a0.tmps.size = true) (hbk : backB ops = true)
    (hch : chainB ops p = true) (hds : (ops.toList.take p).map (·.dst) = ds)
    (step : ∀ i, i < p → MStep P ops Q D a0 w0.drew i)
    (fin : ∀ V w, V.length = ds.length → Below w0.heap.size w0 w → (∀ i d, ds[i]? = some (some d) → (D i).ok (V.getD i undef) w) → wpList P ops Q (ops.toList.drop p) (putsL (ds.zip V) a0) w) :
    (Code.region id ops true).wp P Q a0 w0 := by
  refine wp_region_any hm ?_
  have hps : p ≤ ops.size := by
    unfold chainB at hch
    rw [Bool.and_eq_true] at hch
    simpa using hch.1
  have hg : ∀ i, (Array.replicate ops.size false).getD i false = false := by
    intro i
    rw [Array.getD_eq_getD_getElem?, Array.getElem?_replicate]
    split <;> rfl
  refine mono_tail (D := D) (a0 := a0) (W0 := w0.drew) hch hd hbk step (fun a w hb' hde hts hs hr => ?_) _ _ _ _ ?_ (fun j _ => hg j) ⟨by simp, Below.refl _ _, rfl, rfl, fun i o _ h => (by rw [hg] at h; cases h), fun i d h => (by rw [hg] at h; cases h), fun _ _ => rfl⟩
  · have hb : Below w0.heap.size w0 w := ⟨hb'.os, hb'.tape, hb'.output, hb'.size, hb'.block⟩
    have hlt : ∀ i x, ds[i]? = some x → i < p := by
      intro i x h
      have := (List.getElem?_eq_some_iff.1 h).1
      rw [← hds] at this
      simp at this
      omega
    have hdi : ∀ i d, ds[i]? = some (some d) → dstOf ops i = some d := by
      intro i d h
      have hi := hlt i _ h
      rw [← hds, List.getElem?_map, List.getElem?_take_of_lt hi, Array.getElem?_toList] at h
      unfold dstOf
      cases ho : ops[i]? with
      | none => rw [ho] at h; cases h
      | some o => rw [ho] at h; simpa using h
    have hdi' : ∀ i d, i < p → dstOf ops i = some d → ds[i]? = some (some d) := by
      intro i d hi h
      rw [← hds, List.getElem?_map, List.getElem?_take_of_lt hi, Array.getElem?_toList]
      unfold dstOf at h
      cases ho : ops[i]? with
      | none => rw [ho] at h; cases h
      | some o => rw [ho] at h; simpa using h
    have e := putsL_eq (a0 := a0) (a := a) (l := ds.zip (slotsOf a.tmps ds)) hde hts ?_ ?_
    · rw [e]
      refine fin _ w (by simp [slotsOf]) hb fun i d h => ?_
      have := hs i d (hlt i _ h) (hdi i d h)
      have e2 : (slotsOf a.tmps ds).getD i undef = a.tmps.getD d undef := by
        unfold slotsOf
        rw [List.getD_eq_getElem?_getD, List.getElem?_map, h]
        rfl
      rw [e2]
      exact this
    · intro x hx t ht
      obtain ⟨i, hi⟩ := List.mem_iff_getElem?.1 hx
      obtain ⟨h1, h2⟩ := List.getElem?_zip_eq_some.1 hi
      unfold slotsOf at h2
      rw [List.getElem?_map, h1] at h2
      obtain ⟨d, v⟩ := x
      simp only at ht h1 h2
      subst ht
      simpa using h2
    · intro t ht
      refine hr t fun i hip hdt => ?_
      have h1 := hdi' i t hip hdt
      have h3 : (slotsOf a.tmps ds)[i]? = some (a.tmps.getD t undef) := by
        unfold slotsOf
        rw [List.getElem?_map, h1]
        rfl
      exact ht (some t, a.tmps.getD t undef) (List.mem_iff_getElem?.2 ⟨i, List.getElem?_zip_eq_some.2 ⟨h1, h3⟩⟩) rfl
  · unfold falses
    simp
end
end Nac
/- append of a row onto a row, over whatever program. -/
namespace Go.Proofs.YtiebpmpjclnpeaaDoor
open Go.RowKit Nac
section
variable {P : Program} (w : World)
/-- the cells of a source: asked for where there is one -/
def Src (w : World) (A : Option Addr) (news : List Value) : Prop := news ≠ [] → ∃ ad, A = some ad ∧ ∀ j u, news[j]? = some u → w.cell? (ad.add j) = some u
theorem own_form {base : Nat} {e : TypeId} {size : Nat} {v : Value} {n : Nat} {xs : List Value} (h : w.ownsRow base e size v n xs) : ∃ A c, v = .slice A n c := by
  rcases h.2 with ⟨rfl, rfl⟩ | ⟨g, cap, cur, rfl, _⟩
  · exact ⟨_, _, rfl⟩
  · exact ⟨_, _, rfl⟩
theorem run_app_none (base : Nat) (t ty e : TypeId) (i : TypeInfo) (size : Nat) (ht : P.underlying t = some (.slice e)) (hi : P.info? e = some i)
    (v : Value) (n : Nat) (xs : List Value) (hown : w.ownsRow base e size v n xs) (c : Nat) : (Builtin.append_ #[t, t] ty #[v, .slice none 0 c]).run P w = .ok v w := by
  rcases hown.2 with ⟨rfl, rfl⟩ | ⟨g, cap, cur, rfl, _, _, hnc, _⟩
  · simp [Builtin.append_, run_underlying ht, sizeOf, typeInfo, hi, Builtin.lenOf, Builtin.firstCells]
  · simp [Builtin.append_, run_underlying ht, sizeOf, typeInfo, hi, Builtin.lenOf, Builtin.firstCells, hnc, storeCells]
theorem run_app (base : Nat) (t ty e : TypeId) (z : Value) (size bytes : Nat) (ht : P.underlying t = some (.slice e)) (hinfo : (P.info? e).map (fun i => (i.zero, i.size, i.bytes)) = some (some z, size, bytes))
    (hzs : z.cells.size = size) (hsz : 0 < size) (A : Option Addr) (n c : Nat) (xs : List Value) (hown : w.ownsRow base e size (.slice A n c) n xs)
    (A2 : Option Addr) (m c2 : Nat) (news : List Value) (hl : news.length = m * size) (hs : Src w A2 news) (h1 : ∀ u ∈ news, u.oneCell' = true)
    (hbytes : (n + m) * bytes ≤ 140737488355328) (h63 : n + m ≤ maxLen) (hbase : base ≤ w.heap.size) :
    ∃ A' c' w', (Builtin.append_ #[t, t] ty #[.slice A n c, .slice A2 m c2]).run P w = .ok (.slice A' (n + m) c') w' ∧ w'.ownsRow base e size (.slice A' (n + m) c') (n + m) (xs ++ news) ∧
      w.grownBy w' (A.map (·.block)) ∧ (A'.map (·.block) = A.map (·.block) ∨ A'.map (·.block) = some w.heap.size) := by
  obtain ⟨i, hi, hz, hs1, hb1⟩ := info_parts hinfo
  have eb : Value.ownBlock (.slice A n c) = A.map (·.block) := by cases A <;> rfl
  rcases A2 with _ | ad
  · have hnews : news = [] := by
      apply Classical.byContradiction
      intro hne
      obtain ⟨ad, h, _⟩ := hs hne
      cases h
    subst hnews
    have hm : m = 0 := by
      rcases Nat.eq_zero_or_pos m with h | h
      · exact h
      · have := Nat.mul_pos h hsz
        simp at hl
        omega
    subst hm
    exact ⟨A, c, w, run_app_none w base t ty e i size ht hi _ n xs hown c2, by simpa using hown, World.grownBy.refl w _, .inl rfl⟩
  · have hc : ∀ j u, news[j]? = some u → w.cell? (ad.add j) = some u := by
      intro j u hu
      obtain ⟨ad', h, hh⟩ := hs (by rintro rfl; simp at hu)
      injection h with h
      subst h
      exact hh j u hu
    obtain ⟨v', w', hr, h2, h3, _, h5⟩ := run_append_own_at (P := P) w base t ty e i z size bytes ht hi hz hs1 hb1 hzs hsz _ n xs hown ad m c2 news hl hc h1 h63 hbytes hbase
    obtain ⟨A', c', rfl⟩ := own_form w' h2
    have eb' : Value.ownBlock (.slice A' (n + m) c') = A'.map (·.block) := by cases A' <;> rfl
    rw [eb] at h3 h5
    rw [eb'] at h5
    exact ⟨A', c', w', hr, h2, h3, h5⟩
theorem wpList_app {ops : Array Oper} {rest : List Oper} {o : Oper} {a : Act} {Q : Exit → Act → World → Prop} (hgd : o.guard = none) (s x : Operand) (t : TypeId)
    (ho : o.op = .call { callee := .builtin .append, args := #[s, x], argTypes := #[t, t] })
    (base : Nat) (e : TypeId) (z : Value) (size bytes : Nat) (ht : P.underlying t = some (.slice e)) (hinfo : (P.info? e).map (fun i => (i.zero, i.size, i.bytes)) = some (some z, size, bytes))
    (hzs : z.cells.size = size) (hsz : 0 < size) (A : Option Addr) (n c : Nat) (xs : List Value) (hs : a.eval s = .slice A n c) (hown : w.ownsRow base e size (.slice A n c) n xs)
    (A2 : Option Addr) (m c2 : Nat) (news : List Value) (hx : a.eval x = .slice A2 m c2) (hl : news.length = m * size) (hsrc : Src w A2 news) (h1 : ∀ u ∈ news, u.oneCell' = true)
    (hbytes : (n + m) * bytes ≤ 140737488355328) (h63 : n + m ≤ maxLen) (hbase : base ≤ w.heap.size)
    (h : ∀ A' c' w', w'.ownsRow base e size (.slice A' (n + m) c') (n + m) (xs ++ news) → w.grownBy w' (A.map (·.block)) → (A'.map (·.block) = A.map (·.block) ∨ A'.map (·.block) = some w.heap.size) →
      wpList P ops Q rest (a.put o.dst (.slice A' (n + m) c')) w') : wpList P ops Q (o :: rest) a w := by
  obtain ⟨A', c', w', hr, h2, h3, h4⟩ := run_app (P := P) w base t o.type e z size bytes ht hinfo hzs hsz A n c xs hown A2 m c2 news hl hsrc h1 hbytes h63 hbase
  refine wpList_plain hgd fun K hK => ?_
  unfold Oper.wp execOp
  simp only [ho, resolve, invoke, builtin, Sem.run_bind, Sem.run_pure, Result.andThen_ok, List.map_toArray, List.map_cons, List.map_nil, hs, hx, hr]
  exact hK _ _ (h A' c' w' h2 h3 h4)
end
end Go.Proofs.YtiebpmpjclnpeaaDoor
/- Bytes that a call makes itself, append onto them, and what a conversion to a string gives: laws of our own over this seat's numbers. -/
namespace Go.Proofs.YtiebpmpjclnpeaaDoor
open Go.RowKit Nac
theorem Tryd.infoByte : (Tryd.prog.info? 5).map (fun i => (i.zero, i.size, i.bytes)) = some (some (.int .u8 0), 1, 1) := by kernel_rfl


/-- the slice at A, of capacity c, is the call's own (from block 'base' on) and holds the bytes l -/
def OB (w : World) (base : Nat) (A : Option Addr) (c : Nat) (l : List UInt8) : Prop := w.ownsRow base 5 1 (.slice A l.length c) l.length (l.map bv)
section
variable {w w' : World} {base B : Nat} {A : Option Addr} {c : Nat} {l : List UInt8}
theorem OB.nil (w : World) (base : Nat) : OB w base none 0 [] := World.ownsRow_nil w base _ _
theorem OB.rb (h : OB w base A c l) : RB w w.heap.size A l := fun hne => by
  rcases h.2 with ⟨hv, hn⟩ | ⟨g, cap, cur, hv, hb, hg, hnc, hcm, hcs, ht⟩
  · exact absurd (List.eq_nil_of_length_eq_zero hn) hne
  · injection hv with h1 h2 h3
    subst h1
    refine ⟨g, 0, rfl, (Array.getElem?_eq_some_iff.1 hg).1, fun j hj => ?_⟩
    rw [cell_of_row w g (0 + j) cur _ (0, 0) hg, Nat.zero_add]
    have e : (l.map bv)[j]? = some (bv l[j]) := by simp [hj]
    rw [← ht, List.getElem?_take_of_lt (by omega)] at e
    simpa [bv] using e
theorem OB.kept (h : OB w base A c l) {row : Option Nat} (hg : w.grownBy w' row) (hne : A = none ∨ A.map (·.block) ≠ row) : OB w' base A c l :=
  World.ownsRow.kept h hg (by cases A <;> simp_all [Value.ownBlock])
theorem OB.alloc (h : OB w base A c l) (o : Obj) : OB (w.alloc o) base A c l := World.ownsRow.alloc h o
theorem OB.drew (h : OB w base A c l) : OB w.drew base A c l := h
theorem OB.drewN (h : OB w base A c l) (n : Nat) : OB (w.drewN n) base A c l := h
theorem OB.lt (h : OB w base A c l) : ∀ g, A.map (·.block) = some g → base ≤ g ∧ g < w.heap.size := fun g hg => World.ownsRow.lt h g (by cases A <;> simp_all [Value.ownBlock])
theorem OB.below (h : OB w base A c l) (hb : Below B w w') (hB : w.heap.size ≤ B) : OB w' base A c l := by
  refine World.ownsRow.kept h (row := none) ⟨hb.os, hb.tape, hb.output, hb.size, fun k hk _ => hb.block k (by omega)⟩ ?_
  cases A <;> simp [Value.ownBlock]
theorem OB.len (h : OB w base A c l) : l.length ≤ c := by
  rcases h.2 with ⟨hv, hn⟩ | ⟨g, cap, cur, hv, hb, hg, hnc, hcm, hcs, ht⟩
  · injection hv with h1 h2 h3; omega
  · injection hv with h1 h2 h3; omega
theorem OB.mono {base' : Nat} (h : OB w base A c l) (hb : base' ≤ base) : OB w base' A c l := by
  refine ⟨h.1, ?_⟩
  rcases h.2 with h | ⟨g, cap, cur, hv, hbg, r⟩
  · exact .inl h
  · exact .inr ⟨g, cap, cur, hv, by omega, r⟩
/-- a row that has just been laid -/
theorem OB.new (w : World) (hb : base ≤ w.heap.size) (l : List UInt8) (hm : l.length ≤ 9223372036854775807) : OB (w.alloc (.cells (l.map bv).toArray 5)) base (some ⟨w.heap.size, 0, none⟩) l.length l := by
  refine ⟨by simp, .inr ⟨w.heap.size, l.length, (l.map bv).toArray, rfl, hb, heap_alloc_new w _, Nat.le_refl _, hm, by simp, by rw [List.take_of_length_le (by simp)]⟩⟩
end
theorem bv_oneCell (l : List UInt8) : ∀ u ∈ l.map bv, u.oneCell' = true := by
  intro u hu
  obtain ⟨_, _, rfl⟩ := List.mem_map.1 hu
  rfl
theorem rb_src {w : World} {B : Nat} {A : Option Addr} {l : List UInt8} (h : RB w B A l) : Src w A (l.map bv) := fun hne => by
  obtain ⟨b, o, hA, _, hc⟩ := h (by rintro rfl; simp at hne)
  refine ⟨_, hA, fun j u hu => ?_⟩
  obtain ⟨x, hx, rfl⟩ := List.getElem?_map .. ▸ hu |> Option.map_eq_some_iff.1
  obtain ⟨hj, rfl⟩ := List.getElem?_eq_some_iff.1 hx
  have e : (⟨b, o, none⟩ : Addr).add j = ⟨b, o + j, none⟩ := by unfold Addr.add; split <;> simp_all
  rw [e]
  exact hc j hj
/-- bytes that have just been laid in a block read so -/
theorem rb_new (w : World) (t : TypeId) (l : List UInt8) : RB (w.alloc (.cells (l.map bv).toArray t)) (w.heap.size + 1) (some ⟨w.heap.size, 0, none⟩) l := fun _ => by
  refine ⟨w.heap.size, 0, rfl, by omega, fun j hj => ?_⟩
  rw [World.cell?_alloc_at _ _ _ _ rfl]
  simp [bv, hj]
theorem rb_byte (w : World) (t : TypeId) (m : Nat) : RB (w.alloc (.cells #[.int .u8 ((m : Int) % 256)] t)) (w.heap.size + 1) (some ⟨w.heap.size, 0, none⟩) [UInt8.ofNat m] := by
  have h := rb_new w t [UInt8.ofNat m]
  simp only [List.map_cons, List.map_nil, bv, UInt8.toNat_ofNat'] at h
  exact h
/-- behind an append onto a row of the call's own: what lay below stands -/
theorem below_app {B base : Nat} {a w w' : World} {A : Option Addr} {c : Nat} {l : List UInt8} (h : Below B a w) (hg : w.grownBy w' (A.map (·.block))) (ho : OB w base A c l) (hB : B ≤ w.heap.size) (hb : B ≤ base) : Below B a w' :=
  h.grown hg hB (fun k hk => Nat.le_trans hb (ho.lt k hk).1)
/-- append of bytes onto bytes of the call's own -/
theorem wpList_app_bytes (w : World) {ops : Array Oper} {rest : List Oper} {o : Oper} {a : Act} {Q : Exit → Act → World → Prop} (hgd : o.guard = none) (s x : Operand)
    (ho : o.op = .call { callee := .builtin .append, args := #[s, x], argTypes := #[40, 40] })
    (base : Nat) (A : Option Addr) (c : Nat) (l : List UInt8) (n : Nat) (hs : a.eval s = .slice A n c) (hn : n = l.length) (hown : OB w base A c l)
    (A2 : Option Addr) (c2 : Nat) (l2 : List UInt8) (m : Nat) (hx : a.eval x = .slice A2 m c2) (hm : m = l2.length) {B : Nat} (hsrc : RB w B A2 l2)
    (hbytes : l.length + l2.length ≤ 140737488355328) (hbase : base ≤ w.heap.size)
    (h : ∀ A' c' L w', Hid (L = l ++ l2) → OB w' base A' c' L → w.grownBy w' (A.map (·.block)) → (A'.map (·.block) = A.map (·.block) ∨ A'.map (·.block) = some w.heap.size) →
      wpList Tryd.prog ops Q rest (a.put o.dst (.slice A' L.length c')) w') : wpList Tryd.prog ops Q (o :: rest) a w := by
  subst hn
  subst hm
  refine wpList_app w hgd s x 40 ho base 5 (.int .u8 0) 1 1 Tryd.underlying40 Tryd.infoByte rfl (by decide) A l.length c (l.map bv) hs hown A2 l2.length c2 (l2.map bv) hx (by simp) (rb_src hsrc) (bv_oneCell l2) (by omega) (by unfold maxLen; omega) hbase ?_
  intro A' c' w' h2 h3 h4
  have := h A' c' (l ++ l2) w' rfl (by unfold OB; rw [List.map_append, List.length_append]; exact h2) h3 h4
  rw [List.length_append] at this
  exact this
/-- what comes back is bytes of the call's own -/
def RetOB (w : World) (l : List UInt8) (e : Ending) (w' : World) : Prop := ∃ A c, e = .returned (.slice A l.length c) ∧ OB w' w.heap.size A c l ∧ Below w.heap.size w w'
/-- make([]byte, 0, n) -/
theorem wpList_make0_bytes (w : World) {ops : Array Oper} {rest : List Oper} {o : Oper} {a : Act} {Q : Exit → Act → World → Prop} (hg : o.guard = none) (l c : Operand) (hop : o.op = Op.makeSlice 40 l c)
    (base : Nat) (kl kc : IntKind) (C : Int) (n : Nat) (hl : a.eval l = .int kl 0) (hc : a.eval c = .int kc C) (hC : C = (n : Int)) (b2 : n ≤ 281474976710656) (b4 : base ≤ w.heap.size)
    (hK : ∀ w', OB w' base (some ⟨w.heap.size, 0, none⟩) n [] → w.grownBy w' none → wpList Tryd.prog ops Q rest (a.put o.dst (.slice (some ⟨w.heap.size, 0, none⟩) 0 n)) w') :
    wpList Tryd.prog ops Q (o :: rest) a w := by
  obtain ⟨i, hi, hz, hs1, hb1⟩ := info_parts Tryd.infoByte
  exact wpList_make_own w hg l c 40 hop base 5 i (.int .u8 0) 1 Tryd.underlying40 hi hz hs1 kl kc C n hl hc hC (by rw [hb1]; omega) (by unfold maxLen; omega) b4 hK
end Go.Proofs.YtiebpmpjclnpeaaDoor
/- Stores into bytes of the call's own. -/
namespace Go.Proofs.YtiebpmpjclnpeaaDoor
open Go.RowKit Nac
section
variable {w w' : World} {base B : Nat} {A : Option Addr} {c : Nat} {l : List UInt8}
theorem OB.at (h : OB w base A c l) {k : Nat} (hk : k < l.length) :
    ∃ g, A = some ⟨g, 0, none⟩ ∧ base ≤ g ∧ g < w.heap.size ∧ w.cell? ⟨g, k, none⟩ = some (.int .u8 ((l[k]).toNat : Int)) ∧ w.frozen? ⟨g, k, none⟩ = false := by
  rcases h.2 with ⟨hv, hn⟩ | ⟨g, cap, cur, hv, hb, hg, hnc, hcm, hcs, ht⟩
  · omega
  · injection hv with h1 h2 h3
    subst h1
    refine ⟨g, rfl, hb, (Array.getElem?_eq_some_iff.1 hg).1, ?_, ?_⟩
    · rw [cell_of_row w g k cur _ (0, 0) hg]
      have e : (l.map bv)[k]? = some (bv l[k]) := by simp [hk]
      rw [← ht, List.getElem?_take_of_lt (by omega)] at e
      simpa [bv] using e
    · unfold World.frozen?
      simp [hg]
theorem OB.set {g : Nat} (h : OB w base (some ⟨g, 0, none⟩) c l) (k : Nat) (x : UInt8) {v : Value} (hv : v = bv x) : OB (w.setCell ⟨g, k, none⟩ v) base (some ⟨g, 0, none⟩) c (l.set k x) := by
  subst hv
  have := (World.ownsRow.stored h k (bv x)).1
  unfold OB
  rw [List.map_set, List.length_set]
  exact this
theorem OB.other (h : OB w base A c l) {a : Addr} (ha : A.map (·.block) ≠ some a.block) (v : Value) : OB (w.setCell a v) base A c l :=
  ownsRow_setCell_other h (by cases A <;> simp_all [Value.ownBlock]) v
theorem OB.cellAt {g : Nat} (h : OB w base (some ⟨g, 0, none⟩) c l) {k : Nat} (hk : k < l.length) : w.cell? ⟨g, k, none⟩ = some (.int .u8 ((l[k]).toNat : Int)) := by
  obtain ⟨g', he, _, _, h1, _⟩ := h.at hk
  injection he with he
  injection he with he
  subst he
  exact h1
theorem OB.freeAt {g : Nat} (h : OB w base (some ⟨g, 0, none⟩) c l) (k : Nat) : w.frozen? ⟨g, k, none⟩ = false := World.ownsRow.frozenAt h k
theorem OB.block {g : Nat} (h : OB w base (some ⟨g, 0, none⟩) c l) : base ≤ g ∧ g < w.heap.size := h.lt g rfl
/-- make([]byte, n): n noughts -/
theorem wpList_makeN_bytes (w : World) {ops : Array Oper} {rest : List Oper} {o : Oper} {a : Act} {Q : Exit → Act → World → Prop} (hg : o.guard = none) (l c : Operand) (hop : o.op = Op.makeSlice 40 l c)
    (base : Nat) (kl kc : IntKind) (C : Int) (n : Nat) (hl : a.eval l = .int kl C) (hc : a.eval c = .int kc C) (hC : C = (n : Int)) (b2 : n ≤ 281474976710656) (b4 : base ≤ w.heap.size)
    (hK : ∀ w' L, Hid (L = List.replicate n (0 : UInt8)) → OB w' base (some ⟨w.heap.size, 0, none⟩) n L → w.grownBy w' none → wpList Tryd.prog ops Q rest (a.put o.dst (.slice (some ⟨w.heap.size, 0, none⟩) n n)) w') :
    wpList Tryd.prog ops Q (o :: rest) a w := by
  obtain ⟨i, hi, hz, hs1, hb1⟩ := info_parts Tryd.infoByte
  refine wpList_make_full w hg l c 40 hop base 5 i (.int .u8 0) 1 Tryd.underlying40 hi hz hs1 kl kc C C n hl hc hC hC (by rw [hb1]; omega) (by unfold maxLen; omega) b4 fun w' h1 h2 => hK w' _ rfl ?_ h2
  unfold OB
  have e : (madeCells (Value.int .u8 0).cells (n * 1)).toList = (List.replicate n (0 : UInt8)).map bv := by
    rw [Nat.mul_one, List.map_replicate]
    show (madeCells #[.int .u8 0] n).toList = _
    rw [toList_madeCells_one]
    rfl
  rw [e] at h1
  rw [List.length_replicate]
  exact h1
end
end Go.Proofs.YtiebpmpjclnpeaaDoor
/- Rows of the call's own, whatever their elements: reading, storing, cutting short. Over whatever program. -/
namespace Nac
open Go Go.RowKit
/-- the slice at A, of capacity c, has a row of its own with the cells xs -/
def Row (w : World) (e : TypeId) (size : Nat) (A : Option Addr) (c n : Nat) (xs : List Value) : Prop := w.ownsRow 0 e size (.slice A n c) n xs
section
variable {w w' : World} {e : TypeId} {size n c : Nat} {A : Option Addr} {xs : List Value}
theorem Row.at (h : Row w e size A c n xs) {j : Nat} (hj : j < xs.length) :
    ∃ g, A = some ⟨g, 0, none⟩ ∧ g < w.heap.size ∧ w.cell? ⟨g, j, none⟩ = some xs[j] ∧ ∀ k, w.frozen? ⟨g, k, none⟩ = false := by
  have hl := h.1
  rcases h.2 with ⟨_, hn⟩ | ⟨g, cap, cur, hv, _, hg, _⟩
  · subst hn; rw [Nat.zero_mul] at hl; omega
  · injection hv with h1 h2 h3
    subst h1
    refine ⟨g, rfl, (Array.getElem?_eq_some_iff.1 hg).1, ?_, fun k => World.ownsRow.frozenAt h k⟩
    rw [World.ownsRow.cellAt h j (by omega)]
    exact List.getElem?_eq_getElem hj
theorem Row.set {g : Nat} (h : Row w e size (some ⟨g, 0, none⟩) c n xs) (k : Nat) (v : Value) : Row (w.setCell ⟨g, k, none⟩ v) e size (some ⟨g, 0, none⟩) c n (xs.set k v) := (World.ownsRow.stored h k v).1
theorem Row.kept (h : Row w e size A c n xs) {row : Option Nat} (hg : w.grownBy w' row) (hne : A.map (·.block) = none ∨ A.map (·.block) ≠ row) : Row w' e size A c n xs :=
  World.ownsRow.kept h hg (by cases A <;> simp_all [Value.ownBlock])
theorem Row.other (h : Row w e size A c n xs) {a : Addr} (ha : A.map (·.block) ≠ some a.block) (v : Value) : Row (w.setCell a v) e size A c n xs :=
  ownsRow_setCell_other h (by cases A <;> simp_all [Value.ownBlock]) v
theorem Row.below (h : Row w e size A c n xs) (hb : Below w.heap.size w w') : Row w' e size A c n xs := by
  refine World.ownsRow.kept h (row := none) ⟨hb.os, hb.tape, hb.output, hb.size, fun k hk _ => hb.block k hk⟩ ?_
  cases A <;> simp [Value.ownBlock]
theorem Row.lt (h : Row w e size A c n xs) : ∀ g, A.map (·.block) = some g → g < w.heap.size := fun g hg => (World.ownsRow.lt h g (by cases A <;> simp_all [Value.ownBlock])).2
theorem Row.len (h : Row w e size A c n xs) : xs.length = n * size := h.1
theorem Row.nil (w : World) (e : TypeId) (size : Nat) : Row w e size none 0 0 [] := World.ownsRow_nil w 0 e size
theorem Row.cap (h : Row w e size A c n xs) : n ≤ c := by
  rcases h.2 with ⟨hv, hn⟩ | ⟨g, cap, cur, hv, _, _, hnc, _⟩
  · omega
  · injection hv with h1 h2 h3
    omega
theorem Row.short (h : Row w e size A c n xs) (k : Nat) (hk : k ≤ n) : Row w e size A c k (xs.take (k * size)) := by
  have hl := h.1
  have hks : k * size ≤ n * size := Nat.mul_le_mul_right size hk
  refine ⟨by rw [List.length_take]; omega, ?_⟩
  rcases h.2 with ⟨hv, hn⟩ | ⟨g, cap, cur, hv, hb, hg, hnc, hcm, hcs, ht⟩
  · injection hv with h1 h2 h3
    subst h1
    left
    exact ⟨by rw [h3, (by omega : k = 0)], by omega⟩
  · injection hv with h1 h2 h3
    subst h1
    right
    refine ⟨g, cap, cur, by rw [h3], hb, hg, by omega, hcm, hcs, ?_⟩
    rw [← ht, List.take_take, Nat.min_eq_left hks]
end
/-- the cell f of element p -/
theorem flat_get {n : Nat} {L : List (List Value)} (h : ∀ x ∈ L, x.length = n) {p f : Nat} (hp : p < L.length) (hf : f < n) : ∃ hj : p * n + f < L.flatten.length, L.flatten[p * n + f] = L[p][f]'(by rw [h _ (List.getElem_mem hp)]; exact hf) := by
  obtain ⟨pre, post, e, hl⟩ := flatten_at n L h p hp
  have hlen : L[p].length = n := h _ (List.getElem_mem hp)
  have hj : p * n + f < L.flatten.length := by
    rw [e]; simp [hl, hlen, Nat.mul_comm p n]; omega
  refine ⟨hj, ?_⟩
  have e1 : L.flatten[p * n + f]? = some (L[p][f]'(by omega)) := by
    rw [e, List.append_assoc, List.getElem?_append_right (by rw [hl, Nat.mul_comm p n]; omega), List.getElem?_append_left (by rw [hl, hlen, Nat.mul_comm p n]; omega)]
    rw [hl, Nat.mul_comm p n, Nat.add_sub_cancel_left]
    exact List.getElem?_eq_getElem _
  rw [List.getElem?_eq_getElem hj] at e1
  exact Option.some.inj e1
theorem flat_set {n : Nat} {L : List (List Value)} (h : ∀ x ∈ L, x.length = n) {p f : Nat} (hp : p < L.length) (hf : f < n) (v : Value) : L.flatten.set (p * n + f) v = (L.set p (L[p].set f v)).flatten := by
  obtain ⟨pre, post, e, hl⟩ := flatten_at n L h p hp
  have hlen : L[p].length = n := h _ (List.getElem_mem hp)
  have e2 := flatten_set n L h p hp (L[p].set f v) (by simpa using hlen)
  rw [← e2]
  rw [e, List.append_assoc, List.set_append_right _ _ (by rw [hl, Nat.mul_comm p n]; omega), hl, Nat.mul_comm p n, Nat.add_sub_cancel_left, List.set_append_left _ _ (by omega)]
  rw [← hl, List.take_left, ← List.append_assoc pre, hl]
  rw [List.drop_append, List.drop_append, List.drop_of_length_le (by simp [hl]), hl, Nat.add_sub_cancel_left, List.nil_append, ← hlen, List.drop_of_length_le (Nat.le_refl _), Nat.sub_self, List.drop_zero, List.nil_append, List.append_assoc]
end Nac
/- A store of one cell. Over whatever program. -/
namespace Nac
open Go Go.RowKit
section
variable {P : Program} {w : World} {ops : Array Oper} {rest : List Oper} {o : Oper} {a : Act} {Q : Exit → Act → World → Prop}
theorem run_storeVar_cell (w : World) (b k : Nat) (ty : TypeId) (v old : Value) (hc : w.cell? ⟨b, k, none⟩ = some old) (hf : w.frozen? ⟨b, k, none⟩ = false) (hi : (P.info? ty).map (·.size) = some 1) (h1 : v.oneCell' = true) :
    (storeVar ty ⟨b, k, none⟩ v).run P w = .ok () (w.setCell ⟨b, k, none⟩ v) := by
  have hcv : v.cells = #[v] := by cases v <;> first | rfl | cases h1
  have := run_storeCells_cells (P := P) b k [v] 0 w (fun j hj => by
    have : j = 0 := by simpa using hj
    subst this; simp [hc]) (fun j hj => by
    have : j = 0 := by simpa using hj
    subst this; simpa using hf) (fun x hx => by simp at hx; subst hx; exact h1)
  cases hq : P.info? ty with
  | none => simp [hq] at hi
  | some i =>
    have hs : i.size = 1 := by simpa [hq] using hi
    simp only [Nat.add_zero] at this
    simp [storeVar, Go.sizeOf, typeInfo, hq, hcv, hs, this, World.setCells]
/-- a store of one cell: the world behind it under a name -/
theorem wpList_store1 (hg : o.guard = none) (ty : TypeId) (x y : Operand) (hop : o.op = .store ty x y) (b k : Nat) (v old : Value) (hx : a.eval x = .pointer (some ⟨b, k, none⟩)) (hy : a.eval y = v) (hc : w.cell? ⟨b, k, none⟩ = some old) (hf : w.frozen? ⟨b, k, none⟩ = false)
    (hi : (P.info? ty).map (·.size) = some 1) (h1 : v.oneCell' = true) (h : ∀ w', Hid (w' = w.setCell ⟨b, k, none⟩ v) → wpList P ops Q rest (a.put o.dst undef) w') : wpList P ops Q (o :: rest) a w :=
  wpList_plain hg fun _ hK => by
    unfold Oper.wp execOp
    simp only [hop, hx, hy, Instr.storeAt, Instr.sureAddr, Sem.run_bind, Sem.run_pure, Result.andThen_ok, run_storeVar_cell w b k ty v old hc hf hi h1]
    exact hK _ _ (h _ (Lib.hid rfl))
end
end Nac
