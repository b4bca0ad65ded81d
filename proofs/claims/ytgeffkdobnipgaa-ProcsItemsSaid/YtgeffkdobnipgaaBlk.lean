/- A block that is known whole: its cells as a list; loads and stores in its midst. Over whatever program. -/
import Derived.Deep.MidRow
import Derived.Test.YtgeffkdobnipgaaCom
namespace Nac
open Go Go.RowKit
/-- block b holds the cells cs, and may be written -/
def Blk (w : World) (b : Nat) (cs : List Value) : Prop := ∃ t, w.heap[b]? = some (.cells cs.toArray t (0, 0))
section
variable {w w' : World} {b : Nat} {cs : List Value}
theorem Blk.lt (h : Blk w b cs) : b < w.heap.size := by
  obtain ⟨t, h⟩ := h
  exact (Array.getElem?_eq_some_iff.1 h).1
theorem Blk.cell (h : Blk w b cs) {j : Nat} {v : Value} (hj : cs[j]? = some v) : w.cell? ⟨b, j, none⟩ = some v := by
  obtain ⟨t, h⟩ := h
  rw [cell_of_row w b j _ t (0, 0) h]
  simpa using hj
theorem Blk.free (h : Blk w b cs) (j : Nat) : w.frozen? ⟨b, j, none⟩ = false := by
  obtain ⟨t, h⟩ := h
  exact frozen_of_row w b j _ t h
theorem Blk.keep (h : Blk w b cs) (hk : w'.heap[b]? = w.heap[b]?) : Blk w' b cs := by
  obtain ⟨t, h⟩ := h
  exact ⟨t, hk.trans h⟩
theorem Blk.grown (h : Blk w b cs) {row : Option Nat} (hg : w.grownBy w' row) (hne : row ≠ some b) : Blk w' b cs := h.keep (hg.block b h.lt (fun e => hne e.symm))
theorem Blk.below {B : Nat} (h : Blk w b cs) (hb : Below B w w') (hB : b < B) : Blk w' b cs := h.keep (hb.block b hB)
theorem Blk.drew (h : Blk w b cs) : Blk w.drew b cs := h
theorem Blk.alloc (h : Blk w b cs) (o : Obj) : Blk (w.alloc o) b cs := h.keep (Below.heap_alloc w o b h.lt)
theorem Blk.new (w : World) (cs : List Value) (t : TypeId) : Blk (w.alloc (.cells cs.toArray t)) w.heap.size cs := ⟨t, heap_alloc_new w _⟩
theorem Blk.setCell (h : Blk w b cs) (j : Nat) (v : Value) : Blk (w.setCell ⟨b, j, none⟩ v) b (cs.set j v) := by
  obtain ⟨t, h⟩ := h
  exact ⟨t, by rw [heap_setCell_same w b j _ t v h]; simp⟩
theorem Blk.setCells : ∀ (vs : List Value) (o : Nat) {w : World} {cs : List Value}, Blk w b cs → o + vs.length ≤ cs.length → Blk (w.setCells b o vs) b (cs.take o ++ vs ++ cs.drop (o + vs.length))
  | [], o, w, cs, h, _ => by simpa [World.setCells] using h
  | v :: vs, o, w, cs, h, hl => by
    rw [World.setCells]
    have hl' : o + 1 + vs.length ≤ cs.length := by simp at hl; omega
    have := Blk.setCells vs (o + 1) (h.setCell o v) (by simpa using hl')
    have e : (cs.set o v).take (o + 1) ++ vs ++ (cs.set o v).drop (o + 1 + vs.length) = cs.take o ++ (v :: vs) ++ cs.drop (o + (v :: vs).length) := by
      rw [List.take_succ_eq_append_getElem (by simp; omega), List.getElem_set_self, List.take_set_of_le (by omega), List.drop_set_of_lt (by omega)]
      simp [Nat.add_assoc, Nat.add_comm 1]
    rw [e] at this
    exact this
theorem Blk.range (h : Blk w b cs) (o : Nat) (vs : List Value) (hv : ∃ pre post, cs = pre ++ vs ++ post ∧ pre.length = o) : w.rangeAt b o vs := by
  obtain ⟨pre, post, rfl, rfl⟩ := hv
  intro j v hj
  refine h.cell ?_
  have hj' : j < vs.length := (List.getElem?_eq_some_iff.1 hj).1
  rw [List.append_assoc, List.getElem?_append_right (by omega), Nat.add_sub_cancel_left, List.getElem?_append_left hj']
  exact hj
theorem Blk.there (h : Blk w b cs) (o n : Nat) (hl : o + n ≤ cs.length) : w.there b o n := fun j hj => by
  have hlt : o + j < cs.length := by omega
  exact ⟨by rw [h.cell (List.getElem?_eq_getElem hlt)]; rfl, h.free _⟩
end
theorem grown_setCell (w : World) (a : Addr) (v : Value) : w.grownBy (w.setCell a v) (some a.block) :=
  ⟨rfl, rfl, rfl, by simp [World.setCell], fun k _ hk => heap_setCell_other w a k v (fun e => hk (by simp [e]))⟩
theorem grown_setCells (b : Nat) : ∀ (vs : List Value) (o : Nat) (w : World), w.grownBy (w.setCells b o vs) (some b)
  | [], _, w => World.grownBy.refl w _
  | v :: vs, o, w => by
    rw [World.setCells]
    exact (grown_setCell w ⟨b, o, none⟩ v).trans (grown_setCells b vs (o + 1) _)
theorem grown_drew {w w' : World} {row : Option Nat} (h : w.grownBy w' row) : w.grownBy w'.drew row := ⟨h.os, h.tape, h.output, h.size, h.block⟩
theorem grown_of_drew {w w' : World} {row : Option Nat} (h : w.drew.grownBy w' row) : w.grownBy w' row := ⟨h.os, h.tape, h.output, h.size, h.block⟩
theorem grown_none {w w' : World} {row : Option Nat} (h : w.grownBy w' none) : w.grownBy w' row := ⟨h.os, h.tape, h.output, h.size, fun k hk _ => h.block k hk (by simp)⟩
/-- lists of rows of one length -/
theorem flatten_len (n : Nat) (L : List (List Value)) (h : ∀ x ∈ L, x.length = n) : L.flatten.length = n * L.length := by
  induction L with
  | nil => simp
  | cons x L ih =>
    rw [List.flatten_cons, List.length_append, ih (fun y hy => h y (List.mem_cons_of_mem _ hy)), h x List.mem_cons_self, List.length_cons, Nat.mul_succ, Nat.add_comm]
theorem flatten_set (n : Nat) (L : List (List Value)) (h : ∀ x ∈ L, x.length = n) (s : Nat) (hs : s < L.length) (x : List Value) (hx : x.length = n) :
    L.flatten.take (n * s) ++ x ++ L.flatten.drop (n * s + n) = (L.set s x).flatten := by
  have h1 : L = L.take s ++ L[s] :: L.drop (s + 1) := by rw [List.getElem_cons_drop, List.take_append_drop]
  have h2 : L.set s x = L.take s ++ x :: L.drop (s + 1) := by rw [List.set_eq_take_append_cons_drop, if_pos hs]
  have hl : (L.take s).flatten.length = n * s := by
    rw [flatten_len n _ (fun y hy => h y (List.mem_of_mem_take hy)), List.length_take, Nat.min_eq_left (by omega)]
  have hm : L[s].length = n := h _ (List.getElem_mem hs)
  have e : L.flatten = (L.take s).flatten ++ (L[s] ++ (L.drop (s + 1)).flatten) := by
    have h3 := congrArg List.flatten h1
    rwa [List.flatten_append, List.flatten_cons] at h3
  rw [h2, e, List.flatten_append, List.flatten_cons, ← hl, List.take_left, List.drop_append, List.drop_of_length_le (by omega), Nat.add_sub_cancel_left, List.nil_append, ← hm, List.drop_left, List.append_assoc]
theorem flatten_at (n : Nat) (L : List (List Value)) (h : ∀ x ∈ L, x.length = n) (s : Nat) (hs : s < L.length) : ∃ pre post, L.flatten = pre ++ L[s] ++ post ∧ pre.length = n * s := by
  have h1 : L = L.take s ++ L[s] :: L.drop (s + 1) := by rw [List.getElem_cons_drop, List.take_append_drop]
  refine ⟨(L.take s).flatten, (L.drop (s + 1)).flatten, ?_, ?_⟩
  · have h3 := congrArg List.flatten h1
    rw [List.flatten_append, List.flatten_cons] at h3
    rw [List.append_assoc]
    exact h3
  · rw [flatten_len n _ (fun y hy => h y (List.mem_of_mem_take hy)), List.length_take, Nat.min_eq_left (by omega)]
end Nac
