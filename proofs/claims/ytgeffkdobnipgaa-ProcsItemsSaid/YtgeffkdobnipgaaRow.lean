/- Rows of the call's own, whatever their elements: reading, storing, cutting short. Over whatever program. -/
import Derived.Test.YtgeffkdobnipgaaBlk
import Derived.OneCell
namespace Nac
open Go Go.RowKit
/-- the slice at A, of capacity c, has a row of its own with the cells xs -/
def Row (w : World) (e : TypeId) (size : Nat) (A : Option Addr) (c n : Nat) (xs : List Value) : Prop := w.ownsRow 0 e size (.slice A n c) n xs
section
variable {w w' : World} {e : TypeId} {size n c : Nat} {A : Option Addr} {xs : List Value}
theorem Row.at (h : Row w e size A c n xs) {j : Nat} (hj : j < xs.length) :
    ∃ g, A = some ⟨g, 0, none⟩ ∧ g < w.heap.size ∧ w.cell? ⟨g, j, none⟩ = some xs[j] ∧ ∀ k, w.frozen? ⟨g, k, none⟩ = false := by
  have hl := h.1
  rcases h.2 with ⟨_, hn⟩ | ⟨g, cap, cur, hv, _, hg, _⟩
  · subst hn; rw [Nat.zero_mul] at hl; omega
  · injection hv with h1 h2 h3
    subst h1
    refine ⟨g, rfl, (Array.getElem?_eq_some_iff.1 hg).1, ?_, fun k => World.ownsRow.frozenAt h k⟩
    rw [World.ownsRow.cellAt h j (by omega)]
    exact List.getElem?_eq_getElem hj
theorem Row.set {g : Nat} (h : Row w e size (some ⟨g, 0, none⟩) c n xs) (k : Nat) (v : Value) : Row (w.setCell ⟨g, k, none⟩ v) e size (some ⟨g, 0, none⟩) c n (xs.set k v) := (World.ownsRow.stored h k v).1
theorem Row.kept (h : Row w e size A c n xs) {row : Option Nat} (hg : w.grownBy w' row) (hne : A.map (·.block) = none ∨ A.map (·.block) ≠ row) : Row w' e size A c n xs :=
  World.ownsRow.kept h hg (by cases A <;> simp_all [Value.ownBlock])
theorem Row.other (h : Row w e size A c n xs) {a : Addr} (ha : A.map (·.block) ≠ some a.block) (v : Value) : Row (w.setCell a v) e size A c n xs :=
  ownsRow_setCell_other h (by cases A <;> simp_all [Value.ownBlock]) v
theorem Row.below (h : Row w e size A c n xs) (hb : Below w.heap.size w w') : Row w' e size A c n xs := by
  refine World.ownsRow.kept h (row := none) ⟨hb.os, hb.tape, hb.output, hb.size, fun k hk _ => hb.block k hk⟩ ?_
  cases A <;> simp [Value.ownBlock]
theorem Row.lt (h : Row w e size A c n xs) : ∀ g, A.map (·.block) = some g → g < w.heap.size := fun g hg => (World.ownsRow.lt h g (by cases A <;> simp_all [Value.ownBlock])).2
theorem Row.len (h : Row w e size A c n xs) : xs.length = n * size := h.1
theorem Row.nil (w : World) (e : TypeId) (size : Nat) : Row w e size none 0 0 [] := World.ownsRow_nil w 0 e size
theorem Row.cap (h : Row w e size A c n xs) : n ≤ c := by
  rcases h.2 with ⟨hv, hn⟩ | ⟨g, cap, cur, hv, _, _, hnc, _⟩
  · omega
  · injection hv with h1 h2 h3
    omega
theorem Row.short (h : Row w e size A c n xs) (k : Nat) (hk : k ≤ n) : Row w e size A c k (xs.take (k * size)) := by
  have hl := h.1
  have hks : k * size ≤ n * size := Nat.mul_le_mul_right size hk
  refine ⟨by rw [List.length_take]; omega, ?_⟩
  rcases h.2 with ⟨hv, hn⟩ | ⟨g, cap, cur, hv, hb, hg, hnc, hcm, hcs, ht⟩
  · injection hv with h1 h2 h3
    subst h1
    left
    exact ⟨by rw [h3, (by omega : k = 0)], by omega⟩
  · injection hv with h1 h2 h3
    subst h1
    right
    refine ⟨g, cap, cur, by rw [h3], hb, hg, by omega, hcm, hcs, ?_⟩
    rw [← ht, List.take_take, Nat.min_eq_left hks]
end
/-- the cell f of element p -/
theorem flat_get {n : Nat} {L : List (List Value)} (h : ∀ x ∈ L, x.length = n) {p f : Nat} (hp : p < L.length) (hf : f < n) : ∃ hj : p * n + f < L.flatten.length, L.flatten[p * n + f] = L[p][f]'(by rw [h _ (List.getElem_mem hp)]; exact hf) := by
  obtain ⟨pre, post, e, hl⟩ := flatten_at n L h p hp
  have hlen : L[p].length = n := h _ (List.getElem_mem hp)
  have hj : p * n + f < L.flatten.length := by
    rw [e]; simp [hl, hlen, Nat.mul_comm p n]; omega
  refine ⟨hj, ?_⟩
  have e1 : L.flatten[p * n + f]? = some (L[p][f]'(by omega)) := by
    rw [e, List.append_assoc, List.getElem?_append_right (by rw [hl, Nat.mul_comm p n]; omega), List.getElem?_append_left (by rw [hl, hlen, Nat.mul_comm p n]; omega)]
    rw [hl, Nat.mul_comm p n, Nat.add_sub_cancel_left]
    exact List.getElem?_eq_getElem _
  rw [List.getElem?_eq_getElem hj] at e1
  exact Option.some.inj e1
theorem flat_set {n : Nat} {L : List (List Value)} (h : ∀ x ∈ L, x.length = n) {p f : Nat} (hp : p < L.length) (hf : f < n) (v : Value) : L.flatten.set (p * n + f) v = (L.set p (L[p].set f v)).flatten := by
  obtain ⟨pre, post, e, hl⟩ := flatten_at n L h p hp
  have hlen : L[p].length = n := h _ (List.getElem_mem hp)
  have e2 := flatten_set n L h p hp (L[p].set f v) (by simpa using hlen)
  rw [← e2]
  rw [e, List.append_assoc, List.set_append_right _ _ (by rw [hl, Nat.mul_comm p n]; omega), hl, Nat.mul_comm p n, Nat.add_sub_cancel_left, List.set_append_left _ _ (by omega)]
  rw [← hl, List.take_left, ← List.append_assoc pre, hl]
  rw [List.drop_append, List.drop_append, List.drop_of_length_le (by simp [hl]), hl, Nat.add_sub_cancel_left, List.nil_append, ← hlen, List.drop_of_length_le (Nat.le_refl _), Nat.sub_self, List.drop_zero, List.nil_append, List.append_assoc]
end Nac
