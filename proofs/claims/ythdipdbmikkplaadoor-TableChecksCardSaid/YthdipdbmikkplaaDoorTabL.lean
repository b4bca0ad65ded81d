/- What the table laws share: the table as it lies behind few. -/
import Derived.Test.YthdipdbmikkplaaDoorTabAwake
namespace Go.Proofs.YthdipdbmikkplaaDoor
open Go.RowKit Nac Nac.Table
theorem box_setCell {w : World} {b : Nat} {cs : List Value} (h : Box w b cs) (j : Nat) (v : Value) : Box (w.setCell ⟨b, j, none⟩ v) b (cs.set j v) := by
  obtain ⟨t, h⟩ := h
  exact ⟨t, by rw [heap_setCell_same w b j _ t v h]; simp⟩
theorem box_free {w : World} {b : Nat} {cs : List Value} (h : Box w b cs) (j : Nat) : w.frozen? ⟨b, j, none⟩ = false := by
  obtain ⟨t, h⟩ := h
  exact frozen_of_row w b j _ t h
/-- the table, as a law holds it -/
structure TbR (w : World) (T : Int) (A : Option Addr) (n c : Nat) (ws : List Win) (W : World) : Prop where
  bel : Below w.heap.size w W
  box : Box W w.heap.size [.int .i64 T, .slice A n c]
  rw : RW W W.heap.size A ws
  len : n = ws.length
theorem TbR.next {w W W' : World} {T : Int} {A : Option Addr} {n c : Nat} {ws : List Win} (h : TbR w T A n c ws W) (hb : Below W.heap.size W W') : TbR w T A n c ws W' :=
  ⟨h.bel.trans (hb.mono h.bel.size), h.box.below hb h.box.lt, (h.rw.below hb).mono hb.size, h.len⟩
theorem TbR.drew {w W : World} {T : Int} {A : Option Addr} {n c : Nat} {ws : List Win} (h : TbR w T A n c ws W) : TbR w T A n c ws W.drew :=
  ⟨h.bel.drew, h.box, h.rw, h.len⟩
theorem TbR.c0 {w W : World} {T : Int} {A : Option Addr} {n c : Nat} {ws : List Win} (h : TbR w T A n c ws W) : W.cell? ⟨w.heap.size, 0, none⟩ = some (.int .i64 T) := h.box.cell rfl
theorem TbR.c1 {w W : World} {T : Int} {A : Option Addr} {n c : Nat} {ws : List Win} (h : TbR w T A n c ws W) : W.cell? ⟨w.heap.size, 1, none⟩ = some (.slice A n c) := h.box.cell rfl
/-- behind 't = few(t)' -/
theorem TbR.start {w w2 : World} {T : Int} {A : Option Addr} {c : Nat} {ws : List Win} (hA : RW w w.heap.size A ws) (hb : Below (w.heap.size + 1) (w.alloc (.cells #[.int .i64 T, .slice A ws.length c] 24)) w2) :
    TbR w T A (fewW ws).length c (fewW ws) ((w2.setCell ⟨w.heap.size, 0, none⟩ (.int .i64 T)).setCell ⟨w.heap.size, 1, none⟩ (.slice A (fewW ws).length c)) := by
  have h0 : Below w.heap.size w (w.alloc (.cells #[.int .i64 T, .slice A ws.length c] 24)) := (Below.refl _ _).alloc (Nat.le_refl _) _
  have h1 : Below w.heap.size w w2 := h0.trans (hb.mono (Nat.le_succ _))
  have h2 : Below w.heap.size w ((w2.setCell ⟨w.heap.size, 0, none⟩ (.int .i64 T)).setCell ⟨w.heap.size, 1, none⟩ (.slice A (fewW ws).length c)) := (h1.setCell (Nat.le_refl _) _).setCell (Nat.le_refl _) _
  have hx : Box w2 w.heap.size [.int .i64 T, .slice A ws.length c] := (Box.new w _ _).below hb (Nat.lt_succ_self _)
  exact ⟨h2, box_setCell (box_setCell hx 0 _) 1 _, ((RW.few hA).below h2).mono h2.size, rfl⟩
theorem fewW_le (ws : List Win) : (fewW ws).length ≤ 140737488351232 ∨ 140737488351232 < ws.length := by
  unfold fewW; split
  · left; simp; omega
  · omega
end Go.Proofs.YthdipdbmikkplaaDoor
