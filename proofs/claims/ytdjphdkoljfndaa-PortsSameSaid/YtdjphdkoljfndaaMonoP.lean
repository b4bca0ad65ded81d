/- Pointers in regions that draw; a frame written out anew. Over whatever program. -/
import Derived.Test.YtdjphdkoljfndaaMonoL
namespace Nac
open Go Go.RowKit
section
variable {P : Program} {ops : Array Oper} {Q : Exit → Act → World → Prop} {D : Nat → VD} {a0 : Act} {W0 : World} {i : Nat} {o : Oper}
theorem mstep_nil (ho : ops[i]? = some o) (hw : ∀ a w, MCtx ops D a0 W0 i a w → Region.wanted o (yielded ops a.tmps) = true) (x : Tmp) (hop : o.op = .nilCheck (.tmp x))
    (kx : Nat) (hkx : (preds ops 3 i).contains kx = true) (hx : dstOf ops kx = some x) (p : Addr) (hDx : D kx = .is (.pointer (some p))) (hD : D i = .is (.pointer (some p))) : MStep P ops Q D a0 W0 i :=
  mstep_one ho hw x kx hkx hx fun a w h => by
    rw [hDx] at h
    have h : a.tmps.getD x undef = .pointer (some p) := h
    exact ⟨.pointer (some p), by simp [execOp, hop, Act.eval, h], by rw [hD]; rfl⟩
theorem mstep_field (ho : ops[i]? = some o) (hw : ∀ a w, MCtx ops D a0 W0 i a w → Region.wanted o (yielded ops a.tmps) = true) (x : Tmp) (s : TypeId) (f : Nat) (hop : o.op = .fieldAddr s (.tmp x) f)
    (kx : Nat) (hkx : (preds ops 3 i).contains kx = true) (hx : dstOf ops kx = some x) (v r : Value) (hDx : D kx = .is v) (hD : D i = .is r) (hr : ∀ w, (Instr.fieldAt s v f).run P w = .ok r w) : MStep P ops Q D a0 W0 i :=
  mstep_one ho hw x kx hkx hx fun a w h => by
    rw [hDx] at h
    have h : a.tmps.getD x undef = v := h
    refine ⟨r, ?_, by rw [hD]; rfl⟩
    simp only [execOp, hop, Act.eval, h]
    rw [Sem.run_bind, hr w]
    rfl
theorem mstep_load (ho : ops[i]? = some o) (hw : ∀ a w, MCtx ops D a0 W0 i a w → Region.wanted o (yielded ops a.tmps) = true) (x : Tmp) (ty : TypeId) (hop : o.op = .load ty (.tmp x))
    (kx : Nat) (hkx : (preds ops 3 i).contains kx = true) (hx : dstOf ops kx = some x) (p r : Value) (hDx : D kx = .is p) (hD : D i = .is r) (hr : ∀ w, Below W0.heap.size W0 w → (Instr.loadAt ty p).run P w = .ok r w) : MStep P ops Q D a0 W0 i :=
  mstep_pure ho hw fun a w c => by
    have h := c.pred kx x (by simpa using hkx) hx
    rw [hDx] at h
    have h : a.tmps.getD x undef = p := h
    refine ⟨r, ?_, by rw [hD]; rfl⟩
    simp only [execOp, hop, Act.eval, h]
    rw [Sem.run_bind, hr w c.below]
    rfl
theorem mstep_loadT (ho : ops[i]? = some o) (hw : ∀ a w, MCtx ops D a0 W0 i a w → Region.wanted o (yielded ops a.tmps) = true) (x : Tmp) (ty : TypeId) (hop : o.op = .load ty (.tmp x))
    (ht : origB ops i x = true) (p r : Value) (hp : a0.tmps.getD x undef = p) (hD : D i = .is r) (hr : ∀ w, Below W0.heap.size W0 w → (Instr.loadAt ty p).run P w = .ok r w) : MStep P ops Q D a0 W0 i :=
  mstep_pure ho hw fun a w c => by
    have h : a.tmps.getD x undef = p := (c.orig x ht).trans hp
    refine ⟨r, ?_, by rw [hD]; rfl⟩
    simp only [execOp, hop, Act.eval, h]
    rw [Sem.run_bind, hr w c.below]
    rfl
end
/-- no operation writes slot t -/
def freeB (ops : Array Oper) (t : Nat) : Bool := (List.range ops.size).all fun i => dstOf ops i != some t
theorem free_dst {ops : Array Oper} {t : Nat} (h : freeB ops t = true) (i : Nat) : dstOf ops i ≠ some t := by
  intro hd
  rcases Nat.lt_or_ge i ops.size with hi | hi
  · unfold freeB at h
    rw [List.all_eq_true] at h
    have := h i (by simpa using hi)
    rw [hd] at this
    simp at this
  · simp [dstOf, Array.getElem?_eq_none hi] at hd
/-- a frame written out by its slots -/
theorem lit_of (n : Nat) (t : Array Value) (h : t.size = n) : t = ((List.range n).map fun i => t.getD i undef).toArray := by
  apply Array.ext (by simp [h])
  intro i h1 h2
  simp [Array.getD_eq_getD_getElem?, h1]
end Nac
