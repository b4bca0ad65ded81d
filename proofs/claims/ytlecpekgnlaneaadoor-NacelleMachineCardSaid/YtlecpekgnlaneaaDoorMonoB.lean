/- Bytes in regions that draw. -/
import Derived.Test.YtlecpekgnlaneaaDoorMono
import Derived.Test.YtlecpekgnlaneaaDoorConv
namespace Go.Proofs.YtlecpekgnlaneaaDoor
open Go.RowKit Nac
/-- v is a slice of bytes that reads l -/
def RBy (l : List UInt8) (v : Value) (w : World) : Prop := ∃ A c, v = .slice A l.length c ∧ RB w w.heap.size A l
theorem rby_mono (l : List UInt8) : ∀ v w w', RBy l v w → Below w.heap.size w w' → RBy l v w' := fun _ _ _ ⟨A, c, h1, h3⟩ hb => ⟨A, c, h1, (h3.below hb).mono hb.size⟩
def byt (l : List UInt8) : VD := .pr (RBy l) (rby_mono l)
section
variable {ops : Array Oper} {Q : Exit → Act → World → Prop} {D : Nat → VD} {a0 : Act} {W0 : World} {i : Nat} {o : Oper}
theorem mstep_conv (ho : ops[i]? = some o) (hw : ∀ a w, MCtx ops D a0 W0 i a w → Region.wanted o (yielded ops a.tmps) = true) (x : Tmp) (hop : o.op = .convert 22 9 (.tmp x))
    (kx : Nat) (hkx : (preds ops 3 i).contains kx = true) (hx : dstOf ops kx = some x) (l : List UInt8) (hDx : D kx = byt l) (hD : D i = .is (.string (strB l))) : MStep Tryd.prog ops Q D a0 W0 i :=
  mstep_one ho hw x kx hkx hx fun a w h => by
    rw [hDx] at h
    obtain ⟨A, c, h1, h3⟩ := h
    refine ⟨.string (strB l), ?_, by rw [hD]; rfl⟩
    simp only [execOp, hop, Act.eval, h1]
    rw [Sem.run_bind, run_conv w h3 l.length c rfl]
    rfl
theorem mstep_len (ho : ops[i]? = some o) (hw : ∀ a w, MCtx ops D a0 W0 i a w → Region.wanted o (yielded ops a.tmps) = true) (x : Tmp) (hop : o.op = .call { callee := .builtin .len, args := #[.tmp x], argTypes := #[22] })
    (kx : Nat) (hkx : (preds ops 3 i).contains kx = true) (hx : dstOf ops kx = some x) (l : List UInt8) (hDx : D kx = byt l) (hD : D i = .is (.int .i64 l.length)) : MStep Tryd.prog ops Q D a0 W0 i :=
  mstep_one ho hw x kx hkx hx fun a w h => by
    rw [hDx] at h
    obtain ⟨A, c, h1, h3⟩ := h
    refine ⟨.int .i64 l.length, ?_, by rw [hD]; rfl⟩
    simp [execOp, hop, Act.eval, h1, resolve, invoke, builtin, Builtin.len_, goInt]
end
end Go.Proofs.YtlecpekgnlaneaaDoor
