/- Slices of bytes that came in: the operation, in a walk and in a region that draws. -/
import Derived.Test.YtlecpekgnlaneaaDoorMonoB
namespace Nac
open Go
theorem RB.cut {w : World} {B : Nat} {A : Option Addr} {l : List UInt8} (h : RB w B A l) (lo hi c : Nat) (hle : lo ≤ hi) (hhl : hi ≤ l.length) (hlc : l.length ≤ c) :
    RB w B (if c = lo then A else A.map (·.add (lo * 1))) ((l.take hi).drop lo) := fun hne => by
  have hlt : lo < hi := by
    rcases Nat.lt_or_ge lo hi with h | h
    · exact h
    · exact absurd (List.drop_of_length_le (by simp; omega)) hne
  obtain ⟨b, o, rfl, hb, hc⟩ := h (by rintro rfl; simp at hne)
  rw [if_neg (by omega)]
  refine ⟨b, o + lo, ?_, hb, fun j hj => ?_⟩
  · simp only [Option.map_some, Nat.mul_one]
    unfold Addr.add
    split
    · subst lo; rfl
    · rfl
  · have := hc (lo + j) (by simp at hj; omega)
    rw [List.getElem_drop, List.getElem_take, ← this, Nat.add_assoc]
end Nac
namespace Go.Proofs.YtlecpekgnlaneaaDoor
open Go.RowKit Nac
theorem run_cut (w : World) (A : Option Addr) (n c : Nat) (hlc : n ≤ c) (lv hv : Option Value) (lo hi : Nat) (h1 : (lv = none ∧ lo = 0) ∨ lv = some (.int .i64 lo)) (h2 : (hv = none ∧ hi = n) ∨ hv = some (.int .i64 hi)) (hle : lo ≤ hi) (hhl : hi ≤ n) :
    (Instr.sliceAt 22 (.slice A n c) lv hv none).run Tryd.prog w = .ok (.slice (if c = lo then A else A.map (·.add (lo * 1))) (hi - lo) (c - lo)) w := by
  have hu := Tryd.underlying22
  have hc1 : (sizeOf 5).run Tryd.prog w = .ok 1 w := by
    obtain ⟨i, hi, _, hs, _⟩ := info_parts Tryd.infoByte
    simp [sizeOf, typeInfo, hi, hs]
  have a5 : hi ≤ c := by omega
  have a6 : lo ≤ n := by omega
  rcases h1 with ⟨rfl, rfl⟩ | rfl <;> rcases h2 with ⟨rfl, rfl⟩ | rfl <;>
    simp [Instr.sliceAt, Instr.slice, run_underlying hu, Instr.sliceBounds, Instr.sliceBound, asIntOf, hc1, a5, a6, hle]
/-- in a walk: what follows is told of whatever slice comes of it -/
theorem wpList_cut (w : World) {ops : Array Oper} {rest : List Oper} {o : Oper} {a : Act} {Q : Exit → Act → World → Prop} (hg : o.guard = none ∨ Region.wanted o (yielded ops a.tmps) = true) (x : Operand) (lO hO : Option Operand) (hop : o.op = .slice 22 x lO hO none)
    (B : Nat) (A : Option Addr) (n c : Nat) (l : List UInt8) (hn : n = l.length) (hx : a.eval x = .slice A n c) (h : RB w B A l) (hlc : l.length ≤ c) (lo hi : Nat) (h1 : (lO.map a.eval = none ∧ lo = 0) ∨ lO.map a.eval = some (.int .i64 lo)) (h2 : (hO.map a.eval = none ∧ hi = n) ∨ hO.map a.eval = some (.int .i64 hi)) (hle : lo ≤ hi) (hhl : hi ≤ n)
    (hK : ∀ A' m L, Hid (L = (l.take hi).drop lo) → Hid (m = hi - lo) → m = L.length → RB w B A' L → wpList Tryd.prog ops Q rest (a.put o.dst (.slice A' L.length (c - lo))) w) : wpList Tryd.prog ops Q (o :: rest) a w := by
  subst hn
  have hw : Region.wanted o (yielded ops a.tmps) = true := by
    rcases hg with hg | hg
    · simp [Region.wanted, hg]
    · exact hg
  unfold wpList
  rw [if_pos hw]
  refine Or.inl ?_
  unfold Oper.wp
  have hr := run_cut w A l.length c hlc (lO.map a.eval) (hO.map a.eval) lo hi h1 h2 hle hhl
  have hl : ((l.take hi).drop lo).length = hi - lo := by simp; omega
  have e : (execOp a.eval o).run Tryd.prog w = .ok (.value (.slice (if c = lo then A else A.map (·.add (lo * 1))) (hi - lo) (c - lo))) w := by
    simp only [execOp, hop, hx]
    rw [Sem.run_bind, Option.map_none, hr]
    rfl
  rw [e]
  have := hK _ _ _ rfl rfl hl.symm (h.cut lo hi c hle hhl hlc)
  rw [hl] at this
  exact this
/-- v is a slice of bytes that reads l, within its capacity -/
def RByc (l : List UInt8) (v : Value) (w : World) : Prop := ∃ A c, v = .slice A l.length c ∧ l.length ≤ c ∧ RB w w.heap.size A l
theorem rbyc_mono (l : List UInt8) : ∀ v w w', RByc l v w → Below w.heap.size w w' → RByc l v w' := fun _ _ _ ⟨A, c, h1, h2, h3⟩ hb => ⟨A, c, h1, h2, (h3.below hb).mono hb.size⟩
def byc (l : List UInt8) : VD := .pr (RByc l) (rbyc_mono l)
section
variable {ops : Array Oper} {Q : Exit → Act → World → Prop} {D : Nat → VD} {a0 : Act} {W0 : World} {i : Nat} {o : Oper}
theorem mstep_cutto (ho : ops[i]? = some o) (hw : ∀ a w, MCtx ops D a0 W0 i a w → Region.wanted o (yielded ops a.tmps) = true) (x y : Tmp) (hop : o.op = .slice 22 (.tmp x) none (some (.tmp y)) none)
    (kx ky : Nat) (hkx : (preds ops 3 i).contains kx = true) (hky : (preds ops 3 i).contains ky = true) (hx : dstOf ops kx = some x) (hy : dstOf ops ky = some y) (l m : List UInt8) (hi : Nat) (hDx : D kx = byc l) (hDy : D ky = .is (.int .i64 hi)) (hhi : hi ≤ l.length) (hm : m = l.take hi) (hD : D i = byt m) : MStep Tryd.prog ops Q D a0 W0 i :=
  mstep_pure ho hw fun a w k => by
    have g1 := k.pred kx x (by simpa using hkx) hx
    rw [hDx] at g1
    obtain ⟨A, c, h1, h2, h3⟩ := g1
    have g2 := k.pred ky y (by simpa using hky) hy
    rw [hDy] at g2
    have g2 : a.tmps.getD y undef = .int .i64 hi := g2
    have hr := run_cut w A l.length c h2 none (some (.int .i64 hi)) 0 hi (Or.inl ⟨rfl, rfl⟩) (Or.inr rfl) (Nat.zero_le _) hhi
    refine ⟨.slice (if c = 0 then A else A.map (·.add (0 * 1))) (hi - 0) (c - 0), ?_, ?_⟩
    · simp only [execOp, hop, Act.eval, h1, g2, Option.map_none, Option.map_some]
      rw [Sem.run_bind, hr]
      rfl
    · rw [hD]
      have hl : m.length = hi := by rw [hm]; simp; omega
      refine ⟨if c = 0 then A else A.map (·.add (0 * 1)), c - 0, by rw [hl]; rfl, ?_⟩
      have := h3.cut 0 hi c (Nat.zero_le _) hhi h2
      rw [List.drop_zero, ← hm] at this
      exact this
end
end Go.Proofs.YtlecpekgnlaneaaDoor
