/- A region that draws its order and appends one element of several cells to a row, other operations in between. -/
import Derived.Test.YtgeffkdobnipgaaAppL
import Derived.Test.YtgeffkdobnipgaaApp
namespace Nac
open Go Go.RowKit
section
variable {P : Program} {ops : Array Oper} {Q : Exit → Act → World → Prop} {R : (Nat → Bool) → World → World → Prop} {D : Nat → LD} {J : (Nat → Bool) → World → Prop} {a0 : Act} {i : Nat} {o : Oper}
theorem lstep_build (hrefl : ∀ L w, R L w w) (ho : ops[i]? = some o) (hw : ∀ L a w, LCtx ops R D J a0 i L a w → Region.wanted o (yielded ops a.tmps) = true) (hJ : ∀ L w, J L w → J (upd L i) w) (t : TypeId) (parts : Array (Nat × Operand)) (hop : o.op = .build t parts)
    (vals : Array (Nat × Value)) (cells : Array Value) (he : ∀ L a w, LCtx ops R D J a0 i L a w → parts.map (fun x => (x.1, a.eval x.2)) = vals) (hr : ∀ w, (Instr.build t vals).run P w = .ok (.agg cells) w) (hD : D i = .is (.agg cells)) : LStep P ops Q R D J a0 i :=
  lstep_pure hrefl ho hw hJ fun L a w c => ⟨.agg cells, by
    have e := he L a w c
    unfold execOp
    simp only [hop, e, Sem.run_bind, hr, Result.andThen_ok, Sem.run_pure], by rw [hD]; rfl⟩
end
def BuiltN (W : World) (us : List Value) (v : Value) (w : World) : Prop := ∃ g c2, v = .slice (some ⟨g, 0, none⟩) 1 c2 ∧ W.heap.size ≤ g ∧ g < w.heap.size ∧ ∀ j u, us[j]? = some u → w.cell? ⟨g, j, none⟩ = some u
end Nac
namespace Go.Proofs.Ytgeffkdobnipgaa
open Go.RowKit Nac
def AppedN (W : World) (E : TypeId) (size : Nat) (A : Option Addr) (n : Nat) (xs us : List Value) (v : Value) (w : World) : Prop := ∃ A' c', v = .slice A' (n + 1) c' ∧ Row w E size A' c' (n + 1) (xs ++ us) ∧ NewB W A A'
section
variable {W : World} {row : Option Nat} {ia : Nat}
theorem keep_builtN (i : Nat) (us : List Value) (hrow : ∀ k, row = some k → k < W.heap.size) : LD.keeps (AppR row ia) i (.pr (BuiltN W us)) := by
  rintro L v w w' _ ⟨g, c2, rfl, hg, hl, hc⟩ hr
  exact ⟨g, c2, rfl, hg, Nat.lt_of_lt_of_le hl hr.1.size, fun j u hu => (grown_cell hr.1 hl (fun e => by have := hrow g e.symm; omega)).trans (hc j u hu)⟩
theorem keep_appedN (E : TypeId) (size : Nat) (A : Option Addr) (n : Nat) (xs us : List Value) : LD.keeps (AppR row ia) ia (.pr (AppedN W E size A n xs us)) := by
  rintro L v w w' hl ⟨A', c', rfl, hrow, hn⟩ hr
  refine ⟨A', c', rfl, hrow.kept (hr.2 hl) ?_, hn⟩
  cases A' with
  | none => exact .inl rfl
  | some a => exact .inr (by simp)
end
section
variable {ops : Array Oper} {Q : Exit → Act → World → Prop} {D : Nat → LD} {a0 : Act} {i ia : Nat} {o : Oper} {W : World} {row : Option Nat}
theorem lstep_buildN {T E : TypeId} (hi : i ≠ ia) (ho : ops[i]? = some o) (hw : ∀ L a w, LCtx ops (AppR row ia) D (AppJ W row ia) a0 i L a w → Region.wanted o (yielded ops a.tmps) = true)
    (x : Tmp) (hop : o.op = .buildSlice T 1 #[(0, .tmp x)]) (us : List Value)
    (hr : ∀ w, (Instr.buildSlice T 1 #[(0, .agg us.toArray)]).run Try.prog w = .ok (.slice (some ⟨w.heap.size, 0, none⟩) 1 1) (w.alloc (.cells us.toArray E)))
    (hx : ∀ L a w, LCtx ops (AppR row ia) D (AppJ W row ia) a0 i L a w → a.tmps.getD x undef = .agg us.toArray) (hD : D i = .pr (BuiltN W us)) : LStep Try.prog ops Q (AppR row ia) D (AppJ W row ia) a0 i := by
  refine lstep_gen ho hw fun L a w c => ⟨.slice (some ⟨w.heap.size, 0, none⟩) 1 1, w.alloc (.cells us.toArray E), ?_, ?_, ?_, ?_⟩
  · have e := hx L a w c
    unfold execOp
    simp only [hop, List.map_toArray, List.map_cons, List.map_nil, Act.eval, e, Sem.run_bind, hr, Result.andThen_ok, Sem.run_pure]
  · rw [hD]
    have hb := Blk.new w us E
    exact ⟨w.heap.size, 1, rfl, c.world.1.size, hb.lt, fun j u hu => hb.cell hu⟩
  · exact ⟨World.grownBy_alloc w _ _, fun _ => World.grownBy_alloc w _ _⟩
  · exact AppJ.pure hi L _ ⟨c.world.1.trans (World.grownBy_alloc w _ _), fun e => (c.world.2 e).trans (World.grownBy_alloc w _ _)⟩
theorem lstep_appN {T E : TypeId} {z : Value} {size bytes : Nat} (hT : Try.prog.underlying T = some (.slice E)) (hinfo : (Try.prog.info? E).map (fun i => (i.zero, i.size, i.bytes)) = some (some z, size, bytes)) (hz1 : z.cells.size = size) (hsz : 0 < size) (hby : bytes ≤ 1000)
    (ho : ops[ia]? = some o) (hw : ∀ L a w, LCtx ops (AppR row ia) D (AppJ W row ia) a0 ia L a w → Region.wanted o (yielded ops a.tmps) = true) (s x : Tmp)
    (hop : o.op = .call { callee := .builtin .append, args := #[.tmp s, .tmp x], argTypes := #[T, T] })
    (A : Option Addr) (c n : Nat) (xs us : List Value) (hrA : row = A.map (·.block)) (hown : Row W E size A c n xs) (hul : us.length = size) (hu1 : ∀ u ∈ us, u.oneCell' = true) (hlen : n ≤ 1000000)
    (hs : ∀ L a w, LCtx ops (AppR row ia) D (AppJ W row ia) a0 ia L a w → a.tmps.getD s undef = .slice A n c)
    (hx : ∀ L a w, LCtx ops (AppR row ia) D (AppJ W row ia) a0 ia L a w → BuiltN W us (a.tmps.getD x undef) w) (hD : D ia = .pr (AppedN W E size A n xs us)) : LStep Try.prog ops Q (AppR row ia) D (AppJ W row ia) a0 ia := by
  subst hrA
  refine lstep_gen ho hw fun L a w cc => ?_
  have hmul : (n + 1) * bytes ≤ (n + 1) * 1000 := Nat.mul_le_mul_left _ hby
  obtain ⟨g, c2, hxv, hg, hgl, hsrc⟩ := hx L a w cc
  have hgn := cc.world.2 cc.fresh
  have hown2 : Row w E size A c n xs := hown.kept hgn (by
    cases A with
    | none => exact .inl rfl
    | some a => exact .inr (by simp))
  obtain ⟨A', c', w', hr, h2, h3, h5⟩ := run_app (P := Try.prog) w 0 T o.type E z size bytes hT hinfo hz1 hsz A n c xs hown2 (some ⟨g, 0, none⟩) 1 c2 us (by rw [hul, Nat.one_mul])
    (fun _ => ⟨_, rfl, fun j u hj => by rw [Addr.add_mid, Nat.zero_add]; exact hsrc j u hj⟩) hu1 (by omega) (by unfold maxLen; omega) (Nat.zero_le _)
  have e1 := hs L a w cc
  refine ⟨.slice A' (n + 1) c', w', ?_, ?_, ?_, ?_⟩
  · unfold execOp
    simp only [hop, resolve, invoke, builtin, Sem.run_bind, Sem.run_pure, Result.andThen_ok, List.map_toArray, List.map_cons, List.map_nil, Act.eval, e1, hxv, hr]
  · rw [hD]
    refine ⟨A', c', rfl, h2, ?_⟩
    rcases h5 with h5 | h5
    · exact .inl h5
    · exact .inr fun g hg => by rw [h5] at hg; injection hg with hg; have := hgn.size; omega
  · exact ⟨h3, fun e => by rw [cc.fresh] at e; cases e⟩
  · exact ⟨(grown_none hgn).trans h3, fun e => by simp [upd] at e⟩
end
end Go.Proofs.Ytgeffkdobnipgaa
