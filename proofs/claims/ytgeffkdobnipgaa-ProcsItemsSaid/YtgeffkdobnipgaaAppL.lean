/- A region that draws its order and appends one cell to a row, other operations in between: its slots, by XRelL. -/
import Derived.Test.YtgeffkdobnipgaaRelL
import Derived.Test.YtgeffkdobnipgaaProcMem2
import Derived.Great.BuildSlice
namespace Nac
open Go Go.RowKit
section
variable {P : Program} {ops : Array Oper} {Q : Exit → Act → World → Prop} {R : (Nat → Bool) → World → World → Prop} {D : Nat → LD} {J : (Nat → Bool) → World → Prop} {a0 : Act} {i : Nat} {o : Oper}
theorem lstep_gen (ho : ops[i]? = some o) (hw : ∀ L a w, LCtx ops R D J a0 i L a w → Region.wanted o (yielded ops a.tmps) = true)
    (h : ∀ L a w, LCtx ops R D J a0 i L a w → ∃ v w', (execOp a.eval o).run P w = .ok (.value v) w' ∧ (D i).ok v w' ∧ R L w w' ∧ J (upd L i) w') : LStep P ops Q R D J a0 i := by
  intro o' ho' L a w c
  rw [ho] at ho'
  obtain rfl := Option.some.inj ho'
  rw [if_pos (hw L a w c)]
  obtain ⟨v, w', hr, hv, hj⟩ := h L a w c
  unfold Oper.wp
  rw [hr]
  exact ⟨v, rfl, hv, hj⟩
end
def AppJ (W : World) (row : Option Nat) (ia : Nat) (L : Nat → Bool) (w : World) : Prop := W.grownBy w row ∧ (L ia = false → W.grownBy w none)
def AppR (row : Option Nat) (ia : Nat) (L : Nat → Bool) (w w' : World) : Prop := w.grownBy w' row ∧ (L ia = true → w.grownBy w' none)
theorem AppR.refl (row : Option Nat) (ia : Nat) (L : Nat → Bool) (w : World) : AppR row ia L w w := ⟨World.grownBy.refl w _, fun _ => World.grownBy.refl w _⟩
theorem AppJ.pure {W : World} {row : Option Nat} {ia i : Nat} (h : i ≠ ia) (L : Nat → Bool) (w : World) (hj : AppJ W row ia L w) : AppJ W row ia (upd L i) w :=
  ⟨hj.1, fun e => hj.2 (by unfold upd at e; rw [if_neg (fun e' => h e'.symm)] at e; exact e)⟩
theorem AppJ.start (W : World) (row : Option Nat) (ia : Nat) : AppJ W row ia (fun _ => false) W.drew := ⟨⟨rfl, rfl, rfl, Nat.le_refl _, fun _ _ _ => rfl⟩, fun _ => ⟨rfl, rfl, rfl, Nat.le_refl _, fun _ _ _ => rfl⟩⟩
def Built1 (W : World) (u : Value) (v : Value) (w : World) : Prop := ∃ g c2, v = .slice (some ⟨g, 0, none⟩) 1 c2 ∧ w.cell? ⟨g, 0, none⟩ = some u ∧ W.heap.size ≤ g
end Nac
namespace Go.Proofs.Ytgeffkdobnipgaa
open Go.RowKit Nac
def Apped (W : World) (E : TypeId) (A : Option Addr) (n : Nat) (xs : List Value) (u : Value) (v : Value) (w : World) : Prop := ∃ A' c', v = .slice A' (n + 1) c' ∧ Row w E 1 A' c' (n + 1) (xs ++ [u]) ∧ NewB W A A'
theorem grown_cell {w w' : World} {row : Option Nat} {b k : Nat} (hg : w.grownBy w' row) (hb : b < w.heap.size) (hne : some b ≠ row) : w'.cell? ⟨b, k, none⟩ = w.cell? ⟨b, k, none⟩ := by
  unfold World.cell?
  rw [hg.block b hb hne]
theorem cell_lt {w : World} {b k : Nat} {v : Value} (h : w.cell? ⟨b, k, none⟩ = some v) : b < w.heap.size := by
  apply Classical.byContradiction
  intro hb
  unfold World.cell? at h
  rw [Array.getElem?_eq_none (Nat.le_of_not_lt hb)] at h
  simp at h
section
variable {W : World} {row : Option Nat} {ia : Nat}
theorem keep_built (i : Nat) (u : Value) (hrow : ∀ k, row = some k → k < W.heap.size) : LD.keeps (AppR row ia) i (.pr (Built1 W u)) := by
  rintro L v w w' _ ⟨g, c2, rfl, hc, hg⟩ hr
  exact ⟨g, c2, rfl, (grown_cell hr.1 (cell_lt hc) (fun e => by have := hrow g e.symm; omega)).trans hc, hg⟩
theorem keep_apped (E : TypeId) (A : Option Addr) (n : Nat) (xs : List Value) (u : Value) : LD.keeps (AppR row ia) ia (.pr (Apped W E A n xs u)) := by
  rintro L v w w' hl ⟨A', c', rfl, hrow, hn⟩ hr
  refine ⟨A', c', rfl, hrow.kept (hr.2 hl) ?_, hn⟩
  cases A' with
  | none => exact .inl rfl
  | some a => exact .inr (by simp)
end
section
variable {ops : Array Oper} {Q : Exit → Act → World → Prop} {D : Nat → LD} {a0 : Act} {i ia : Nat} {o : Oper} {W : World} {row : Option Nat}
/-- a row of one cell -/
theorem lstep_build1 {T E : TypeId} (hi : i ≠ ia) (ho : ops[i]? = some o) (hw : ∀ L a w, LCtx ops (AppR row ia) D (AppJ W row ia) a0 i L a w → Region.wanted o (yielded ops a.tmps) = true)
    (x : Tmp) (hop : o.op = .buildSlice T 1 #[(0, .tmp x)]) (u : Value)
    (hr : ∀ w, (Instr.buildSlice T 1 #[(0, u)]).run Try.prog w = .ok (.slice (some ⟨w.heap.size, 0, none⟩) 1 1) (w.alloc (.cells #[u] E)))
    (hx : ∀ L a w, LCtx ops (AppR row ia) D (AppJ W row ia) a0 i L a w → a.tmps.getD x undef = u) (hD : D i = .pr (Built1 W u)) : LStep Try.prog ops Q (AppR row ia) D (AppJ W row ia) a0 i := by
  refine lstep_gen ho hw fun L a w c => ⟨.slice (some ⟨w.heap.size, 0, none⟩) 1 1, w.alloc (.cells #[u] E), ?_, ?_, ?_, ?_⟩
  · have e := hx L a w c
    unfold execOp
    simp only [hop, List.map_toArray, List.map_cons, List.map_nil, Act.eval, e, Sem.run_bind, hr, Result.andThen_ok, Sem.run_pure]
  · rw [hD]
    exact ⟨w.heap.size, 1, rfl, by rw [World.cell?_alloc_at _ _ _ _ rfl]; rfl, c.world.1.size⟩
  · exact ⟨World.grownBy_alloc w _ _, fun _ => World.grownBy_alloc w _ _⟩
  · exact AppJ.pure hi L _ ⟨c.world.1.trans (World.grownBy_alloc w _ _), fun e => (c.world.2 e).trans (World.grownBy_alloc w _ _)⟩
/-- append of it -/
theorem lstep_app1 {T E : TypeId} {z : Value} {bytes : Nat} (hT : Try.prog.underlying T = some (.slice E)) (hinfo : (Try.prog.info? E).map (fun i => (i.zero, i.size, i.bytes)) = some (some z, 1, bytes)) (hz1 : z.cells.size = 1) (hby : bytes ≤ 8)
    (ho : ops[ia]? = some o) (hw : ∀ L a w, LCtx ops (AppR row ia) D (AppJ W row ia) a0 ia L a w → Region.wanted o (yielded ops a.tmps) = true) (s x : Tmp)
    (hop : o.op = .call { callee := .builtin .append, args := #[.tmp s, .tmp x], argTypes := #[T, T] })
    (A : Option Addr) (c n : Nat) (xs : List Value) (u : Value) (hrA : row = A.map (·.block)) (hown : Row W E 1 A c n xs) (hu1 : u.oneCell' = true) (hlen : n ≤ 1000000)
    (hs : ∀ L a w, LCtx ops (AppR row ia) D (AppJ W row ia) a0 ia L a w → a.tmps.getD s undef = .slice A n c)
    (hx : ∀ L a w, LCtx ops (AppR row ia) D (AppJ W row ia) a0 ia L a w → Built1 W u (a.tmps.getD x undef) w) (hD : D ia = .pr (Apped W E A n xs u)) : LStep Try.prog ops Q (AppR row ia) D (AppJ W row ia) a0 ia := by
  subst hrA
  obtain ⟨ti, hi, hz, hs1, hb1⟩ := info_parts hinfo
  refine lstep_gen ho hw fun L a w cc => ?_
  have eb : Value.ownBlock (.slice A n c) = A.map (·.block) := by cases A <;> rfl
  have hmul : (n + 1) * bytes ≤ (n + 1) * 8 := Nat.mul_le_mul_left _ hby
  obtain ⟨g, c2, hxv, hsrc, hg⟩ := hx L a w cc
  have hgn := cc.world.2 cc.fresh
  have hown2 : Row w E 1 A c n xs := hown.kept hgn (by
    cases A with
    | none => exact .inl rfl
    | some a => exact .inr (by simp))
  obtain ⟨v', w', hr, h2, h3, _, h5⟩ := run_append_own_at (P := Try.prog) w 0 T o.type E ti z 1 bytes hT hi hz hs1 hb1 hz1 (by decide) _ n xs hown2 ⟨g, 0, none⟩ 1 c2 [u] rfl
    (fun j v hv => by
      have hj : j = 0 := by have := (List.getElem?_eq_some_iff.1 hv).1; simpa using this
      subst hj
      simp at hv
      subst hv
      simpa [Addr.add] using hsrc) (fun v hv => by simp at hv; subst hv; exact hu1) (by unfold maxLen; omega) (by omega) (Nat.zero_le _)
  obtain ⟨A', c', rfl⟩ := own_formI h2
  have eb' : Value.ownBlock (.slice A' (n + 1) c') = A'.map (·.block) := by cases A' <;> rfl
  rw [eb] at h3 h5
  rw [eb'] at h5
  have e1 := hs L a w cc
  refine ⟨.slice A' (n + 1) c', w', ?_, ?_, ?_, ?_⟩
  · unfold execOp
    simp only [hop, resolve, invoke, builtin, Sem.run_bind, Sem.run_pure, Result.andThen_ok, List.map_toArray, List.map_cons, List.map_nil, Act.eval, e1, hxv, hr]
  · rw [hD]
    refine ⟨A', c', rfl, h2, ?_⟩
    rcases h5 with h5 | h5
    · exact .inl h5
    · exact .inr fun g hg => by rw [h5] at hg; injection hg with hg; have := hgn.size; omega
  · exact ⟨h3, fun e => by rw [cc.fresh] at e; cases e⟩
  · exact ⟨(grown_none hgn).trans h3, fun e => by simp [upd] at e⟩
end
end Go.Proofs.Ytgeffkdobnipgaa
