/- procs: stores under one name; wake. -/
import Derived.Test.YtgeffkdobnipgaaProcGet
namespace Nac
open Go Go.RowKit
section
variable {P : Program} {w : World} {ops : Array Oper} {rest : List Oper} {o : Oper} {a : Act} {Q : Exit → Act → World → Prop}
theorem run_storeVar_cell (w : World) (b k : Nat) (ty : TypeId) (v old : Value) (hc : w.cell? ⟨b, k, none⟩ = some old) (hf : w.frozen? ⟨b, k, none⟩ = false) (hi : (P.info? ty).map (·.size) = some 1) (h1 : v.oneCell' = true) :
    (storeVar ty ⟨b, k, none⟩ v).run P w = .ok () (w.setCell ⟨b, k, none⟩ v) := by
  have hcv : v.cells = #[v] := by cases v <;> first | rfl | cases h1
  have := run_storeCells_cells (P := P) b k [v] 0 w (fun j hj => by
    have : j = 0 := by simpa using hj
    subst this; simp [hc]) (fun j hj => by
    have : j = 0 := by simpa using hj
    subst this; simpa using hf) (fun x hx => by simp at hx; subst hx; exact h1)
  cases hq : P.info? ty with
  | none => simp [hq] at hi
  | some i =>
    have hs : i.size = 1 := by simpa [hq] using hi
    simp only [Nat.add_zero] at this
    simp [storeVar, Go.sizeOf, typeInfo, hq, hcv, hs, this, World.setCells]
/-- a store of one cell: the world behind it under a name -/
theorem wpList_store1 (hg : o.guard = none) (ty : TypeId) (x y : Operand) (hop : o.op = .store ty x y) (b k : Nat) (v old : Value) (hx : a.eval x = .pointer (some ⟨b, k, none⟩)) (hy : a.eval y = v) (hc : w.cell? ⟨b, k, none⟩ = some old) (hf : w.frozen? ⟨b, k, none⟩ = false)
    (hi : (P.info? ty).map (·.size) = some 1) (h1 : v.oneCell' = true) (h : ∀ w', Hid (w' = w.setCell ⟨b, k, none⟩ v) → wpList P ops Q rest (a.put o.dst undef) w') : wpList P ops Q (o :: rest) a w :=
  wpList_plain hg fun _ hK => by
    unfold Oper.wp execOp
    simp only [hop, hx, hy, Instr.storeAt, Instr.sureAddr, Sem.run_bind, Sem.run_pure, Result.andThen_ok, run_storeVar_cell w b k ty v old hc hf hi h1]
    exact hK _ _ (h _ (Lib.hid rfl))
end
end Nac
namespace Go.Proofs.Ytgeffkdobnipgaa
open Go.RowKit Nac Nac.Procs
theorem s1Int : (Try.prog.info? 3).map (·.size) = some 1 := by kernel_rfl
theorem s1I64 : (Try.prog.info? 2).map (·.size) = some 1 := by kernel_rfl
theorem s1Ints : (Try.prog.info? 28).map (·.size) = some 1 := by kernel_rfl
theorem s1Words : (Try.prog.info? 56).map (·.size) = some 1 := by kernel_rfl
theorem Try.infoIt : (Try.prog.info? 3).map (fun i => (i.zero, i.size, i.bytes)) = some (some (.int .i64 0), 1, 8) := by kernel_rfl
/-- what a call that changes the set leaves -/
def RetSet (w : World) (S : Nat) (A : Nat → Option Addr) (v : Value) (P' : PSet) (e : Ending) (w' : World) : Prop :=
  e = .returned v ∧ ∃ A' c', SetM w' S P' A' c' ∧ FrS S A w A' w'
theorem SetM.head (w : World) (S : Nat) (P : PSet) (A : Nat → Option Addr) (c : Nat → Nat) (h : SetM w S P A c) : w.cell? ⟨S, 2, none⟩ = some (.slice (A 2) P.ready.length (c 2)) := h.blk.cell rfl
theorem wake_calls (w : World) (S : Nat) (P : PSet) (A : Nat → Option Addr) (c : Nat → Nat) (h : SetM w S P A c) (h8 : P.ps.length ≤ 1000) (hr8 : P.ready.length ≤ 1000) (p : Nat) (hp : p < P.ps.length) :
    Calls Try.prog 25 #[.pointer (some ⟨S, 0, none⟩), .int .i64 (p : Int)] w (RetSet w S A (.tuple #[]) (wake P p)) := by
  obtain ⟨g, hA, hg, hf, hc⟩ := h.pcell hp
  have c0 : w.cell? ⟨S, 0, none⟩ = some (.slice (some ⟨g, 0, none⟩) P.ps.length (c 0)) := by rw [← hA]; exact h.blk.cell rfl
  have c1 := hc 1 _ rfl
  have f1 := hf (p * 8 + 1)
  have h1 := h.storeP hp (f := 1) (by decide) (.int .i64 1) { P.proc p with st := 1 } rfl hA
  have hfr : FrS S A w A (w.setCell ⟨g, p * 8 + 1, none⟩ (.int .i64 1)) := FrS.grown (grown_setCell _ _ _) fun k e => .inl (by injection e with e; rw [← e]; exact h.footP hA)
  obtain ⟨n, hn⟩ : ∃ n, n = P.ps.length := ⟨_, rfl⟩
  rw [← hn] at c0 hp h8
  have H1 := Lib.hid h1
  have HF := Lib.hid hfr
  have HC1 := Lib.hid c1
  have HF1 := Lib.hid f1
  clear h h1 hfr hA hg hf hc hn c1 f1
  go_enter Try.func25, Try.ntmps25
  go_wp2_with ((with_reducible show wpList _ _ _ (Oper.mk _ (Op.store _ _ _) _ _ _ _ :: _) _ _); refine wpList_store1 rfl 3 _ _ rfl g (p * 8 + 1) (.int .i64 1) _ rfl rfl HC1.out HF1.out s1Int rfl ?_)
  intro w1 hw1
  rw [← hw1.out] at H1 HF
  have c2 : w1.cell? ⟨S, 2, none⟩ = some (.slice (A 2) P.ready.length (c 2)) := H1.out.blk.cell rfl
  clear hw1 HC1 HF1 c0
  obtain ⟨n2, hn2⟩ : ∃ n2, n2 = P.ready.length := ⟨_, rfl⟩
  have HR : Hid (Row (w1.alloc (.cells #[.int .i64 (p : Int)] 3)) 3 1 (A 2) (c 2) n2 (nums P.ready)) := Lib.hid (by rw [hn2]; exact H1.out.rd.below ((Below.refl _ _).alloc (Nat.le_refl _) _))
  have HN2 := Lib.hid hn2
  rw [← hn2] at hr8 c2
  clear hn2
  have HS : Hid ((w1.alloc (.cells #[.int .i64 (p : Int)] 3)).cell? ⟨w1.heap.size, 0, none⟩ = some (.int .i64 (p : Int))) := Lib.hid (by rw [World.cell?_alloc_at _ _ _ _ rfl]; rfl)
  go_wp2_with (at_builtin; refine wpList_app_row Try.underlying28 Try.infoIt rfl (by decide) _ rfl _ _ rfl (A 2) (c 2) n2 (nums P.ready) rfl HR.out w1.heap.size _ (.int .i64 (p : Int)) rfl rfl HS.out (by omega) ?_)
  intro A2 c2' w2 hr2 hg2 hb2
  have hba : Below w1.heap.size w1 (w1.alloc (.cells #[.int .i64 (p : Int)] 3)) := (Below.refl _ _).alloc (Nat.le_refl _) _
  have hg12 : w1.grownBy w2 ((A 2).map (·.block)) := ⟨hg2.os, hg2.tape, hg2.output, Nat.le_trans hba.size hg2.size, fun k hk hne => (hg2.block k (Nat.lt_of_lt_of_le hk hba.size) hne).trans (hba.block k hk)⟩
  have hb12 : NewB w1 (A 2) A2 := by
    rcases hb2 with e | e
    · exact .inl e
    · exact .inr fun g hg => Nat.le_trans hba.size (e g hg)
  have hlen : (P.ready ++ [p]).length = n2 + 1 := by simp [HN2.out]
  have enm : nums (P.ready ++ [p]) = nums P.ready ++ [.int .i64 (p : Int)] := by simp [nums]
  have hq := H1.out.putReady (L := P.ready ++ [p]) (w' := w2) (A2 := A2) (c2 := c2') (by rw [hlen, enm]; exact hr2) hg12 hb12
  rw [hlen] at hq
  have HQ := Lib.hid hq
  have c3 : w2.cell? ⟨S, 2, none⟩ = some (.slice (A 2) n2 (c 2)) := (H1.out.blk.grown hg12 (H1.out.aps 2)).cell (by rw [HN2.out]; rfl)
  have f3 : w2.frozen? ⟨S, 2, none⟩ = false := (H1.out.blk.grown hg12 (H1.out.aps 2)).free 2
  clear enm hr2 hg2 hb2 hba hg12 hb12 hlen hq HR HS c2 H1
  go_wp2
  refine bodyPost_ret (v := .tuple #[]) (by simp [results, Try.results25, go_sem]) rfl ⟨rfl, _, _, HQ.out.1, HF.out.trans HQ.out.2⟩
end Go.Proofs.Ytgeffkdobnipgaa
