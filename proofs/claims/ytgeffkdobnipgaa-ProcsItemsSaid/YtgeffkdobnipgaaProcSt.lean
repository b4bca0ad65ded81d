/- procs: a store into a process or a resource, the world behind it under a name; what the walks ask of a set. -/
import Derived.Test.YtgeffkdobnipgaaProcWo
namespace Nac.Procs
open Nac.Procs
section
variable {P : PSet}
theorem proc_setP {p : Nat} (hp : p < P.ps.length) (x : Prc) : (P.setP p x).proc p = x := by simp [PSet.proc, PSet.setP, List.getD, hp]
theorem proc_setP_ne {p q : Nat} (h : q ≠ p) (x : Prc) : (P.setP p x).proc q = P.proc q := by simp [PSet.proc, PSet.setP, List.getD, List.getElem?_set_ne (Ne.symm h)]
theorem setP_setP (p : Nat) (x y : Prc) : (P.setP p x).setP p y = P.setP p y := by simp [PSet.setP, List.set_set]
theorem rsc_setR {r : Nat} (hr : r < P.rs.length) (x : Rsc) : (P.setR r x).rsc r = x := by simp [PSet.rsc, PSet.setR, List.getD, hr]
theorem rsc_setR_ne {r q : Nat} (h : q ≠ r) (x : Rsc) : (P.setR r x).rsc q = P.rsc q := by simp [PSet.rsc, PSet.setR, List.getD, List.getElem?_set_ne (Ne.symm h)]
theorem setR_setR (r : Nat) (x y : Rsc) : (P.setR r x).setR r y = P.setR r y := by simp [PSet.setR, List.set_set]
theorem ps_setP (p : Nat) (x : Prc) : (P.setP p x).ps.length = P.ps.length := List.length_set ..
theorem rs_setR (r : Nat) (x : Rsc) : (P.setR r x).rs.length = P.rs.length := List.length_set ..
theorem without_le (l : List Nat) (p : Nat) : (without l p).length ≤ l.length := List.length_filter_le ..
/-- what the walks ask of a set -/
structure Wf (P : PSet) (k : Nat) : Prop where
  n : P.ps.length ≤ 1000
  m : P.rs.length ≤ 1000
  rd : P.ready.length ≤ k
  q : ∀ r, (P.rsc r).q.length ≤ k
  res : ∀ p, (P.proc p).st = 2 → (P.proc p).res ≠ -1 → 0 ≤ (P.proc p).res ∧ (P.proc p).res < P.rs.length
theorem unq_ps (p : Nat) : (unq P p).ps = P.ps := by unfold unq; split <;> rfl
theorem unq_rs (p : Nat) : (unq P p).rs.length = P.rs.length := by unfold unq; split <;> simp [PSet.setR]
theorem unq_ready (p : Nat) : (unq P p).ready = P.ready := by unfold unq; split <;> rfl
theorem unq_proc (p q : Nat) : (unq P p).proc q = P.proc q := by unfold PSet.proc; rw [unq_ps]
theorem leave_n (p : Nat) : (leave P p).ps.length = P.ps.length := by unfold leave; rw [ps_setP, unq_ps]
theorem leave_m (p : Nat) : (leave P p).rs.length = P.rs.length := by unfold leave PSet.setP; rw [unq_rs]
theorem leave_ready (p : Nat) : (leave P p).ready = without P.ready p := by unfold leave PSet.setP; rw [unq_ready]
theorem unq_q (p r : Nat) : ((unq P p).rsc r).q.length ≤ (P.rsc r).q.length := by
  unfold unq
  split
  · by_cases h : r = (P.proc p).res.toNat
    · subst h
      by_cases hr : (P.proc p).res.toNat < P.rs.length
      · rw [rsc_setR hr]; exact without_le _ _
      · have : P.setR (P.proc p).res.toNat { P.rsc (P.proc p).res.toNat with q := without (P.rsc (P.proc p).res.toNat).q p } = P := by
          unfold PSet.setR; rw [List.set_eq_of_length_le (by omega)]
        rw [this]; exact Nat.le_refl _
    · rw [rsc_setR_ne h]; exact Nat.le_refl _
  · exact Nat.le_refl _
theorem leave_q (p r : Nat) : ((leave P p).rsc r).q.length ≤ (P.rsc r).q.length := unq_q (P := { P with ready := without P.ready p }) p r
theorem leave_proc {p : Nat} (hp : p < P.ps.length) : (leave P p).proc p = { P.proc p with res := -1, left := 0, item := 0 } := by
  unfold leave; rw [proc_setP (by rw [unq_ps]; exact hp)]
theorem leave_proc_ne {p q : Nat} (h : q ≠ p) : (leave P p).proc q = P.proc q := by
  unfold leave; rw [proc_setP_ne h, unq_proc]; rfl
variable {k : Nat}
theorem Wf.leave (h : Wf P k) {p : Nat} (hp : p < P.ps.length) : Wf (leave P p) k :=
  ⟨by rw [leave_n]; exact h.n, by rw [leave_m]; exact h.m, by rw [leave_ready]; exact Nat.le_trans (without_le _ _) h.rd, fun r => Nat.le_trans (leave_q p r) (h.q r), fun q h1 h2 => by
    by_cases e : q = p
    · subst e
      rw [leave_proc hp] at h2
      exact absurd rfl h2
    · rw [leave_proc_ne e] at h1 h2 ⊢
      rw [leave_m]
      exact h.res q h1 h2⟩
end
end Nac.Procs
namespace Nac
open Go Go.RowKit
end Nac
namespace Go.Proofs.Ytgeffkdobnipgaa
open Go.RowKit Nac Nac.Procs
theorem grown_frozen {w w' : World} {row : Option Nat} {b k : Nat} (hg : w.grownBy w' row) (hb : b < w.heap.size) (hne : some b ≠ row) : w'.frozen? ⟨b, k, none⟩ = w.frozen? ⟨b, k, none⟩ := by
  unfold World.frozen?
  rw [hg.block b hb hne]
theorem upA_id (A : Nat → Option Addr) (k : Nat) : upA A k (A k) = A := by
  funext j; unfold upA; split
  · subst_vars; rfl
  · rfl
theorem upC_id (c : Nat → Nat) (k : Nat) : upC c k (c k) = c := by
  funext j; unfold upC; split
  · subst_vars; rfl
  · rfl
section
variable {w0 w w' : World} {S : Nat} {P : PSet} {A0 A A' : Nat → Option Addr} {c c' : Nat → Nat}
theorem pcells_get (x : Prc) {f : Nat} (hf : f < 8) : ∃ v, (pcells x)[f]? = some v := ⟨(pcells x)[f]'(by simpa [pcells] using hf), List.getElem?_eq_getElem _⟩
theorem rcells_get (x : Rsc) (a : Option Addr) (b : Nat) (d : Option Addr) (e : Nat) {f : Nat} (hf : f < 5) : ∃ v, (rcells x a b d e)[f]? = some v := ⟨(rcells x a b d e)[f]'(by simpa [rcells] using hf), List.getElem?_eq_getElem _⟩
/-- the processes' row, known by its first cell -/
theorem SetM.pget (h : SetM w S P A c) {p f g : Nat} {v : Value} (hp : p < P.ps.length) (hA : A 0 = some ⟨g, 0, none⟩) (hv : (pcells (P.proc p))[f]? = some v) : w.cell? ⟨g, p * 8 + f, none⟩ = some v := by
  obtain ⟨g', hA', _, _, hc⟩ := h.pcell hp
  rw [hA] at hA'
  injection hA' with e
  injection e with e
  subst e
  exact hc f v hv
theorem SetM.pfree (h : SetM w S P A c) {p g : Nat} (hp : p < P.ps.length) (hA : A 0 = some ⟨g, 0, none⟩) (k : Nat) : w.frozen? ⟨g, k, none⟩ = false := by
  obtain ⟨g', hA', _, hf, _⟩ := h.pcell hp
  rw [hA] at hA'
  injection hA' with e
  injection e with e
  subst e
  exact hf k
theorem SetM.rget (h : SetM w S P A c) {r f g : Nat} {v : Value} (hr : r < P.rs.length) (hA : A 1 = some ⟨g, 0, none⟩) (hv : (rcells (P.rsc r) (A (3 + 2 * r)) (c (3 + 2 * r)) (A (4 + 2 * r)) (c (4 + 2 * r)))[f]? = some v) : w.cell? ⟨g, r * 5 + f, none⟩ = some v := by
  obtain ⟨g', hA', _, _, hc⟩ := h.rcell hr
  rw [hA] at hA'
  injection hA' with e
  injection e with e
  subst e
  exact hc f v hv
theorem SetM.rfree (h : SetM w S P A c) {r g : Nat} (hr : r < P.rs.length) (hA : A 1 = some ⟨g, 0, none⟩) (k : Nat) : w.frozen? ⟨g, k, none⟩ = false := by
  obtain ⟨g', hA', _, hf, _⟩ := h.rcell hr
  rw [hA] at hA'
  injection hA' with e
  injection e with e
  subst e
  exact hf k
theorem SetM.footR (_ : SetM w S P A c) {g : Nat} (hA : A 1 = some ⟨g, 0, none⟩) : Foot S A g := .inr ⟨1, by rw [hA]; rfl⟩
/-- a store of one field of a process -/
theorem wpList_storeP {ops : Array Oper} {rest : List Oper} {o : Oper} {a : Act} {Q : Exit → Act → World → Prop} (hg : o.guard = none) (ty : TypeId) (x y : Operand) (hop : o.op = .store ty x y)
    (H : Hid (SetM w S P A c)) (HF : Hid (FrS S A0 w0 A w)) {p g : Nat} (f : Nat) (v : Value) (hp : p < P.ps.length) (hA : Hid (A 0 = some ⟨g, 0, none⟩)) (hf : f < 8) (x' : Prc) (hx' : (pcells (P.proc p)).set f v = pcells x')
    (hx : a.eval x = .pointer (some ⟨g, p * 8 + f, none⟩)) (hy : a.eval y = v) (hi : (Try.prog.info? ty).map (·.size) = some 1) (h1 : v.oneCell' = true)
    (h : ∀ w', Hid (SetM w' S (P.setP p x') A c) → Hid (FrS S A0 w0 A w') → wpList Try.prog ops Q rest (a.put o.dst undef) w') : wpList Try.prog ops Q (o :: rest) a w := by
  obtain ⟨old, ho⟩ := pcells_get (P.proc p) hf
  refine wpList_store1 hg ty x y hop g (p * 8 + f) v old hx hy (H.out.pget hp hA.out ho) (H.out.pfree hp hA.out _) hi h1 fun w' hw' => ?_
  rw [hw'.out]
  exact h _ (Lib.hid (H.out.storeP hp hf v x' hx' hA.out)) (Lib.hid (HF.out.trans (FrS.grown (grown_setCell _ _ _) fun k e => .inl (by injection e with e; rw [← e]; exact H.out.footP hA.out))))
/-- a store of one of the first three fields of a resource -/
theorem wpList_storeR {ops : Array Oper} {rest : List Oper} {o : Oper} {a : Act} {Q : Exit → Act → World → Prop} (hg : o.guard = none) (ty : TypeId) (x y : Operand) (hop : o.op = .store ty x y)
    (H : Hid (SetM w S P A c)) (HF : Hid (FrS S A0 w0 A w)) {r g : Nat} (f : Nat) (v : Value) (hr : r < P.rs.length) (hA : Hid (A 1 = some ⟨g, 0, none⟩)) (hf : f < 3) (x' : Rsc) (hx' : (rcells (P.rsc r) (A (3 + 2 * r)) (c (3 + 2 * r)) (A (4 + 2 * r)) (c (4 + 2 * r))).set f v = rcells x' (A (3 + 2 * r)) (c (3 + 2 * r)) (A (4 + 2 * r)) (c (4 + 2 * r))) (hq : x'.q = (P.rsc r).q) (hit : x'.items = (P.rsc r).items)
    (hx : a.eval x = .pointer (some ⟨g, r * 5 + f, none⟩)) (hy : a.eval y = v) (hi : (Try.prog.info? ty).map (·.size) = some 1) (h1 : v.oneCell' = true)
    (h : ∀ w', Hid (SetM w' S (P.setR r x') A c) → Hid (FrS S A0 w0 A w') → wpList Try.prog ops Q rest (a.put o.dst undef) w') : wpList Try.prog ops Q (o :: rest) a w := by
  obtain ⟨old, ho⟩ := rcells_get (P.rsc r) (A (3 + 2 * r)) (c (3 + 2 * r)) (A (4 + 2 * r)) (c (4 + 2 * r)) (f := f) (by omega)
  refine wpList_store1 hg ty x y hop g (r * 5 + f) v old hx hy (H.out.rget hr hA.out ho) (H.out.rfree hr hA.out _) hi h1 fun w' hw' => ?_
  rw [hw'.out]
  exact h _ (Lib.hid (H.out.storeR hr hf v x' hx' hq hit hA.out)) (Lib.hid (HF.out.trans (FrS.grown (grown_setCell _ _ _) fun k e => .inl (by injection e with e; rw [← e]; exact H.out.footR hA.out))))
/-- who is ready, anew -/
theorem wpList_storeReady {ops : Array Oper} {rest : List Oper} {o : Oper} {a : Act} {Q : Exit → Act → World → Prop} (hg : o.guard = none) (ty : TypeId) (x y : Operand) (hop : o.op = .store ty x y)
    (H : Hid (SetM w S P A c)) (HF : Hid (FrS S A0 w0 A w)) {A2 : Option Addr} {c2 : Nat} {L : List Nat} {n : Nat} (hn : n = L.length) (hr : Hid (Row w' 3 1 A2 c2 L.length (nums L))) (hgr : Hid (w.grownBy w' ((A 2).map (·.block)))) (hb : Hid (NewB w (A 2) A2))
    (hx : a.eval x = .pointer (some ⟨S, 2, none⟩)) (hy : a.eval y = .slice A2 n c2) (hi : (Try.prog.info? ty).map (·.size) = some 1)
    (h : ∀ w2, Hid (SetM w2 S { P with ready := L } (upA A 2 A2) (upC c 2 c2)) → Hid (FrS S A0 w0 (upA A 2 A2) w2) → wpList Try.prog ops Q rest (a.put o.dst undef) w2) : wpList Try.prog ops Q (o :: rest) a w' := by
  subst hn
  have hq := H.out.putReady hr.out hgr.out hb.out
  have hblk := H.out.blk.grown hgr.out (H.out.aps 2)
  refine wpList_store1 hg ty x y hop S 2 (.slice A2 L.length c2) (.slice (A 2) P.ready.length (c 2)) hx hy (hblk.cell rfl) (hblk.free 2) hi rfl fun w2 hw2 => ?_
  rw [hw2.out]
  exact h _ (Lib.hid hq.1) (Lib.hid (HF.out.trans hq.2))
/-- a resource's queue, anew -/
theorem wpList_storeQ {ops : Array Oper} {rest : List Oper} {o : Oper} {a : Act} {Q : Exit → Act → World → Prop} (hg : o.guard = none) (ty : TypeId) (x y : Operand) (hop : o.op = .store ty x y)
    (H : Hid (SetM w S P A c)) (HF : Hid (FrS S A0 w0 A w)) {r g : Nat} (hrr : r < P.rs.length) (hA : Hid (A 1 = some ⟨g, 0, none⟩)) {A2 : Option Addr} {c2 : Nat} {L : List Nat} {n : Nat} (hn : n = L.length) (hr : Hid (Row w' 3 1 A2 c2 L.length (nums L))) (hgr : Hid (w.grownBy w' ((A (3 + 2 * r)).map (·.block)))) (hb : Hid (NewB w (A (3 + 2 * r)) A2))
    (hx : a.eval x = .pointer (some ⟨g, r * 5 + 3, none⟩)) (hy : a.eval y = .slice A2 n c2) (hi : (Try.prog.info? ty).map (·.size) = some 1)
    (h : ∀ w2, Hid (SetM w2 S (P.setR r { P.rsc r with q := L }) (upA A (3 + 2 * r) A2) (upC c (3 + 2 * r) c2)) → Hid (FrS S A0 w0 (upA A (3 + 2 * r) A2) w2) → wpList Try.prog ops Q rest (a.put o.dst undef) w2) : wpList Try.prog ops Q (o :: rest) a w' := by
  subst hn
  have hq := H.out.putQ hrr hr.out hgr.out hb.out hA.out
  have hne : (A (3 + 2 * r)).map (·.block) ≠ some g := H.out.ap 1 _ g (by omega) (by rw [hA.out]; rfl)
  refine wpList_store1 hg ty x y hop g (r * 5 + 3) (.slice A2 L.length c2) _ hx hy (hgr.out.cell (H.out.rget hrr hA.out (f := 3) rfl) (fun e => hne e.symm)) ?_ hi rfl fun w2 hw2 => ?_
  · rw [grown_frozen hgr.out (H.out.lt 1 g (by rw [hA.out]; rfl)) (fun e => hne e.symm)]; exact H.out.rfree hrr hA.out _
  rw [hw2.out]
  exact h _ (Lib.hid hq.1) (Lib.hid (HF.out.trans hq.2))
/-- a resource's items, anew -/
theorem wpList_storeI {ops : Array Oper} {rest : List Oper} {o : Oper} {a : Act} {Q : Exit → Act → World → Prop} (hg : o.guard = none) (ty : TypeId) (x y : Operand) (hop : o.op = .store ty x y)
    (H : Hid (SetM w S P A c)) (HF : Hid (FrS S A0 w0 A w)) {r g : Nat} (hrr : r < P.rs.length) (hA : Hid (A 1 = some ⟨g, 0, none⟩)) {A2 : Option Addr} {c2 : Nat} {L : List Int} {n : Nat} (hn : n = L.length) (hr : Hid (Row w' 2 1 A2 c2 L.length (L.map (Value.int .i64)))) (hgr : Hid (w.grownBy w' ((A (4 + 2 * r)).map (·.block)))) (hb : Hid (NewB w (A (4 + 2 * r)) A2))
    (hx : a.eval x = .pointer (some ⟨g, r * 5 + 4, none⟩)) (hy : a.eval y = .slice A2 n c2) (hi : (Try.prog.info? ty).map (·.size) = some 1)
    (h : ∀ w2, Hid (SetM w2 S (P.setR r { P.rsc r with items := L }) (upA A (4 + 2 * r) A2) (upC c (4 + 2 * r) c2)) → Hid (FrS S A0 w0 (upA A (4 + 2 * r) A2) w2) → wpList Try.prog ops Q rest (a.put o.dst undef) w2) : wpList Try.prog ops Q (o :: rest) a w' := by
  subst hn
  have hq := H.out.putI hrr hr.out hgr.out hb.out hA.out
  have hne : (A (4 + 2 * r)).map (·.block) ≠ some g := H.out.ap 1 _ g (by omega) (by rw [hA.out]; rfl)
  refine wpList_store1 hg ty x y hop g (r * 5 + 4) (.slice A2 L.length c2) _ hx hy (hgr.out.cell (H.out.rget hrr hA.out (f := 4) rfl) (fun e => hne e.symm)) ?_ hi rfl fun w2 hw2 => ?_
  · rw [grown_frozen hgr.out (H.out.lt 1 g (by rw [hA.out]; rfl)) (fun e => hne e.symm)]; exact H.out.rfree hrr hA.out _
  rw [hw2.out]
  exact h _ (Lib.hid hq.1) (Lib.hid (HF.out.trans hq.2))
end
end Go.Proofs.Ytgeffkdobnipgaa
