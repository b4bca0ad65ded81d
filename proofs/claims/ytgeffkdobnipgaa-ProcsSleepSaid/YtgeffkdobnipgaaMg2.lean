/- Bundle 2 of the texts ProcSt, ProcLeave, Mono, Val. -/
import Derived.Test.YtgeffkdobnipgaaMg1
import Derived.Deep.DeepCutAuto
import Derived.WalkKit
import Derived.Orders
import Derived.Shelf.Abstract
/- procs: a store into a process or a resource, the world behind it under a name; what the walks ask of a set. -/
namespace Nac.Procs
open Nac.Procs
section
variable {P : PSet}
theorem proc_setP {p : Nat} (hp : p < P.ps.length) (x : Prc) : (P.setP p x).proc p = x := by simp [PSet.proc, PSet.setP, List.getD, hp]
theorem proc_setP_ne {p q : Nat} (h : q ≠ p) (x : Prc) : (P.setP p x).proc q = P.proc q := by simp [PSet.proc, PSet.setP, List.getD, List.getElem?_set_ne (Ne.symm h)]
theorem setP_setP (p : Nat) (x y : Prc) : (P.setP p x).setP p y = P.setP p y := by simp [PSet.setP, List.set_set]
theorem rsc_setR {r : Nat} (hr : r < P.rs.length) (x : Rsc) : (P.setR r x).rsc r = x := by simp [PSet.rsc, PSet.setR, List.getD, hr]
theorem rsc_setR_ne {r q : Nat} (h : q ≠ r) (x : Rsc) : (P.setR r x).rsc q = P.rsc q := by simp [PSet.rsc, PSet.setR, List.getD, List.getElem?_set_ne (Ne.symm h)]
theorem setR_setR (r : Nat) (x y : Rsc) : (P.setR r x).setR r y = P.setR r y := by simp [PSet.setR, List.set_set]
theorem ps_setP (p : Nat) (x : Prc) : (P.setP p x).ps.length = P.ps.length := List.length_set ..
theorem rs_setR (r : Nat) (x : Rsc) : (P.setR r x).rs.length = P.rs.length := List.length_set ..
theorem without_le (l : List Nat) (p : Nat) : (without l p).length ≤ l.length := List.length_filter_le ..
/-- what the walks ask of a set -/
structure Wf (P : PSet) (k : Nat) : Prop where
  n : P.ps.length ≤ 1000
  m : P.rs.length ≤ 1000
  rd : P.ready.length ≤ k
  q : ∀ r, (P.rsc r).q.length ≤ k
  res : ∀ p, (P.proc p).st = 2 → (P.proc p).res ≠ -1 → 0 ≤ (P.proc p).res ∧ (P.proc p).res < P.rs.length
theorem unq_ps (p : Nat) : (unq P p).ps = P.ps := by unfold unq; split <;> rfl
theorem unq_rs (p : Nat) : (unq P p).rs.length = P.rs.length := by unfold unq; split <;> simp [PSet.setR]
theorem unq_ready (p : Nat) : (unq P p).ready = P.ready := by unfold unq; split <;> rfl
theorem unq_proc (p q : Nat) : (unq P p).proc q = P.proc q := by unfold PSet.proc; rw [unq_ps]
theorem leave_n (p : Nat) : (leave P p).ps.length = P.ps.length := by unfold leave; rw [ps_setP, unq_ps]
theorem leave_m (p : Nat) : (leave P p).rs.length = P.rs.length := by unfold leave PSet.setP; rw [unq_rs]
theorem leave_ready (p : Nat) : (leave P p).ready = without P.ready p := by unfold leave PSet.setP; rw [unq_ready]
theorem unq_q (p r : Nat) : ((unq P p).rsc r).q.length ≤ (P.rsc r).q.length := by
  unfold unq
  split
  · by_cases h : r = (P.proc p).res.toNat
    · subst h
      by_cases hr : (P.proc p).res.toNat < P.rs.length
      · rw [rsc_setR hr]; exact without_le _ _
      · have : P.setR (P.proc p).res.toNat { P.rsc (P.proc p).res.toNat with q := without (P.rsc (P.proc p).res.toNat).q p } = P := by
          unfold PSet.setR; rw [List.set_eq_of_length_le (by omega)]
        rw [this]; exact Nat.le_refl _
    · rw [rsc_setR_ne h]; exact Nat.le_refl _
  · exact Nat.le_refl _
theorem leave_q (p r : Nat) : ((leave P p).rsc r).q.length ≤ (P.rsc r).q.length := unq_q (P := { P with ready := without P.ready p }) p r
theorem leave_proc {p : Nat} (hp : p < P.ps.length) : (leave P p).proc p = { P.proc p with res := -1, left := 0, item := 0 } := by
  unfold leave; rw [proc_setP (by rw [unq_ps]; exact hp)]
theorem leave_proc_ne {p q : Nat} (h : q ≠ p) : (leave P p).proc q = P.proc q := by
  unfold leave; rw [proc_setP_ne h, unq_proc]; rfl
variable {k : Nat}
theorem Wf.leave (h : Wf P k) {p : Nat} (hp : p < P.ps.length) : Wf (leave P p) k :=
  ⟨by rw [leave_n]; exact h.n, by rw [leave_m]; exact h.m, by rw [leave_ready]; exact Nat.le_trans (without_le _ _) h.rd, fun r => Nat.le_trans (leave_q p r) (h.q r), fun q h1 h2 => by
    by_cases e : q = p
    · subst e
      rw [leave_proc hp] at h2
      exact absurd rfl h2
    · rw [leave_proc_ne e] at h1 h2 ⊢
      rw [leave_m]
      exact h.res q h1 h2⟩
end
end Nac.Procs
namespace Nac
open Go Go.RowKit
end Nac
namespace Go.Proofs.Ytgeffkdobnipgaa
open Go.RowKit Nac Nac.Procs
theorem grown_frozen {w w' : World} {row : Option Nat} {b k : Nat} (hg : w.grownBy w' row) (hb : b < w.heap.size) (hne : some b ≠ row) : w'.frozen? ⟨b, k, none⟩ = w.frozen? ⟨b, k, none⟩ := by
  unfold World.frozen?
  rw [hg.block b hb hne]
theorem upA_id (A : Nat → Option Addr) (k : Nat) : upA A k (A k) = A := by
  funext j; unfold upA; split
  · subst_vars; rfl
  · rfl
theorem upC_id (c : Nat → Nat) (k : Nat) : upC c k (c k) = c := by
  funext j; unfold upC; split
  · subst_vars; rfl
  · rfl
section
variable {w0 w w' : World} {S : Nat} {P : PSet} {A0 A A' : Nat → Option Addr} {c c' : Nat → Nat}
theorem pcells_get (x : Prc) {f : Nat} (hf : f < 8) : ∃ v, (pcells x)[f]? = some v := ⟨(pcells x)[f]'(by simpa [pcells] using hf), List.getElem?_eq_getElem _⟩
theorem rcells_get (x : Rsc) (a : Option Addr) (b : Nat) (d : Option Addr) (e : Nat) {f : Nat} (hf : f < 5) : ∃ v, (rcells x a b d e)[f]? = some v := ⟨(rcells x a b d e)[f]'(by simpa [rcells] using hf), List.getElem?_eq_getElem _⟩
/-- the processes' row, known by its first cell -/
theorem SetM.pget (h : SetM w S P A c) {p f g : Nat} {v : Value} (hp : p < P.ps.length) (hA : A 0 = some ⟨g, 0, none⟩) (hv : (pcells (P.proc p))[f]? = some v) : w.cell? ⟨g, p * 8 + f, none⟩ = some v := by
  obtain ⟨g', hA', _, _, hc⟩ := h.pcell hp
  rw [hA] at hA'
  injection hA' with e
  injection e with e
  subst e
  exact hc f v hv
theorem SetM.pfree (h : SetM w S P A c) {p g : Nat} (hp : p < P.ps.length) (hA : A 0 = some ⟨g, 0, none⟩) (k : Nat) : w.frozen? ⟨g, k, none⟩ = false := by
  obtain ⟨g', hA', _, hf, _⟩ := h.pcell hp
  rw [hA] at hA'
  injection hA' with e
  injection e with e
  subst e
  exact hf k
theorem SetM.rget (h : SetM w S P A c) {r f g : Nat} {v : Value} (hr : r < P.rs.length) (hA : A 1 = some ⟨g, 0, none⟩) (hv : (rcells (P.rsc r) (A (3 + 2 * r)) (c (3 + 2 * r)) (A (4 + 2 * r)) (c (4 + 2 * r)))[f]? = some v) : w.cell? ⟨g, r * 5 + f, none⟩ = some v := by
  obtain ⟨g', hA', _, _, hc⟩ := h.rcell hr
  rw [hA] at hA'
  injection hA' with e
  injection e with e
  subst e
  exact hc f v hv
theorem SetM.rfree (h : SetM w S P A c) {r g : Nat} (hr : r < P.rs.length) (hA : A 1 = some ⟨g, 0, none⟩) (k : Nat) : w.frozen? ⟨g, k, none⟩ = false := by
  obtain ⟨g', hA', _, hf, _⟩ := h.rcell hr
  rw [hA] at hA'
  injection hA' with e
  injection e with e
  subst e
  exact hf k
theorem SetM.footR (_ : SetM w S P A c) {g : Nat} (hA : A 1 = some ⟨g, 0, none⟩) : Foot S A g := .inr ⟨1, by rw [hA]; rfl⟩
/-- a store of one field of a process -/
theorem wpList_storeP {ops : Array Oper} {rest : List Oper} {o : Oper} {a : Act} {Q : Exit → Act → World → Prop} (hg : o.guard = none) (ty : TypeId) (x y : Operand) (hop : o.op = .store ty x y)
    (H : Hid (SetM w S P A c)) (HF : Hid (FrS S A0 w0 A w)) {p g : Nat} (f : Nat) (v : Value) (hp : p < P.ps.length) (hA : Hid (A 0 = some ⟨g, 0, none⟩)) (hf : f < 8) (x' : Prc) (hx' : (pcells (P.proc p)).set f v = pcells x')
    (hx : a.eval x = .pointer (some ⟨g, p * 8 + f, none⟩)) (hy : a.eval y = v) (hi : (Try.prog.info? ty).map (·.size) = some 1) (h1 : v.oneCell' = true)
    (h : ∀ w', Hid (SetM w' S (P.setP p x') A c) → Hid (FrS S A0 w0 A w') → wpList Try.prog ops Q rest (a.put o.dst undef) w') : wpList Try.prog ops Q (o :: rest) a w := by
  obtain ⟨old, ho⟩ := pcells_get (P.proc p) hf
  refine wpList_store1 hg ty x y hop g (p * 8 + f) v old hx hy (H.out.pget hp hA.out ho) (H.out.pfree hp hA.out _) hi h1 fun w' hw' => ?_
  rw [hw'.out]
  exact h _ (Lib.hid (H.out.storeP hp hf v x' hx' hA.out)) (Lib.hid (HF.out.trans (FrS.grown (grown_setCell _ _ _) fun k e => .inl (by injection e with e; rw [← e]; exact H.out.footP hA.out))))
/-- a store of one of the first three fields of a resource -/
theorem wpList_storeR {ops : Array Oper} {rest : List Oper} {o : Oper} {a : Act} {Q : Exit → Act → World → Prop} (hg : o.guard = none) (ty : TypeId) (x y : Operand) (hop : o.op = .store ty x y)
    (H : Hid (SetM w S P A c)) (HF : Hid (FrS S A0 w0 A w)) {r g : Nat} (f : Nat) (v : Value) (hr : r < P.rs.length) (hA : Hid (A 1 = some ⟨g, 0, none⟩)) (hf : f < 3) (x' : Rsc) (hx' : (rcells (P.rsc r) (A (3 + 2 * r)) (c (3 + 2 * r)) (A (4 + 2 * r)) (c (4 + 2 * r))).set f v = rcells x' (A (3 + 2 * r)) (c (3 + 2 * r)) (A (4 + 2 * r)) (c (4 + 2 * r))) (hq : x'.q = (P.rsc r).q) (hit : x'.items = (P.rsc r).items)
    (hx : a.eval x = .pointer (some ⟨g, r * 5 + f, none⟩)) (hy : a.eval y = v) (hi : (Try.prog.info? ty).map (·.size) = some 1) (h1 : v.oneCell' = true)
    (h : ∀ w', Hid (SetM w' S (P.setR r x') A c) → Hid (FrS S A0 w0 A w') → wpList Try.prog ops Q rest (a.put o.dst undef) w') : wpList Try.prog ops Q (o :: rest) a w := by
  obtain ⟨old, ho⟩ := rcells_get (P.rsc r) (A (3 + 2 * r)) (c (3 + 2 * r)) (A (4 + 2 * r)) (c (4 + 2 * r)) (f := f) (by omega)
  refine wpList_store1 hg ty x y hop g (r * 5 + f) v old hx hy (H.out.rget hr hA.out ho) (H.out.rfree hr hA.out _) hi h1 fun w' hw' => ?_
  rw [hw'.out]
  exact h _ (Lib.hid (H.out.storeR hr hf v x' hx' hq hit hA.out)) (Lib.hid (HF.out.trans (FrS.grown (grown_setCell _ _ _) fun k e => .inl (by injection e with e; rw [← e]; exact H.out.footR hA.out))))
/-- who is ready, anew -/
theorem wpList_storeReady {ops : Array Oper} {rest : List Oper} {o : Oper} {a : Act} {Q : Exit → Act → World → Prop} (hg : o.guard = none) (ty : TypeId) (x y : Operand) (hop : o.op = .store ty x y)
    (H : Hid (SetM w S P A c)) (HF : Hid (FrS S A0 w0 A w)) {A2 : Option Addr} {c2 : Nat} {L : List Nat} {n : Nat} (hn : n = L.length) (hr : Hid (Row w' 3 1 A2 c2 L.length (nums L))) (hgr : Hid (w.grownBy w' ((A 2).map (·.block)))) (hb : Hid (NewB w (A 2) A2))
    (hx : a.eval x = .pointer (some ⟨S, 2, none⟩)) (hy : a.eval y = .slice A2 n c2) (hi : (Try.prog.info? ty).map (·.size) = some 1)
    (h : ∀ w2, Hid (SetM w2 S { P with ready := L } (upA A 2 A2) (upC c 2 c2)) → Hid (FrS S A0 w0 (upA A 2 A2) w2) → wpList Try.prog ops Q rest (a.put o.dst undef) w2) : wpList Try.prog ops Q (o :: rest) a w' := by
  subst hn
  have hq := H.out.putReady hr.out hgr.out hb.out
  have hblk := H.out.blk.grown hgr.out (H.out.aps 2)
  refine wpList_store1 hg ty x y hop S 2 (.slice A2 L.length c2) (.slice (A 2) P.ready.length (c 2)) hx hy (hblk.cell rfl) (hblk.free 2) hi rfl fun w2 hw2 => ?_
  rw [hw2.out]
  exact h _ (Lib.hid hq.1) (Lib.hid (HF.out.trans hq.2))
/-- a resource's queue, anew -/
theorem wpList_storeQ {ops : Array Oper} {rest : List Oper} {o : Oper} {a : Act} {Q : Exit → Act → World → Prop} (hg : o.guard = none) (ty : TypeId) (x y : Operand) (hop : o.op = .store ty x y)
    (H : Hid (SetM w S P A c)) (HF : Hid (FrS S A0 w0 A w)) {r g : Nat} (hrr : r < P.rs.length) (hA : Hid (A 1 = some ⟨g, 0, none⟩)) {A2 : Option Addr} {c2 : Nat} {L : List Nat} {n : Nat} (hn : n = L.length) (hr : Hid (Row w' 3 1 A2 c2 L.length (nums L))) (hgr : Hid (w.grownBy w' ((A (3 + 2 * r)).map (·.block)))) (hb : Hid (NewB w (A (3 + 2 * r)) A2))
    (hx : a.eval x = .pointer (some ⟨g, r * 5 + 3, none⟩)) (hy : a.eval y = .slice A2 n c2) (hi : (Try.prog.info? ty).map (·.size) = some 1)
    (h : ∀ w2, Hid (SetM w2 S (P.setR r { P.rsc r with q := L }) (upA A (3 + 2 * r) A2) (upC c (3 + 2 * r) c2)) → Hid (FrS S A0 w0 (upA A (3 + 2 * r) A2) w2) → wpList Try.prog ops Q rest (a.put o.dst undef) w2) : wpList Try.prog ops Q (o :: rest) a w' := by
  subst hn
  have hq := H.out.putQ hrr hr.out hgr.out hb.out hA.out
  have hne : (A (3 + 2 * r)).map (·.block) ≠ some g := H.out.ap 1 _ g (by omega) (by rw [hA.out]; rfl)
  refine wpList_store1 hg ty x y hop g (r * 5 + 3) (.slice A2 L.length c2) _ hx hy (hgr.out.cell (H.out.rget hrr hA.out (f := 3) rfl) (fun e => hne e.symm)) ?_ hi rfl fun w2 hw2 => ?_
  · rw [grown_frozen hgr.out (H.out.lt 1 g (by rw [hA.out]; rfl)) (fun e => hne e.symm)]; exact H.out.rfree hrr hA.out _
  rw [hw2.out]
  exact h _ (Lib.hid hq.1) (Lib.hid (HF.out.trans hq.2))
/-- a resource's items, anew -/
theorem wpList_storeI {ops : Array Oper} {rest : List Oper} {o : Oper} {a : Act} {Q : Exit → Act → World → Prop} (hg : o.guard = none) (ty : TypeId) (x y : Operand) (hop : o.op = .store ty x y)
    (H : Hid (SetM w S P A c)) (HF : Hid (FrS S A0 w0 A w)) {r g : Nat} (hrr : r < P.rs.length) (hA : Hid (A 1 = some ⟨g, 0, none⟩)) {A2 : Option Addr} {c2 : Nat} {L : List Int} {n : Nat} (hn : n = L.length) (hr : Hid (Row w' 2 1 A2 c2 L.length (L.map (Value.int .i64)))) (hgr : Hid (w.grownBy w' ((A (4 + 2 * r)).map (·.block)))) (hb : Hid (NewB w (A (4 + 2 * r)) A2))
    (hx : a.eval x = .pointer (some ⟨g, r * 5 + 4, none⟩)) (hy : a.eval y = .slice A2 n c2) (hi : (Try.prog.info? ty).map (·.size) = some 1)
    (h : ∀ w2, Hid (SetM w2 S (P.setR r { P.rsc r with items := L }) (upA A (4 + 2 * r) A2) (upC c (4 + 2 * r) c2)) → Hid (FrS S A0 w0 (upA A (4 + 2 * r) A2) w2) → wpList Try.prog ops Q rest (a.put o.dst undef) w2) : wpList Try.prog ops Q (o :: rest) a w' := by
  subst hn
  have hq := H.out.putI hrr hr.out hgr.out hb.out hA.out
  have hne : (A (4 + 2 * r)).map (·.block) ≠ some g := H.out.ap 1 _ g (by omega) (by rw [hA.out]; rfl)
  refine wpList_store1 hg ty x y hop g (r * 5 + 4) (.slice A2 L.length c2) _ hx hy (hgr.out.cell (H.out.rget hrr hA.out (f := 4) rfl) (fun e => hne e.symm)) ?_ hi rfl fun w2 hw2 => ?_
  · rw [grown_frozen hgr.out (H.out.lt 1 g (by rw [hA.out]; rfl)) (fun e => hne e.symm)]; exact H.out.rfree hrr hA.out _
  rw [hw2.out]
  exact h _ (Lib.hid hq.1) (Lib.hid (HF.out.trans hq.2))
end
end Go.Proofs.Ytgeffkdobnipgaa
/- procs: leave. -/
namespace Nac.Procs
def readyOf (P : PSet) (p : Nat) : PSet := { P with ready := without P.ready p }
theorem leave_in {P : PSet} {p r : Nat} (h2 : (P.proc p).st = 2) (hr : (P.proc p).res = r) (hne : (r : Int) ≠ -1) : leave P p = ((readyOf P p).setR r { P.rsc r with q := without (P.rsc r).q p }).setP p { P.proc p with res := -1, left := 0, item := 0 } := by
  have e : unq (readyOf P p) p = (readyOf P p).setR r { P.rsc r with q := without (P.rsc r).q p } := by
    unfold unq
    rw [if_pos]
    · have : ((readyOf P p).proc p).res.toNat = r := by show (P.proc p).res.toNat = r; rw [hr]; rfl
      rw [this]; rfl
    · exact ⟨h2, by show (P.proc p).res ≠ -1; rw [hr]; exact hne⟩
  show (unq (readyOf P p) p).setP p { (readyOf P p).proc p with res := -1, left := 0, item := 0 } = _
  rw [e]
  rfl
theorem leave_out {P : PSet} {p : Nat} (h : ¬ ((P.proc p).st = 2 ∧ (P.proc p).res ≠ -1)) : leave P p = (readyOf P p).setP p { P.proc p with res := -1, left := 0, item := 0 } := by
  have e : unq (readyOf P p) p = readyOf P p := by
    unfold unq
    rw [if_neg]
    exact h
  show (unq (readyOf P p) p).setP p { (readyOf P p).proc p with res := -1, left := 0, item := 0 } = _
  rw [e]
  rfl
end Nac.Procs
namespace Go.Proofs.Ytgeffkdobnipgaa
open Go.RowKit Nac Nac.Procs
theorem SetM.head0 {w : World} {S : Nat} {P : PSet} {A : Nat → Option Addr} {c : Nat → Nat} (h : SetM w S P A c) {g n : Nat} (hA : A 0 = some ⟨g, 0, none⟩) (hn : n = P.ps.length) : w.cell? ⟨S, 0, none⟩ = some (.slice (some ⟨g, 0, none⟩) n (c 0)) := by rw [hn, ← hA]; exact h.blk.cell rfl
theorem SetM.head1 {w : World} {S : Nat} {P : PSet} {A : Nat → Option Addr} {c : Nat → Nat} (h : SetM w S P A c) {g n : Nat} (hA : A 1 = some ⟨g, 0, none⟩) (hn : n = P.rs.length) : w.cell? ⟨S, 1, none⟩ = some (.slice (some ⟨g, 0, none⟩) n (c 1)) := by rw [hn, ← hA]; exact h.blk.cell rfl
theorem without_callsN (w : World) (p : Nat) (A : Option Addr) (c n : Nat) (l : List Nat) (hn : n = l.length) (hr : Row w 3 1 A c l.length (nums l)) (h8 : l.length ≤ 1000) :
    Calls Try.prog 47 #[.slice A n c, .int .i64 (p : Int)] w (RetDel w A c (without l p)) := by
  subst hn; exact without_calls w p A c l hr h8
theorem leave_none (w : World) (S : Nat) (P : PSet) (A : Nat → Option Addr) (c : Nat → Nat) (h : SetM w S P A c) (hw : Wf P 1000) (p : Nat) (hp : p < P.ps.length) (hno : ¬ ((P.proc p).st = 2 ∧ (P.proc p).res ≠ -1)) :
    Calls Try.prog 37 #[.pointer (some ⟨S, 0, none⟩), .int .i64 (p : Int)] w (RetSet w S A (.tuple #[]) (leave P p)) := by
  obtain ⟨g, hA, _⟩ := h.pcell hp
  have c0 := h.head0 hA rfl
  have c2 := h.head
  have h8 := hw.n
  have hrd := hw.rd
  obtain ⟨n, hn⟩ : ∃ n, n = P.ps.length := ⟨_, rfl⟩
  obtain ⟨n2, hn2⟩ : ∃ n, n = P.ready.length := ⟨_, rfl⟩
  have HL := Lib.hid (leave_out hno)
  have H := Lib.hid h
  have HA := Lib.hid hA
  have HN := Lib.hid hn
  have HN2 := Lib.hid hn2
  have HNO := Lib.hid hno
  have HP := Lib.hid hp
  rw [← hn] at c0 hp h8
  rw [← hn2] at hrd c2
  clear h hA hn hn2 hw hno
  go_enter Try.func37, Try.ntmps37
  go_wp2_with fail
  refine (without_callsN w p (A 2) (c 2) n2 P.ready HN2.out H.out.rd (by rw [← HN2.out]; exact hrd)).mono ?_
  rintro e w1 ⟨rfl, hrow, hgr⟩
  have HR := Lib.hid hrow
  have HG := Lib.hid hgr
  have HB : Hid (NewB w (A 2) (A 2)) := Lib.hid (.inl rfl)
  obtain ⟨m, hm⟩ : ∃ m, m = (without P.ready p).length := ⟨_, rfl⟩
  rw [← hm]
  have HM := Lib.hid hm
  have HF0 := Lib.hid (FrS.refl S A w)
  clear hrow hgr hm c0 c2
  go_wp2_with ((with_reducible show wpList _ _ _ (Oper.mk _ (Op.store _ _ _) _ _ _ _ :: _) _ _); refine wpList_storeReady rfl 28 _ _ rfl H HF0 HM.out HR HG HB rfl rfl s1Ints ?_)
  rw [upA_id, upC_id]
  intro w2 H2 HF2
  change Hid (SetM w2 S (readyOf P p) A c) at H2
  clear HR HG HB HF0 HM H
  have hs2 := H2.out.pget (f := 1) HP.out HA.out rfl
  have hs5 := H2.out.pget (f := 5) HP.out HA.out rfl
  obtain ⟨st, hst⟩ : ∃ st, st = (P.proc p).st := ⟨_, rfl⟩
  obtain ⟨rs, hrs⟩ : ∃ rs, rs = (P.proc p).res := ⟨_, rfl⟩
  replace hs2 : w2.cell? ⟨g, p * 8 + 1, none⟩ = some (.int .i64 st) := by rw [hst]; exact hs2
  replace hs5 : w2.cell? ⟨g, p * 8 + 5, none⟩ = some (.int .i64 rs) := by rw [hrs]; exact hs5
  have hno' : ¬ (st = 2 ∧ rs ≠ -1) := by rw [hst, hrs]; exact HNO.out
  have hp2 : p < (readyOf P p).ps.length := HP.out
  by_cases hs : st = 2
  · have hr : rs = -1 := by
      by_cases h : rs = -1
      · exact h
      · exact absurd ⟨hs, h⟩ hno'
    subst hs hr
    clear hno' hst hrs
    go_wp2_with ((with_reducible show wpList _ _ _ (Oper.mk _ (Op.store _ _ _) _ _ _ _ :: _) _ _); refine wpList_storeP rfl 3 _ _ rfl H2 HF2 5 (.int .i64 (-1)) hp2 HA (by decide) { P.proc p with res := -1 } (rfl) rfl rfl s1Int rfl ?_)
    intro w3 H3 HF3
    go_wp2_with ((with_reducible show wpList _ _ _ (Oper.mk _ (Op.store _ _ _) _ _ _ _ :: _) _ _); refine wpList_storeP rfl 3 _ _ rfl H3 HF3 6 (.int .i64 0) (by rw [ps_setP]; exact hp2) HA (by decide) { P.proc p with res := -1, left := 0 } (by rw [proc_setP hp2]; rfl) rfl rfl s1Int rfl ?_)
    rw [setP_setP]
    intro w4 H4 HF4
    go_wp2_with ((with_reducible show wpList _ _ _ (Oper.mk _ (Op.store _ _ _) _ _ _ _ :: _) _ _); refine wpList_storeP rfl 2 _ _ rfl H4 HF4 7 (.int .i64 0) (by rw [ps_setP]; exact hp2) HA (by decide) { P.proc p with res := -1, left := 0, item := 0 } (by rw [proc_setP hp2]; rfl) rfl rfl s1I64 rfl ?_)
    rw [setP_setP]
    intro w5 H5 HF5
    go_wp2
    have HE : Hid (SetM w5 S (leave P p) A c) := Lib.hid (by rw [HL.out]; exact H5.out)
    exact bodyPost_ret (v := .tuple #[]) (by simp [results, Try.results37, go_sem]) rfl ⟨rfl, _, _, HE.out, HF5.out⟩
  · have hs' : (st == 2) = false := by simpa using hs
    clear hno' hst hrs
    go_wp2_with ((with_reducible show wpList _ _ _ (Oper.mk _ (Op.store _ _ _) _ _ _ _ :: _) _ _); refine wpList_storeP rfl 3 _ _ rfl H2 HF2 5 (.int .i64 (-1)) hp2 HA (by decide) { P.proc p with res := -1 } (rfl) rfl rfl s1Int rfl ?_)
    intro w3 H3 HF3
    go_wp2_with ((with_reducible show wpList _ _ _ (Oper.mk _ (Op.store _ _ _) _ _ _ _ :: _) _ _); refine wpList_storeP rfl 3 _ _ rfl H3 HF3 6 (.int .i64 0) (by rw [ps_setP]; exact hp2) HA (by decide) { P.proc p with res := -1, left := 0 } (by rw [proc_setP hp2]; rfl) rfl rfl s1Int rfl ?_)
    rw [setP_setP]
    intro w4 H4 HF4
    go_wp2_with ((with_reducible show wpList _ _ _ (Oper.mk _ (Op.store _ _ _) _ _ _ _ :: _) _ _); refine wpList_storeP rfl 2 _ _ rfl H4 HF4 7 (.int .i64 0) (by rw [ps_setP]; exact hp2) HA (by decide) { P.proc p with res := -1, left := 0, item := 0 } (by rw [proc_setP hp2]; rfl) rfl rfl s1I64 rfl ?_)
    rw [setP_setP]
    intro w5 H5 HF5
    go_wp2
    have HE : Hid (SetM w5 S (leave P p) A c) := Lib.hid (by rw [HL.out]; exact H5.out)
    exact bodyPost_ret (v := .tuple #[]) (by simp [results, Try.results37, go_sem]) rfl ⟨rfl, _, _, HE.out, HF5.out⟩
theorem leave_some (w : World) (S : Nat) (P : PSet) (A : Nat → Option Addr) (c : Nat → Nat) (h : SetM w S P A c) (hw : Wf P 1000) (p r : Nat) (hp : p < P.ps.length) (hst : (P.proc p).st = 2) (hre : (P.proc p).res = r) (hr : r < P.rs.length) :
    Calls Try.prog 37 #[.pointer (some ⟨S, 0, none⟩), .int .i64 (p : Int)] w (RetSet w S A (.tuple #[]) (leave P p)) := by
  obtain ⟨g, hA, _⟩ := h.pcell hp
  obtain ⟨g1, hA1, _⟩ := h.rcell hr
  have c0 := h.head0 hA rfl
  have c2 := h.head
  have h8 := hw.n
  have h8r := hw.m
  have hrd := hw.rd
  have hqq := hw.q r
  obtain ⟨n, hn⟩ : ∃ n, n = P.ps.length := ⟨_, rfl⟩
  obtain ⟨n2, hn2⟩ : ∃ n, n = P.ready.length := ⟨_, rfl⟩
  have HL := Lib.hid (leave_in hst hre (by omega))
  have H := Lib.hid h
  have HA := Lib.hid hA
  have HA1 := Lib.hid hA1
  have HN := Lib.hid hn
  have HN2 := Lib.hid hn2
  have HST := Lib.hid hst
  have HRE := Lib.hid hre
  have HP := Lib.hid hp
  have HRR := Lib.hid hr
  have HQQ := Lib.hid hqq
  have HM1 := Lib.hid h8r
  rw [← hn] at c0 hp h8
  rw [← hn2] at hrd c2
  clear h hA hA1 hn hn2 hw hst hre hr hqq h8r
  go_enter Try.func37, Try.ntmps37
  go_wp2_with fail
  refine (without_callsN w p (A 2) (c 2) n2 P.ready HN2.out H.out.rd (by rw [← HN2.out]; exact hrd)).mono ?_
  rintro e w1 ⟨rfl, hrow, hgr⟩
  have HR := Lib.hid hrow
  have HG := Lib.hid hgr
  have HB : Hid (NewB w (A 2) (A 2)) := Lib.hid (.inl rfl)
  obtain ⟨m, hm⟩ : ∃ m, m = (without P.ready p).length := ⟨_, rfl⟩
  rw [← hm]
  have HM := Lib.hid hm
  have HF0 := Lib.hid (FrS.refl S A w)
  clear hrow hgr hm c0 c2
  go_wp2_with ((with_reducible show wpList _ _ _ (Oper.mk _ (Op.store _ _ _) _ _ _ _ :: _) _ _); refine wpList_storeReady rfl 28 _ _ rfl H HF0 HM.out HR HG HB rfl rfl s1Ints ?_)
  rw [upA_id, upC_id]
  intro w2 H2 HF2
  change Hid (SetM w2 S (readyOf P p) A c) at H2
  clear HR HG HB HF0 HM H
  have hs2 : w2.cell? ⟨g, p * 8 + 1, none⟩ = some (.int .i64 2) := by rw [← HST.out]; exact H2.out.pget (f := 1) HP.out HA.out rfl
  have hs5 : w2.cell? ⟨g, p * 8 + 5, none⟩ = some (.int .i64 (r : Int)) := by rw [← HRE.out]; exact H2.out.pget (f := 5) HP.out HA.out rfl
  have hp2 : p < (readyOf P p).ps.length := HP.out
  obtain ⟨n1, hn1⟩ : ∃ n, n = P.rs.length := ⟨_, rfl⟩
  obtain ⟨lq, hlq⟩ : ∃ n, n = (P.rsc r).q.length := ⟨_, rfl⟩
  have c1 : w2.cell? ⟨S, 1, none⟩ = some (.slice (some ⟨g1, 0, none⟩) n1 (c 1)) := H2.out.head1 HA1.out hn1
  have c3 : w2.cell? ⟨g1, r * 5 + 3, none⟩ = some (.slice (A (3 + 2 * r)) lq (c (3 + 2 * r))) := by rw [hlq]; exact H2.out.rget (f := 3) HRR.out HA1.out rfl
  have hr1 : r < n1 := by rw [hn1]; exact HRR.out
  have h8r : n1 ≤ 1000 := by rw [hn1]; exact HM1.out
  have HLQ := Lib.hid hlq
  have hrne : ((r : Int) != -1) = true := by simp
  have hrne2 : ((r : Int) == -1) = false := by simp
  clear hn1 hlq
  go_wp2_with fail
  go_quiet (fail)
  go_wp2_with fail
  refine (without_callsN _ p (A (3 + 2 * r)) (c (3 + 2 * r)) lq (P.rsc r).q HLQ.out ((H2.out.drewN _).qo r HRR.out) HQQ.out).mono ?_
  rintro e w3 ⟨rfl, hrow, hgr⟩
  have HR := Lib.hid hrow
  have HG : Hid (w2.grownBy w3 ((A (3 + 2 * r)).map (·.block))) := Lib.hid ⟨hgr.os, hgr.tape, hgr.output, hgr.size, hgr.block⟩
  have HB : Hid (NewB w2 (A (3 + 2 * r)) (A (3 + 2 * r))) := Lib.hid (.inl rfl)
  obtain ⟨m2, hm2⟩ : ∃ m, m = (without (P.rsc r).q p).length := ⟨_, rfl⟩
  rw [← hm2]
  have HM2 := Lib.hid hm2
  have hrr : r < (readyOf P p).rs.length := HRR.out
  clear hrow hgr hm2 hs2 hs5 c1 c3
  go_wp2_with ((with_reducible show wpList _ _ _ (Oper.mk _ (Op.store _ _ _) _ _ _ _ :: _) _ _); refine wpList_storeQ rfl 28 _ _ rfl H2 HF2 hrr HA1 HM2.out HR HG HB rfl rfl s1Ints ?_)
  rw [upA_id, upC_id]
  intro w4 H4 HF4
  change Hid (SetM w4 S ((readyOf P p).setR r { P.rsc r with q := without (P.rsc r).q p }) A c) at H4
  clear H2 HF2 HR HG HB HM2 hrr
  replace hp2 : p < ((readyOf P p).setR r { P.rsc r with q := without (P.rsc r).q p }).ps.length := hp2
  go_wp2_with ((with_reducible show wpList _ _ _ (Oper.mk _ (Op.store _ _ _) _ _ _ _ :: _) _ _); refine wpList_storeP rfl 3 _ _ rfl H4 HF4 5 (.int .i64 (-1)) (by first | exact hp2 | (rw [ps_setP]; exact hp2)) HA (by decide) { P.proc p with res := -1 } (rfl) rfl rfl s1Int rfl ?_)
  intro w5 H5 HF5
  go_wp2_with ((with_reducible show wpList _ _ _ (Oper.mk _ (Op.store _ _ _) _ _ _ _ :: _) _ _); refine wpList_storeP rfl 3 _ _ rfl H5 HF5 6 (.int .i64 0) (by first | exact hp2 | (rw [ps_setP]; exact hp2)) HA (by decide) { P.proc p with res := -1, left := 0 } (by rw [proc_setP hp2]; rfl) rfl rfl s1Int rfl ?_)
  rw [setP_setP]
  intro w6 H6 HF6
  go_wp2_with ((with_reducible show wpList _ _ _ (Oper.mk _ (Op.store _ _ _) _ _ _ _ :: _) _ _); refine wpList_storeP rfl 2 _ _ rfl H6 HF6 7 (.int .i64 0) (by first | exact hp2 | (rw [ps_setP]; exact hp2)) HA (by decide) { P.proc p with res := -1, left := 0, item := 0 } (by rw [proc_setP hp2]; rfl) rfl rfl s1I64 rfl ?_)
  rw [setP_setP]
  intro w7 H7 HF7
  go_wp2
  have HE : Hid (SetM w7 S (leave P p) A c) := Lib.hid (by rw [HL.out]; exact H7.out)
  exact bodyPost_ret (v := .tuple #[]) (by simp [results, Try.results37, go_sem]) rfl ⟨rfl, _, _, HE.out, HF7.out⟩
theorem leave_calls (w : World) (S : Nat) (P : PSet) (A : Nat → Option Addr) (c : Nat → Nat) (h : SetM w S P A c) (hw : Wf P 1000) (p : Nat) (hp : p < P.ps.length) :
    Calls Try.prog 37 #[.pointer (some ⟨S, 0, none⟩), .int .i64 (p : Int)] w (RetSet w S A (.tuple #[]) (leave P p)) := by
  by_cases h2 : (P.proc p).st = 2 ∧ (P.proc p).res ≠ -1
  · obtain ⟨h3, h4⟩ := hw.res p h2.1 h2.2
    obtain ⟨r, hr⟩ : ∃ r : Nat, (P.proc p).res = r := ⟨(P.proc p).res.toNat, by omega⟩
    exact leave_some w S P A c h hw p r hp h2.1 hr (by omega)
  · exact leave_none w S P A c h hw p hp h2
end Go.Proofs.Ytgeffkdobnipgaa
/- A region that draws its order, of which no result hangs on the order: each operation keeps what the others have left, for memory only grows. One proof an operation, whatever the order. Over whatever program. -/
namespace Nac
open Go Go.RowKit
/-- what is known of a slot's value -/
inductive VD where
  | is (v : Value)
  | pr (p : Value → World → Prop) (hm : ∀ v w w', p v w → Below w.heap.size w w' → p v w')
def VD.ok : VD → Value → World → Prop
  | .is u, v, _ => v = u
  | .pr p _, v, w => p v w
theorem VD.mono (d : VD) (v : Value) (w w' : World) (h : d.ok v w) (hb : Below w.heap.size w w') : d.ok v w' := by
  cases d with
  | is u => exact h
  | pr p hm => exact hm v w w' h hb
def dstOf (ops : Array Oper) (i : Nat) : Option Tmp := (ops[i]?).bind (·.dst)
/-- the operations that must have come ahead of operation i -/
def preds (ops : Array Oper) : Nat → Nat → List Nat
  | 0, _ => []
  | n + 1, i => match ops[i]? with
    | none => []
    | some o => (o.after.toList.filter fun e => Region.binds .any e).flatMap fun e => e.on :: preds ops n e.on
/-- slot t still holds, when operation i is run, what it held at first -/
def origB (ops : Array Oper) (i t : Nat) : Bool := (List.range ops.size).all fun k => dstOf ops k != some t || (preds ops 3 k).contains i
def distinctB (ops : Array Oper) (n : Nat) : Bool := (List.range ops.size).all fun i => (match dstOf ops i with | none => true | some d => decide (d < n)) && (List.range ops.size).all fun j => i == j || dstOf ops i == none || dstOf ops i != dstOf ops j
section
variable {P : Program} {ops : Array Oper} {Q : Exit → Act → World → Prop} {D : Nat → VD} {a0 : Act} {W0 : World}
structure MCtx (ops : Array Oper) (D : Nat → VD) (a0 : Act) (W0 : World) (i : Nat) (a : Act) (w : World) : Prop where
  below : Below W0.heap.size W0 w
  tsize : a.tmps.size = a0.tmps.size
  pred : ∀ k d, k ∈ preds ops 3 i → dstOf ops k = some d → (D k).ok (a.tmps.getD d undef) w
  orig : ∀ t, origB ops i t = true → a.tmps.getD t undef = a0.tmps.getD t undef
def MStep (P : Program) (ops : Array Oper) (Q : Exit → Act → World → Prop) (D : Nat → VD) (a0 : Act) (W0 : World) (i : Nat) : Prop :=
  ∀ o, ops[i]? = some o → ∀ a w, MCtx ops D a0 W0 i a w →
    if Region.wanted o (yielded ops a.tmps) = true then o.wp P a w (fun a' w' => ∃ v, a' = a.put o.dst v ∧ (D i).ok v w' ∧ Below w.heap.size w w') Q else (D i).ok undef w
structure MInv (ops : Array Oper) (D : Nat → VD) (a0 : Act) (W0 : World) (listed : Array Bool) (a : Act) (w : World) : Prop where
  size : listed.size = ops.size
  below : Below W0.heap.size W0 w
  defers : a.defers = a0.defers
  tsize : a.tmps.size = a0.tmps.size
  closed : ∀ i o, ops[i]? = some o → listed.getD i false = true → ∀ e ∈ o.after, Region.binds .any e = true → listed.getD e.on false = true
  done : ∀ i d, listed.getD i false = true → dstOf ops i = some d → (D i).ok (a.tmps.getD d undef) w
  rest : ∀ t, (∀ i, listed.getD i false = true → dstOf ops i ≠ some t) → a.tmps.getD t undef = a0.tmps.getD t undef
theorem preds_closed {listed : Array Bool} (hc : ∀ i o, ops[i]? = some o → listed.getD i false = true → ∀ e ∈ o.after, Region.binds .any e = true → listed.getD e.on false = true) :
    ∀ (n i : Nat), (∀ o, ops[i]? = some o → ∀ e ∈ o.after, Region.binds .any e = true → listed.getD e.on false = true) → ∀ k ∈ preds ops n i, listed.getD k false = true := by
  intro n
  induction n with
  | zero => intro i _ k hk; simp [preds] at hk
  | succ n ih =>
    intro i hi k hk
    unfold preds at hk
    cases ho : ops[i]? with
    | none => simp [ho] at hk
    | some o =>
      simp only [ho, List.mem_flatMap, List.mem_filter, Array.mem_toList_iff] at hk
      obtain ⟨e, ⟨he, hb⟩, hk⟩ := hk
      have h1 := hi o ho e he hb
      rcases List.mem_cons.1 hk with rfl | hk
      · exact h1
      · exact ih e.on (fun o' ho' e' he' hb' => hc e.on o' ho' h1 e' he' hb') k hk
theorem getD_setIf (l : Array Bool) (i j : Nat) (h : i < l.size) : (l.setIfInBounds i true).getD j false = if i = j then true else l.getD j false := by
  simp only [Array.getD_eq_getD_getElem?, Array.getElem?_setIfInBounds]
  by_cases e : i = j
  · subst e; simp [h]
  · simp [e]
theorem getD_put (t : Array Value) (d k : Nat) (v : Value) (h : d < t.size) : (t.setIfInBounds d v).getD k undef = if d = k then v else t.getD k undef := by
  simp only [Array.getD_eq_getD_getElem?, Array.getElem?_setIfInBounds]
  by_cases e : d = k
  · subst e; simp [h]
  · simp [e]
theorem mono_put {listed : Array Bool} {a : Act} {w w' : World} {i : Nat} {o : Oper} (hI : MInv ops D a0 W0 listed a w) (hi : i < ops.size) (ho : ops[i]? = some o)
    (hd : distinctB ops a0.tmps.size = true) (hready : ∀ e ∈ o.after, Region.binds .any e = true → listed.getD e.on false = true) {v : Value} (hv : (D i).ok v w') (hb : Below w.heap.size w w') : MInv ops D a0 W0 (listed.setIfInBounds i true) (a.put o.dst v) w' := by
  have hs : i < listed.size := by rw [hI.size]; exact hi
  have hdo : dstOf ops i = o.dst := by simp [dstOf, ho]
  have hdist : ∀ x y d, x < ops.size → y < ops.size → dstOf ops x = some d → (d < a0.tmps.size) ∧ (dstOf ops y = some d → x = y) := by
    intro x y d hx hy hxd
    unfold distinctB at hd
    rw [List.all_eq_true] at hd
    have h1 := hd x (by simpa using hx)
    rw [Bool.and_eq_true, List.all_eq_true] at h1
    obtain ⟨h1, h2⟩ := h1
    have h2 := h2 y (by simpa using hy)
    rw [hxd] at h1 h2
    refine ⟨by simpa using h1, fun hyd => ?_⟩
    rw [hyd] at h2
    simpa using h2
  have hin : ∀ k d, dstOf ops k = some d → k < ops.size := by
    intro k d hk
    rcases Nat.lt_or_ge k ops.size with h | h
    · exact h
    · simp [dstOf, Array.getElem?_eq_none h] at hk
  have hput : ∀ t, (a.put o.dst v).tmps.getD t undef = if o.dst = some t then v else a.tmps.getD t undef := by
    intro t
    cases hod : o.dst with
    | none => simp [Act.put]
    | some d =>
      have hlt := (hdist i i d hi hi (by rw [hdo, hod])).1
      simp only [Act.put]
      rw [getD_put _ _ _ _ (by rw [hI.tsize]; exact hlt)]
      simp
  refine ⟨by simpa using hI.size, hI.below.trans (hb.mono hI.below.size), ?_, ?_, ?_, ?_, ?_⟩
  · cases o.dst <;> simpa [Act.put] using hI.defers
  · cases o.dst <;> simpa [Act.put] using hI.tsize
  · intro j oj hj hl e he hbind
    rw [getD_setIf _ _ _ hs] at hl ⊢
    by_cases hx : i = e.on
    · simp [hx]
    · rw [if_neg hx]
      by_cases hij : i = j
      · subst hij
        rw [ho] at hj
        obtain rfl := Option.some.inj hj
        exact hready e he hbind
      · rw [if_neg hij] at hl
        exact hI.closed j oj hj hl e he hbind
  · intro j d hl hjd
    rw [getD_setIf _ _ _ hs] at hl
    rw [hput]
    by_cases hij : i = j
    · subst hij
      rw [hdo] at hjd
      rw [if_pos hjd]
      exact hv
    · rw [if_neg hij] at hl
      rw [if_neg (fun h => hij ((hdist i j d hi (hin j d hjd) (by rw [hdo]; exact h)).2 hjd))]
      exact VD.mono _ _ _ _ (hI.done j d hl hjd) hb
  · intro t ht
    have h1 : o.dst ≠ some t := by
      have := ht i (by rw [getD_setIf _ _ _ hs]; simp)
      rwa [hdo] at this
    rw [hput, if_neg h1]
    refine hI.rest t fun j hl => ht j ?_
    rw [getD_setIf _ _ _ hs]
    split
    · rfl
    · exact hl
def falses (l : Array Bool) : Nat := (l.toList.filter (! ·)).length
theorem falses_list : ∀ (xs : List Bool) (i : Nat), xs[i]? = some false → ((xs.set i true).filter (! ·)).length + 1 = (xs.filter (! ·)).length := by
  intro xs
  induction xs with
  | nil => intro i h; simp at h
  | cons x xs ih =>
    intro i h
    cases i with
    | zero =>
      simp only [List.getElem?_cons_zero, Option.some.injEq] at h
      subst h
      simp
    | succ i =>
      simp only [List.getElem?_cons_succ] at h
      have := ih i h
      cases x <;> simp <;> omega
theorem falses_set (l : Array Bool) (i : Nat) (h : i < l.size) (hf : l.getD i false = false) : falses (l.setIfInBounds i true) + 1 = falses l := by
  unfold falses
  rw [Array.toList_setIfInBounds]
  refine falses_list _ _ ?_
  rw [Array.getElem?_toList, Array.getElem?_eq_getElem h]
  rw [Array.getD_eq_getD_getElem?, Array.getElem?_eq_getElem h] at hf
  simpa using hf
theorem falses_zero (l : Array Bool) (h : falses l = 0) (i : Nat) (hi : i < l.size) : l.getD i false = true := by
  unfold falses at h
  rw [List.length_eq_zero_iff, List.filter_eq_nil_iff] at h
  rw [Array.getD_eq_getD_getElem?, Array.getElem?_eq_getElem hi]
  have := h l[i] (by simp)
  simpa using this
def backB (ops : Array Oper) : Bool := (List.range ops.size).all fun i => match ops[i]? with | none => true | some o => o.after.all fun e => !Region.binds .any e || decide (e.on < i)
theorem ready_of {listed : Array Bool} {i : Nat} (h : i ∈ Region.ready .any ops listed) (hs : listed.size = ops.size) : i < ops.size ∧ listed.getD i false = false ∧ ∃ o, ops[i]? = some o ∧ ∀ e ∈ o.after, Region.binds .any e = true → listed.getD e.on false = true := by
  unfold Region.ready at h
  rw [List.mem_filter] at h
  obtain ⟨h1, h2⟩ := h
  have hi : i < ops.size := by simpa using h1
  have ho : ops[i]? = some ops[i] := Array.getElem?_eq_getElem hi
  rw [ho] at h2
  rw [Bool.and_eq_true] at h2
  obtain ⟨h2, h3⟩ := h2
  refine ⟨hi, ?_, ops[i], ho, fun e he hb => ?_⟩
  · have hsz : i < listed.size := by omega
    rw [Array.getD_eq_getD_getElem?, Array.getElem?_eq_getElem hsz] at h2 ⊢
    simpa using h2
  · simp only [Option.map_some, Option.getD_some] at h3
    rw [Array.all_eq_true_iff_forall_mem] at h3
    have := h3 e he
    rw [hb] at this
    simpa using this
theorem ready_ex {listed : Array Bool} (hb : backB ops = true) (hs : listed.size = ops.size) : ∀ i, i < ops.size → listed.getD i false = false → Region.ready .any ops listed ≠ [] := by
  intro i
  induction i using Nat.strongRecOn with
  | ind i ih =>
    intro hi hf
    by_cases hall : ∀ e ∈ ops[i].after, Region.binds .any e = true → listed.getD e.on false = true
    · have : i ∈ Region.ready .any ops listed := by
        unfold Region.ready
        rw [List.mem_filter]
        refine ⟨by simpa using hi, ?_⟩
        rw [Array.getElem?_eq_getElem hi, Bool.and_eq_true]
        constructor
        · have hsz : i < listed.size := by omega
          rw [Array.getD_eq_getD_getElem?, Array.getElem?_eq_getElem hsz] at hf ⊢
          simpa using hf
        · simp only [Option.map_some, Option.getD_some]
          rw [Array.all_eq_true_iff_forall_mem]
          intro e he
          cases hx : Region.binds .any e
          · simp
          · simpa using hall e he hx
      intro h
      rw [h] at this
      cases this
    · simp only [Classical.not_forall] at hall
      obtain ⟨e, he, hbd, hl⟩ := hall
      unfold backB at hb
      rw [List.all_eq_true] at hb
      have h1 := hb i (by simpa using hi)
      rw [Array.getElem?_eq_getElem hi] at h1
      simp only at h1
      rw [Array.all_eq_true_iff_forall_mem] at h1
      have h2 := h1 e he
      rw [hbd] at h2
      have hlt : e.on < i := by simpa using h2
      exact ih e.on hlt (by omega) (by simpa using hl)
theorem mono_any (hd : distinctB ops a0.tmps.size = true) (hbk : backB ops = true)
    (step : ∀ i, i < ops.size → MStep P ops Q D a0 W0 i)
    (fin : ∀ a w, Below W0.heap.size W0 w → a.defers = a0.defers → a.tmps.size = a0.tmps.size → (∀ i d, dstOf ops i = some d → (D i).ok (a.tmps.getD d undef) w) → (∀ t, (∀ i, dstOf ops i ≠ some t) → a.tmps.getD t undef = a0.tmps.getD t undef) → Q .normal a w) :
    ∀ (fuel : Nat) (listed : Array Bool) (a : Act) (w : World), falses listed ≤ fuel → MInv ops D a0 W0 listed a w → wpAny P .any ops Q fuel listed a w := by
  have hfin : ∀ (listed : Array Bool) (a : Act) (w : World), (∀ i, i < ops.size → listed.getD i false = true) → MInv ops D a0 W0 listed a w → Q .normal a w := by
    intro listed a w hall hI
    refine fin a w hI.below hI.defers hI.tsize (fun i d h => hI.done i d (hall i ?_) h) (fun t ht => hI.rest t fun i _ => ht i)
    rcases Nat.lt_or_ge i ops.size with h' | h'
    · exact h'
    · simp [dstOf, Array.getElem?_eq_none h'] at h
  have hnil : ∀ (listed : Array Bool), listed.size = ops.size → Region.ready .any ops listed = [] → ∀ i, i < ops.size → listed.getD i false = true := by
    intro listed hs hr i hi
    cases hf : listed.getD i false
    · exact absurd hr (ready_ex hbk hs i hi hf)
    · rfl
  intro fuel
  induction fuel with
  | zero =>
    intro listed a w hf hI
    have hall : ∀ i, i < ops.size → listed.getD i false = true := fun i hi => falses_zero listed (by omega) i (by rw [hI.size]; exact hi)
    refine ⟨?_, hfin listed a w hall hI⟩
    apply List.eq_nil_iff_forall_not_mem.2
    intro i hi
    obtain ⟨h1, h2, _⟩ := ready_of hi hI.size
    rw [hall i h1] at h2
    cases h2
  | succ fuel ih =>
    intro listed a w hf hI
    refine ⟨fun hr => hfin listed a w (hnil listed hI.size hr) hI, fun i hi => ?_⟩
    obtain ⟨h1, h2, o, ho, hready⟩ := ready_of hi hI.size
    have hctx : MCtx ops D a0 W0 i a w := by
      have hpc := preds_closed hI.closed 3 i (fun o' ho' => by rw [ho] at ho'; obtain rfl := Option.some.inj ho'; exact hready)
      refine ⟨hI.below, hI.tsize, fun k d hk hkd => hI.done k d (hpc k hk) hkd, fun t ht => hI.rest t fun k hl hkd => ?_⟩
      unfold origB at ht
      rw [List.all_eq_true] at ht
      have hk : k < ops.size := by
        rcases Nat.lt_or_ge k ops.size with h | h
        · exact h
        · simp [dstOf, Array.getElem?_eq_none h] at hkd
      have h3 := ht k (by simpa using hk)
      rw [hkd] at h3
      simp only [bne_self_eq_false, Bool.false_or, List.contains_iff_mem] at h3
      have := preds_closed hI.closed 3 k (fun o' ho' e he hb' => hI.closed k o' ho' hl e he hb') i h3
      rw [h2] at this
      cases this
    have hs := step i h1 o ho a w hctx
    have hfl : falses (listed.setIfInBounds i true) ≤ fuel := by
      have := falses_set listed i (by rw [hI.size]; exact h1) h2
      omega
    unfold wpOp
    rw [ho]
    simp only
    split
    · rename_i hw
      rw [if_pos hw] at hs
      refine Or.inl (Oper.wp_mono ?_ hs)
      rintro a' w' ⟨v, rfl, hv, hb⟩
      exact ih _ _ _ hfl (mono_put hI h1 ho hd hready hv hb)
    · rename_i hw
      rw [if_neg hw] at hs
      exact ih _ _ _ hfl (mono_put hI h1 ho hd hready hs (Below.refl _ _))
/-- THE LAW: a region that draws, of operations that only let memory grow -/
theorem region_mono {id : Nat} {a0 : Act} {w0 : World} (D : Nat → VD) (hm : P.follows .mixedOrders = true) (hd : distinctB ops a0.tmps.size = true) (hbk : backB ops = true)
    (step : ∀ i, i < ops.size → MStep P ops Q D a0 w0.drew i)
    (fin : ∀ a w, Below w0.heap.size w0 w → a.defers = a0.defers → a.tmps.size = a0.tmps.size → (∀ i d, dstOf ops i = some d → (D i).ok (a.tmps.getD d undef) w) → (∀ t, (∀ i, dstOf ops i ≠ some t) → a.tmps.getD t undef = a0.tmps.getD t undef) → Q .normal a w) :
    (Code.region id ops true).wp P Q a0 w0 := by
  refine wp_region_any hm ?_
  have hg : ∀ i, (Array.replicate ops.size false).getD i false = false := by
    intro i
    rw [Array.getD_eq_getD_getElem?, Array.getElem?_replicate]
    split <;> rfl
  refine mono_any (D := D) (a0 := a0) (W0 := w0.drew) hd hbk step (fun a w hb => fin a w ⟨hb.os, hb.tape, hb.output, hb.size, hb.block⟩) _ _ _ _ ?_ ⟨by simp, Below.refl _ _, rfl, rfl, fun i o _ h => (by rw [hg] at h; cases h), fun i d h => (by rw [hg] at h; cases h), fun _ _ => rfl⟩
  unfold falses
  simp
/-! ### one operation -/
variable {i : Nat} {o : Oper}
theorem mwant_none (hg : o.guard = none) : ∀ a w, MCtx ops D a0 W0 i a w → Region.wanted o (yielded ops a.tmps) = true := fun _ _ _ => by simp [Region.wanted, hg]
theorem mwant (j : Nat) (want : Bool) (d : Tmp) (hg : o.guard = some (j, want)) (hj : (preds ops 3 i).contains j = true) (hdj : dstOf ops j = some d) (hD : D j = .is (.bool want)) (hlt : decide (d < a0.tmps.size) = true) :
    ∀ a w, MCtx ops D a0 W0 i a w → Region.wanted o (yielded ops a.tmps) = true := fun a w c => by
  have hsz := c.tsize
  have h := c.pred j d (by simpa using hj) hdj
  rw [hD] at h
  have h : a.tmps.getD d undef = .bool want := h
  have hlt : d < a.tmps.size := by rw [hsz]; simpa using hlt
  have hy : yielded ops a.tmps j = some want := by
    unfold yielded
    have hdj' : (ops[j]?).bind (·.dst) = some d := hdj
    rw [hdj']
    rw [Array.getD_eq_getD_getElem?, Array.getElem?_eq_getElem hlt] at h
    simp only [Option.getD_some] at h
    simp [Array.getElem?_eq_getElem hlt, h]
  simp [Region.wanted, hg, hy]
theorem mstep_val (ho : ops[i]? = some o) (hw : ∀ a w, MCtx ops D a0 W0 i a w → Region.wanted o (yielded ops a.tmps) = true)
    (h : ∀ a w, MCtx ops D a0 W0 i a w → ∃ v w', (execOp a.eval o).run P w = .ok (.value v) w' ∧ (D i).ok v w' ∧ Below w.heap.size w w') : MStep P ops Q D a0 W0 i := by
  intro o' ho' a w c
  rw [ho] at ho'
  obtain rfl := Option.some.inj ho'
  rw [if_pos (hw a w c)]
  obtain ⟨v, w', hr, hv, hb⟩ := h a w c
  unfold Oper.wp
  rw [hr]
  exact ⟨v, rfl, hv, hb⟩
/-- one that leaves the world as it is -/
theorem mstep_pure (ho : ops[i]? = some o) (hw : ∀ a w, MCtx ops D a0 W0 i a w → Region.wanted o (yielded ops a.tmps) = true)
    (h : ∀ a w, MCtx ops D a0 W0 i a w → ∃ v, (execOp a.eval o).run P w = .ok (.value v) w ∧ (D i).ok v w) : MStep P ops Q D a0 W0 i :=
  mstep_val ho hw fun a w c => let ⟨v, h1, h2⟩ := h a w c; ⟨v, w, h1, h2, Below.refl _ _⟩
theorem mstep_copy (ho : ops[i]? = some o) (hw : ∀ a w, MCtx ops D a0 W0 i a w → Region.wanted o (yielded ops a.tmps) = true) (t : Tmp) (hop : o.op = .move (.tmp t) ∨ o.op = .assign (.tmp t))
    (k : Nat) (hk : (preds ops 3 i).contains k = true) (hkd : dstOf ops k = some t) (hD : D i = D k) : MStep P ops Q D a0 W0 i :=
  mstep_pure ho hw fun a w c => ⟨a.tmps.getD t undef, by rcases hop with h | h <;> simp [execOp, h, Act.eval], by rw [hD]; exact c.pred k t (by simpa using hk) hkd⟩
theorem mstep_first (ho : ops[i]? = some o) (hw : ∀ a w, MCtx ops D a0 W0 i a w → Region.wanted o (yielded ops a.tmps) = true) (t : Tmp) (hop : o.op = .move (.tmp t) ∨ o.op = .assign (.tmp t))
    (ht : origB ops i t = true) (hD : ∀ w, Below W0.heap.size W0 w → (D i).ok (a0.tmps.getD t undef) w) : MStep P ops Q D a0 W0 i :=
  mstep_pure ho hw fun a w c => ⟨a.tmps.getD t undef, by rcases hop with h | h <;> simp [execOp, h, Act.eval], by rw [c.orig t ht]; exact hD w c.below⟩
theorem mstep_const (ho : ops[i]? = some o) (hw : ∀ a w, MCtx ops D a0 W0 i a w → Region.wanted o (yielded ops a.tmps) = true) (v : Value) (hop : o.op = .move (.const v) ∨ o.op = .assign (.const v)) (hD : D i = .is v) : MStep P ops Q D a0 W0 i :=
  mstep_pure ho hw fun a w _ => ⟨v, by rcases hop with h | h <;> simp [execOp, h, Act.eval], by rw [hD]; rfl⟩
theorem mstep_pick (ho : ops[i]? = some o) (hw : ∀ a w, MCtx ops D a0 W0 i a w → Region.wanted o (yielded ops a.tmps) = true) (tc tx : Tmp) (y : Operand) (hop : o.op = .pick (.tmp tc) (.tmp tx) y)
    (kc kx : Nat) (hkc : (preds ops 3 i).contains kc = true) (hkx : (preds ops 3 i).contains kx = true) (hc : dstOf ops kc = some tc) (hx : dstOf ops kx = some tx) (hDc : D kc = .is (.bool true)) (hD : D i = D kx) : MStep P ops Q D a0 W0 i :=
  mstep_pure ho hw fun a w c => by
    have h1 := c.pred kc tc (by simpa using hkc) hc
    rw [hDc] at h1
    have h1 : a.tmps.getD tc undef = .bool true := h1
    have h2 := c.pred kx tx (by simpa using hkx) hx
    rw [← hD] at h2
    refine ⟨a.tmps.getD tx undef, ?_, h2⟩
    simp [execOp, hop, Act.eval, h1, asBool]
theorem mstep_call (ho : ops[i]? = some o) (hw : ∀ a w, MCtx ops D a0 W0 i a w → Region.wanted o (yielded ops a.tmps) = true) (f : FuncId) (args : Array Operand) (ts : Array TypeId)
    (hop : o.op = .call { callee := .value (.func f), args := args, argTypes := ts }) (he : ∀ vs w, (callFunc f vs).run P w = .ok (.enter f vs) w)
    (h : ∀ a w, MCtx ops D a0 W0 i a w → Calls P f (args.map a.eval) w fun e w' => ∃ v, e = .returned v ∧ (D i).ok v w' ∧ Below w.heap.size w w') : MStep P ops Q D a0 W0 i := by
  intro o' ho' a w c
  rw [ho] at ho'
  obtain rfl := Option.some.inj ho'
  rw [if_pos (hw a w c)]
  have hr : (execOp a.eval o).run P w = .ok (.enter f (args.map a.eval)) w := by
    simp [execOp, hop, resolve, Deferred.ofValue, Act.eval, invoke, he]
  unfold Oper.wp
  rw [hr]
  refine (h a w c).mono ?_
  rintro e w' ⟨v, rfl, hv, hb⟩
  exact ⟨v, rfl, hv, hb⟩
theorem mstep_call0 (ho : ops[i]? = some o) (hw : ∀ a w, MCtx ops D a0 W0 i a w → Region.wanted o (yielded ops a.tmps) = true) (f : FuncId) (ts : Array TypeId)
    (hop : o.op = .call { callee := .value (.func f), args := #[], argTypes := ts }) (he : ∀ vs w, (callFunc f vs).run P w = .ok (.enter f vs) w)
    (h : ∀ w, Below W0.heap.size W0 w → Calls P f #[] w fun e w' => ∃ v, e = .returned v ∧ (D i).ok v w' ∧ Below w.heap.size w w') : MStep P ops Q D a0 W0 i :=
  mstep_call ho hw f #[] ts hop he fun a w c => by
    have e : (#[] : Array Operand).map a.eval = #[] := by simp
    rw [e]
    exact h w c.below
theorem mstep_call1 (ho : ops[i]? = some o) (hw : ∀ a w, MCtx ops D a0 W0 i a w → Region.wanted o (yielded ops a.tmps) = true) (f : FuncId) (x : Tmp) (ts : Array TypeId)
    (hop : o.op = .call { callee := .value (.func f), args := #[.tmp x], argTypes := ts }) (he : ∀ vs w, (callFunc f vs).run P w = .ok (.enter f vs) w)
    (kx : Nat) (hkx : (preds ops 3 i).contains kx = true) (hx : dstOf ops kx = some x)
    (h : ∀ v w, Below W0.heap.size W0 w → (D kx).ok v w → Calls P f #[v] w fun e w' => ∃ v, e = .returned v ∧ (D i).ok v w' ∧ Below w.heap.size w w') : MStep P ops Q D a0 W0 i :=
  mstep_call ho hw f #[.tmp x] ts hop he fun a w c => by
    have e : (#[Operand.tmp x]).map a.eval = #[a.tmps.getD x undef] := by simp [Act.eval]
    rw [e]
    exact h _ w c.below (c.pred kx x (by simpa using hkx) hx)
theorem mstep_call2 (ho : ops[i]? = some o) (hw : ∀ a w, MCtx ops D a0 W0 i a w → Region.wanted o (yielded ops a.tmps) = true) (f : FuncId) (x y : Tmp) (ts : Array TypeId)
    (hop : o.op = .call { callee := .value (.func f), args := #[.tmp x, .tmp y], argTypes := ts }) (he : ∀ vs w, (callFunc f vs).run P w = .ok (.enter f vs) w)
    (kx ky : Nat) (hkx : (preds ops 3 i).contains kx = true) (hky : (preds ops 3 i).contains ky = true) (hx : dstOf ops kx = some x) (hy : dstOf ops ky = some y)
    (h : ∀ v u w, Below W0.heap.size W0 w → (D kx).ok v w → (D ky).ok u w → Calls P f #[v, u] w fun e w' => ∃ v, e = .returned v ∧ (D i).ok v w' ∧ Below w.heap.size w w') : MStep P ops Q D a0 W0 i :=
  mstep_call ho hw f #[.tmp x, .tmp y] ts hop he fun a w c => by
    have e : (#[Operand.tmp x, Operand.tmp y]).map a.eval = #[a.tmps.getD x undef, a.tmps.getD y undef] := by simp [Act.eval]
    rw [e]
    exact h _ _ w c.below (c.pred kx x (by simpa using hkx) hx) (c.pred ky y (by simpa using hky) hy)
theorem mstep_bin (ho : ops[i]? = some o) (hw : ∀ a w, MCtx ops D a0 W0 i a w → Region.wanted o (yielded ops a.tmps) = true) (op : BinOp) (T T' : TypeId) (x y : Tmp) (hop : o.op = .binOp op T (.tmp x) (.tmp y) T')
    (kx ky : Nat) (hkx : (preds ops 3 i).contains kx = true) (hky : (preds ops 3 i).contains ky = true) (hx : dstOf ops kx = some x) (hy : dstOf ops ky = some y) (vx vy r : Value) (hDx : D kx = .is vx) (hDy : D ky = .is vy) (hD : D i = .is r)
    (hv : ∀ w, (do eqGuard op T (.tmp x) (.tmp y) vx vy; binOp op T vx vy : Sem Value).run P w = .ok r w) : MStep P ops Q D a0 W0 i :=
  mstep_pure ho hw fun a w c => by
    have h1 := c.pred kx x (by simpa using hkx) hx
    rw [hDx] at h1
    have h1 : a.tmps.getD x undef = vx := h1
    have h2 := c.pred ky y (by simpa using hky) hy
    rw [hDy] at h2
    have h2 : a.tmps.getD y undef = vy := h2
    refine ⟨r, ?_, by rw [hD]; rfl⟩
    have h3 := hv w
    simp only [execOp, hop, Act.eval, h1, h2]
    rw [Sem.run_bind, h3]
    rfl
theorem mstep_binc (ho : ops[i]? = some o) (hw : ∀ a w, MCtx ops D a0 W0 i a w → Region.wanted o (yielded ops a.tmps) = true) (op : BinOp) (T T' : TypeId) (x : Tmp) (vy : Value) (hop : o.op = .binOp op T (.tmp x) (.const vy) T')
    (kx : Nat) (hkx : (preds ops 3 i).contains kx = true) (hx : dstOf ops kx = some x) (vx r : Value) (hDx : D kx = .is vx) (hD : D i = .is r)
    (hv : ∀ w, (do eqGuard op T (.tmp x) (.const vy) vx vy; binOp op T vx vy : Sem Value).run P w = .ok r w) : MStep P ops Q D a0 W0 i :=
  mstep_pure ho hw fun a w c => by
    have h1 := c.pred kx x (by simpa using hkx) hx
    rw [hDx] at h1
    have h1 : a.tmps.getD x undef = vx := h1
    refine ⟨r, ?_, by rw [hD]; rfl⟩
    have h3 := hv w
    simp only [execOp, hop, Act.eval, h1]
    rw [Sem.run_bind, h3]
    rfl
/-- whatever reads one slot -/
theorem mstep_one (ho : ops[i]? = some o) (hw : ∀ a w, MCtx ops D a0 W0 i a w → Region.wanted o (yielded ops a.tmps) = true) (x : Tmp)
    (kx : Nat) (hkx : (preds ops 3 i).contains kx = true) (hx : dstOf ops kx = some x)
    (h : ∀ (a : Act) w, (D kx).ok (a.tmps.getD x undef) w → ∃ v, (execOp a.eval o).run P w = .ok (.value v) w ∧ (D i).ok v w) : MStep P ops Q D a0 W0 i :=
  mstep_pure ho hw fun a w c => h a w (c.pred kx x (by simpa using hkx) hx)
end
end Nac
/- A region that draws its order, with calls that write: of each operation what its slot holds, and of the world what holds while just some of the operations have been run. One proof an operation, whatever the order. Over whatever program. -/
namespace Nac
open Go Go.RowKit
def upd (L : Nat → Bool) (i : Nat) : Nat → Bool := fun k => if k = i then true else L k
section
variable {P : Program} {ops : Array Oper} {Q : Exit → Act → World → Prop} {D : Nat → Value → Prop} {J : (Nat → Bool) → World → Prop} {a0 : Act}
structure VCtx (ops : Array Oper) (D : Nat → Value → Prop) (J : (Nat → Bool) → World → Prop) (a0 : Act) (i : Nat) (L : Nat → Bool) (a : Act) (w : World) : Prop where
  world : J L w
  tsize : a.tmps.size = a0.tmps.size
  fresh : L i = false
  ahead : ∀ k, k ∈ preds ops 3 i → L k = true
  pred : ∀ k d, k ∈ preds ops 3 i → dstOf ops k = some d → D k (a.tmps.getD d undef)
  orig : ∀ t, origB ops i t = true → a.tmps.getD t undef = a0.tmps.getD t undef
def VStep (P : Program) (ops : Array Oper) (Q : Exit → Act → World → Prop) (D : Nat → Value → Prop) (J : (Nat → Bool) → World → Prop) (a0 : Act) (i : Nat) : Prop :=
  ∀ o, ops[i]? = some o → ∀ L a w, VCtx ops D J a0 i L a w →
    if Region.wanted o (yielded ops a.tmps) = true then o.wp P a w (fun a' w' => ∃ v, a' = a.put o.dst v ∧ D i v ∧ J (upd L i) w') Q else D i undef ∧ J (upd L i) w
structure VInv (ops : Array Oper) (D : Nat → Value → Prop) (J : (Nat → Bool) → World → Prop) (a0 : Act) (listed : Array Bool) (a : Act) (w : World) : Prop where
  size : listed.size = ops.size
  world : J (fun i => listed.getD i false) w
  defers : a.defers = a0.defers
  tsize : a.tmps.size = a0.tmps.size
  closed : ∀ i o, ops[i]? = some o → listed.getD i false = true → ∀ e ∈ o.after, Region.binds .any e = true → listed.getD e.on false = true
  done : ∀ i d, listed.getD i false = true → dstOf ops i = some d → D i (a.tmps.getD d undef)
  rest : ∀ t, (∀ i, listed.getD i false = true → dstOf ops i ≠ some t) → a.tmps.getD t undef = a0.tmps.getD t undef
theorem upd_listed (listed : Array Bool) (i : Nat) (h : i < listed.size) : (fun k => (listed.setIfInBounds i true).getD k false) = upd (fun k => listed.getD k false) i := by
  funext k
  rw [getD_setIf _ _ _ h]
  unfold upd
  by_cases e : i = k
  · rw [if_pos e, if_pos e.symm]
  · rw [if_neg e, if_neg (Ne.symm e)]
theorem val_put {listed : Array Bool} {a : Act} {w w' : World} {i : Nat} {o : Oper} (hI : VInv ops D J a0 listed a w) (hi : i < ops.size) (ho : ops[i]? = some o)
    (hd : distinctB ops a0.tmps.size = true) (hready : ∀ e ∈ o.after, Region.binds .any e = true → listed.getD e.on false = true) {v : Value} (hv : D i v) (hb : J (upd (fun k => listed.getD k false) i) w') : VInv ops D J a0 (listed.setIfInBounds i true) (a.put o.dst v) w' := by
  have hs : i < listed.size := by rw [hI.size]; exact hi
  have hdo : dstOf ops i = o.dst := by simp [dstOf, ho]
  have hdist : ∀ x y d, x < ops.size → y < ops.size → dstOf ops x = some d → (d < a0.tmps.size) ∧ (dstOf ops y = some d → x = y) := by
    intro x y d hx hy hxd
    unfold distinctB at hd
    rw [List.all_eq_true] at hd
    have h1 := hd x (by simpa using hx)
    rw [Bool.and_eq_true, List.all_eq_true] at h1
    obtain ⟨h1, h2⟩ := h1
    have h2 := h2 y (by simpa using hy)
    rw [hxd] at h1 h2
    refine ⟨by simpa using h1, fun hyd => ?_⟩
    rw [hyd] at h2
    simpa using h2
  have hin : ∀ k d, dstOf ops k = some d → k < ops.size := by
    intro k d hk
    rcases Nat.lt_or_ge k ops.size with h | h
    · exact h
    · simp [dstOf, Array.getElem?_eq_none h] at hk
  have hput : ∀ t, (a.put o.dst v).tmps.getD t undef = if o.dst = some t then v else a.tmps.getD t undef := by
    intro t
    cases hod : o.dst with
    | none => simp [Act.put]
    | some d =>
      have hlt := (hdist i i d hi hi (by rw [hdo, hod])).1
      simp only [Act.put]
      rw [getD_put _ _ _ _ (by rw [hI.tsize]; exact hlt)]
      simp
  refine ⟨by simpa using hI.size, by rw [upd_listed _ _ hs]; exact hb, ?_, ?_, ?_, ?_, ?_⟩
  · cases o.dst <;> simpa [Act.put] using hI.defers
  · cases o.dst <;> simpa [Act.put] using hI.tsize
  · intro j oj hj hl e he hbind
    rw [getD_setIf _ _ _ hs] at hl ⊢
    by_cases hx : i = e.on
    · simp [hx]
    · rw [if_neg hx]
      by_cases hij : i = j
      · subst hij
        rw [ho] at hj
        obtain rfl := Option.some.inj hj
        exact hready e he hbind
      · rw [if_neg hij] at hl
        exact hI.closed j oj hj hl e he hbind
  · intro j d hl hjd
    rw [getD_setIf _ _ _ hs] at hl
    rw [hput]
    by_cases hij : i = j
    · subst hij
      rw [hdo] at hjd
      rw [if_pos hjd]
      exact hv
    · rw [if_neg hij] at hl
      rw [if_neg (fun h => hij ((hdist i j d hi (hin j d hjd) (by rw [hdo]; exact h)).2 hjd))]
      exact hI.done j d hl hjd
  · intro t ht
    have h1 : o.dst ≠ some t := by
      have := ht i (by rw [getD_setIf _ _ _ hs]; simp)
      rwa [hdo] at this
    rw [hput, if_neg h1]
    refine hI.rest t fun j hl => ht j ?_
    rw [getD_setIf _ _ _ hs]
    split
    · rfl
    · exact hl
theorem val_any (hd : distinctB ops a0.tmps.size = true) (hbk : backB ops = true)
    (step : ∀ i, i < ops.size → VStep P ops Q D J a0 i)
    (fin : ∀ L a w, (∀ i, i < ops.size → L i = true) → J L w → a.defers = a0.defers → a.tmps.size = a0.tmps.size → (∀ i d, dstOf ops i = some d → D i (a.tmps.getD d undef)) → (∀ t, (∀ i, dstOf ops i ≠ some t) → a.tmps.getD t undef = a0.tmps.getD t undef) → Q .normal a w) :
    ∀ (fuel : Nat) (listed : Array Bool) (a : Act) (w : World), falses listed ≤ fuel → VInv ops D J a0 listed a w → wpAny P .any ops Q fuel listed a w := by
  have hfin : ∀ (listed : Array Bool) (a : Act) (w : World), (∀ i, i < ops.size → listed.getD i false = true) → VInv ops D J a0 listed a w → Q .normal a w := by
    intro listed a w hall hI
    refine fin _ a w hall hI.world hI.defers hI.tsize (fun i d h => hI.done i d (hall i ?_) h) (fun t ht => hI.rest t fun i _ => ht i)
    rcases Nat.lt_or_ge i ops.size with h' | h'
    · exact h'
    · simp [dstOf, Array.getElem?_eq_none h'] at h
  have hnil : ∀ (listed : Array Bool), listed.size = ops.size → Region.ready .any ops listed = [] → ∀ i, i < ops.size → listed.getD i false = true := by
    intro listed hs hr i hi
    cases hf : listed.getD i false
    · exact absurd hr (ready_ex hbk hs i hi hf)
    · rfl
  intro fuel
  induction fuel with
  | zero =>
    intro listed a w hf hI
    have hall : ∀ i, i < ops.size → listed.getD i false = true := fun i hi => falses_zero listed (by omega) i (by rw [hI.size]; exact hi)
    refine ⟨?_, hfin listed a w hall hI⟩
    apply List.eq_nil_iff_forall_not_mem.2
    intro i hi
    obtain ⟨h1, h2, _⟩ := ready_of hi hI.size
    rw [hall i h1] at h2
    cases h2
  | succ fuel ih =>
    intro listed a w hf hI
    refine ⟨fun hr => hfin listed a w (hnil listed hI.size hr) hI, fun i hi => ?_⟩
    obtain ⟨h1, h2, o, ho, hready⟩ := ready_of hi hI.size
    have hctx : VCtx ops D J a0 i (fun k => listed.getD k false) a w := by
      have hpc := preds_closed hI.closed 3 i (fun o' ho' => by rw [ho] at ho'; obtain rfl := Option.some.inj ho'; exact hready)
      refine ⟨hI.world, hI.tsize, h2, hpc, fun k d hk hkd => hI.done k d (hpc k hk) hkd, fun t ht => hI.rest t fun k hl hkd => ?_⟩
      unfold origB at ht
      rw [List.all_eq_true] at ht
      have hk : k < ops.size := by
        rcases Nat.lt_or_ge k ops.size with h | h
        · exact h
        · simp [dstOf, Array.getElem?_eq_none h] at hkd
      have h3 := ht k (by simpa using hk)
      rw [hkd] at h3
      simp only [bne_self_eq_false, Bool.false_or, List.contains_iff_mem] at h3
      have := preds_closed hI.closed 3 k (fun o' ho' e he hb' => hI.closed k o' ho' hl e he hb') i h3
      rw [h2] at this
      cases this
    have hs := step i h1 o ho _ a w hctx
    have hfl : falses (listed.setIfInBounds i true) ≤ fuel := by
      have := falses_set listed i (by rw [hI.size]; exact h1) h2
      omega
    unfold wpOp
    rw [ho]
    simp only
    split
    · rename_i hw
      rw [if_pos hw] at hs
      refine Or.inl (Oper.wp_mono ?_ hs)
      rintro a' w' ⟨v, rfl, hv, hb⟩
      exact ih _ _ _ hfl (val_put hI h1 ho hd hready hv hb)
    · rename_i hw
      rw [if_neg hw] at hs
      exact ih _ _ _ hfl (val_put hI h1 ho hd hready hs.1 hs.2)
/-- THE LAW -/
theorem region_val {id : Nat} {a0 : Act} {w0 : World} (D : Nat → Value → Prop) (J : (Nat → Bool) → World → Prop) (hm : P.follows .mixedOrders = true) (hd : distinctB ops a0.tmps.size = true) (hbk : backB ops = true)
    (h0 : J (fun _ => false) w0.drew)
    (step : ∀ i, i < ops.size → VStep P ops Q D J a0 i)
    (fin : ∀ L a w, (∀ i, i < ops.size → L i = true) → J L w → a.defers = a0.defers → a.tmps.size = a0.tmps.size → (∀ i d, dstOf ops i = some d → D i (a.tmps.getD d undef)) → (∀ t, (∀ i, dstOf ops i ≠ some t) → a.tmps.getD t undef = a0.tmps.getD t undef) → Q .normal a w) :
    (Code.region id ops true).wp P Q a0 w0 := by
  refine wp_region_any hm ?_
  have hg : ∀ i, (Array.replicate ops.size false).getD i false = false := by
    intro i
    rw [Array.getD_eq_getD_getElem?, Array.getElem?_replicate]
    split <;> rfl
  refine val_any (D := D) (J := J) (a0 := a0) hd hbk step fin _ _ _ _ ?_ ⟨by simp, ?_, rfl, rfl, fun i o _ h => (by rw [hg] at h; cases h), fun i d h => (by rw [hg] at h; cases h), fun _ _ => rfl⟩
  · unfold falses
    simp
  · rw [show (fun i => (Array.replicate ops.size false).getD i false) = fun _ => false from funext hg]
    exact h0
/-- the frame behind such a region, where each slot's value is known -/
def putsL : List (Option Tmp × Value) → Act → Act
  | [], a => a
  | (d, v) :: r, a => putsL r (a.put d v)
theorem put_size (a : Act) (d : Option Tmp) (v : Value) : (a.put d v).tmps.size = a.tmps.size := by cases d <;> simp [Act.put]
theorem put_defers (a : Act) (d : Option Tmp) (v : Value) : (a.put d v).defers = a.defers := by cases d <;> simp [Act.put]
theorem putsL_size : ∀ (l : List (Option Tmp × Value)) (a : Act), (putsL l a).tmps.size = a.tmps.size
  | [], _ => rfl
  | (d, v) :: r, a => by rw [putsL, putsL_size r, put_size]
theorem putsL_defers : ∀ (l : List (Option Tmp × Value)) (a : Act), (putsL l a).defers = a.defers
  | [], _ => rfl
  | (d, v) :: r, a => by rw [putsL, putsL_defers r, put_defers]
theorem putsL_get (t : Nat) (u : Value) : ∀ (l : List (Option Tmp × Value)) (a : Act), t < a.tmps.size → (∀ x ∈ l, x.1 = some t → u = x.2) → ((∀ x ∈ l, x.1 ≠ some t) → a.tmps.getD t undef = u) → (putsL l a).tmps.getD t undef = u
  | [], a, _, _, h => h (fun x hx => by cases hx)
  | (d, v) :: r, a, ht, hl, h => by
    rw [putsL]
    refine putsL_get t u r (a.put d v) (by rw [put_size]; exact ht) (fun x hx => hl x (List.mem_cons_of_mem _ hx)) fun hr => ?_
    by_cases hd : d = some t
    · subst hd
      simp only [Act.put]
      rw [getD_put _ _ _ _ ht, if_pos rfl]
      exact (hl _ List.mem_cons_self rfl).symm
    · have e : (a.put d v).tmps.getD t undef = a.tmps.getD t undef := by
        cases d with
        | none => rfl
        | some d' =>
          simp only [Act.put]
          by_cases hlt : d' < a.tmps.size
          · rw [getD_put _ _ _ _ hlt, if_neg (fun e => hd (by rw [e]))]
          · rw [Array.setIfInBounds_eq_of_size_le (Nat.le_of_not_lt hlt)]
      rw [e]
      refine h fun x hx => ?_
      rcases List.mem_cons.1 hx with rfl | hx
      · exact hd
      · exact hr x hx
theorem putsL_eq {a : Act} {l : List (Option Tmp × Value)} (hde : a.defers = a0.defers) (hts : a.tmps.size = a0.tmps.size)
    (hd : ∀ x ∈ l, ∀ t, x.1 = some t → a.tmps.getD t undef = x.2) (hr : ∀ t, (∀ x ∈ l, x.1 ≠ some t) → a.tmps.getD t undef = a0.tmps.getD t undef) : a = putsL l a0 := by
  obtain ⟨tm, df⟩ := a
  have h1 := putsL_size l a0
  have h2 := putsL_defers l a0
  have h3 : ∀ t, t < a0.tmps.size → (putsL l a0).tmps.getD t undef = tm.getD t undef := fun t ht => putsL_get t _ l a0 ht (fun x hx e => hd x hx t e) (fun h => (hr t h).symm)
  obtain ⟨p, hp⟩ : ∃ p, p = putsL l a0 := ⟨_, rfl⟩
  rw [← hp] at h1 h2 h3 ⊢
  clear hp
  obtain ⟨tm', df'⟩ := p
  simp only at h1 h2 h3 hde hts
  subst hde
  subst h2
  congr 1
  apply Array.ext (by omega)
  intro i g1 g2
  have := h3 i (by omega)
  rw [Array.getD_eq_getD_getElem?, Array.getD_eq_getD_getElem?, Array.getElem?_eq_getElem g1, Array.getElem?_eq_getElem g2] at this
  exact this.symm
/-- THE LAW, where each operation's value is known -/
theorem region_vals {id : Nat} {a0 : Act} {w0 : World} (V : List Value) (ds : List (Option Tmp)) (J : (Nat → Bool) → World → Prop) (hm : P.follows .mixedOrders = true) (hd : distinctB ops a0.tmps.size = true) (hbk : backB ops = true)
    (hds : ops.toList.map (·.dst) = ds) (hV : V.length = ds.length)
    (h0 : J (fun _ => false) w0.drew)
    (step : ∀ i, i < ops.size → VStep P ops Q (fun i v => v = V.getD i undef) J a0 i)
    (fin : ∀ L w, (∀ i, i < ops.size → L i = true) → J L w → Q .normal (putsL (ds.zip V) a0) w) :
    (Code.region id ops true).wp P Q a0 w0 := by
  refine region_val (fun i v => v = V.getD i undef) J hm hd hbk h0 step fun L a w hall hJ hde hts hs hr => ?_
  have hdi : ∀ i, i < ops.size → dstOf ops i = (ds[i]?).join := by
    intro i hi
    rw [← hds, List.getElem?_map, Array.getElem?_toList]
    unfold dstOf
    cases ops[i]? <;> rfl
  have hsz : ops.size = ds.length := by rw [← hds]; simp
  have e := putsL_eq (a0 := a0) (a := a) (l := ds.zip V) hde hts ?_ ?_
  · rw [e]
    exact fin L w hall hJ
  · intro x hx t ht
    obtain ⟨i, hi⟩ := List.mem_iff_getElem?.1 hx
    obtain ⟨h1, h2⟩ := List.getElem?_zip_eq_some.1 hi
    have hil : i < ops.size := by rw [hsz]; exact (List.getElem?_eq_some_iff.1 h1).1
    have := hs i t (by rw [hdi i hil, h1]; exact ht)
    rw [this, List.getD_eq_getElem?_getD, h2]
    rfl
  · intro t ht
    refine hr t fun i hdt => ?_
    have hil : i < ops.size := by
      rcases Nat.lt_or_ge i ops.size with h | h
      · exact h
      · simp [dstOf, Array.getElem?_eq_none h] at hdt
    rw [hdi i hil] at hdt
    have h1 : i < ds.length := by omega
    have h2 : i < V.length := by omega
    rw [List.getElem?_eq_getElem h1] at hdt
    exact ht (ds[i], V[i]) (List.mem_iff_getElem?.2 ⟨i, List.getElem?_zip_eq_some.2 ⟨List.getElem?_eq_getElem h1, List.getElem?_eq_getElem h2⟩⟩) hdt
theorem VCtx.slot {i : Nat} {L : Nat → Bool} {a : Act} {w : World} (c : VCtx ops D J a0 i L a w) (k x : Nat) (hk : (preds ops 3 i).contains k = true) (hx : dstOf ops k = some x) : D k (a.tmps.getD x undef) :=
  c.pred k x (by simpa using hk) hx
/-! ### one operation -/
variable {i : Nat} {o : Oper}
theorem vwant_none (hg : o.guard = none) : ∀ L a w, VCtx ops D J a0 i L a w → Region.wanted o (yielded ops a.tmps) = true := fun _ _ _ _ => by simp [Region.wanted, hg]
theorem vwant (j : Nat) (want : Bool) (d : Tmp) (hg : o.guard = some (j, want)) (hj : (preds ops 3 i).contains j = true) (hdj : dstOf ops j = some d) (hD : ∀ v, D j v → v = .bool want) (hlt : decide (d < a0.tmps.size) = true) :
    ∀ L a w, VCtx ops D J a0 i L a w → Region.wanted o (yielded ops a.tmps) = true := fun L a w c => by
  have hsz := c.tsize
  have h := hD _ (c.pred j d (by simpa using hj) hdj)
  have hlt : d < a.tmps.size := by rw [hsz]; simpa using hlt
  have hy : yielded ops a.tmps j = some want := by
    unfold yielded
    have hdj' : (ops[j]?).bind (·.dst) = some d := hdj
    rw [hdj']
    rw [Array.getD_eq_getD_getElem?, Array.getElem?_eq_getElem hlt] at h
    simp only [Option.getD_some] at h
    simp [Array.getElem?_eq_getElem hlt, h]
  simp [Region.wanted, hg, hy]
/-- the guard says no -/
theorem vstep_unwanted (ho : ops[i]? = some o) (j : Nat) (want : Bool) (d : Tmp) (hg : o.guard = some (j, want)) (hj : (preds ops 3 i).contains j = true) (hdj : dstOf ops j = some d) (hD : ∀ v, D j v → v = .bool (!want) ∨ v = undef) (hlt : decide (d < a0.tmps.size) = true)
    (hu : D i undef) (hJ : ∀ L w, J L w → J (upd L i) w) : VStep P ops Q D J a0 i := by
  intro o' ho' L a w c
  rw [ho] at ho'
  obtain rfl := Option.some.inj ho'
  have hsz := c.tsize
  have h := hD _ (c.pred j d (by simpa using hj) hdj)
  have hlt : d < a.tmps.size := by rw [hsz]; simpa using hlt
  have hy : Region.wanted o (yielded ops a.tmps) = false := by
    have hy : yielded ops a.tmps j = some (!want) ∨ yielded ops a.tmps j = none := by
      unfold yielded
      have hdj' : (ops[j]?).bind (·.dst) = some d := hdj
      rw [hdj']
      rw [Array.getD_eq_getD_getElem?, Array.getElem?_eq_getElem hlt] at h
      simp only [Option.getD_some] at h
      rcases h with h | h
      · left; simp [Array.getElem?_eq_getElem hlt, h]
      · right; simp [Array.getElem?_eq_getElem hlt, h, undef]
    rcases hy with hy | hy
    · cases want <;> simp [Region.wanted, hg, hy]
    · simp [Region.wanted, hg, hy]
  rw [if_neg (by rw [hy]; simp)]
  exact ⟨hu, hJ _ _ c.world⟩
/-- one that leaves the world as it is -/
theorem vstep_pure (ho : ops[i]? = some o) (hw : ∀ L a w, VCtx ops D J a0 i L a w → Region.wanted o (yielded ops a.tmps) = true) (hJ : ∀ L w, J L w → J (upd L i) w)
    (h : ∀ L a w, VCtx ops D J a0 i L a w → ∃ v, (execOp a.eval o).run P w = .ok (.value v) w ∧ D i v) : VStep P ops Q D J a0 i := by
  intro o' ho' L a w c
  rw [ho] at ho'
  obtain rfl := Option.some.inj ho'
  rw [if_pos (hw L a w c)]
  obtain ⟨v, hr, hv⟩ := h L a w c
  unfold Oper.wp
  rw [hr]
  exact ⟨v, rfl, hv, hJ _ _ c.world⟩
theorem vstep_copy (ho : ops[i]? = some o) (hw : ∀ L a w, VCtx ops D J a0 i L a w → Region.wanted o (yielded ops a.tmps) = true) (hJ : ∀ L w, J L w → J (upd L i) w) (t : Tmp) (hop : o.op = .move (.tmp t) ∨ o.op = .assign (.tmp t))
    (k : Nat) (hk : (preds ops 3 i).contains k = true) (hkd : dstOf ops k = some t) (hD : ∀ v, D k v → D i v) : VStep P ops Q D J a0 i :=
  vstep_pure ho hw hJ fun L a w c => ⟨a.tmps.getD t undef, by rcases hop with h | h <;> simp [execOp, h, Act.eval], hD _ (c.pred k t (by simpa using hk) hkd)⟩
theorem vstep_first (ho : ops[i]? = some o) (hw : ∀ L a w, VCtx ops D J a0 i L a w → Region.wanted o (yielded ops a.tmps) = true) (hJ : ∀ L w, J L w → J (upd L i) w) (t : Tmp) (hop : o.op = .move (.tmp t) ∨ o.op = .assign (.tmp t))
    (ht : origB ops i t = true) (hD : D i (a0.tmps.getD t undef)) : VStep P ops Q D J a0 i :=
  vstep_pure ho hw hJ fun L a w c => ⟨a.tmps.getD t undef, by rcases hop with h | h <;> simp [execOp, h, Act.eval], by rw [c.orig t ht]; exact hD⟩
theorem vstep_const (ho : ops[i]? = some o) (hw : ∀ L a w, VCtx ops D J a0 i L a w → Region.wanted o (yielded ops a.tmps) = true) (hJ : ∀ L w, J L w → J (upd L i) w) (v : Value) (hop : o.op = .move (.const v) ∨ o.op = .assign (.const v)) (hD : D i v) : VStep P ops Q D J a0 i :=
  vstep_pure ho hw hJ fun L a w _ => ⟨v, by rcases hop with h | h <;> simp [execOp, h, Act.eval], hD⟩
/-- whatever reads one slot that an operation ahead of it has written -/
theorem vstep_one (ho : ops[i]? = some o) (hw : ∀ L a w, VCtx ops D J a0 i L a w → Region.wanted o (yielded ops a.tmps) = true) (hJ : ∀ L w, J L w → J (upd L i) w) (x : Tmp)
    (kx : Nat) (hkx : (preds ops 3 i).contains kx = true) (hx : dstOf ops kx = some x)
    (h : ∀ L (a : Act) w, J L w → D kx (a.tmps.getD x undef) → ∃ v, (execOp a.eval o).run P w = .ok (.value v) w ∧ D i v) : VStep P ops Q D J a0 i :=
  vstep_pure ho hw hJ fun L a w c => h L a w c.world (c.pred kx x (by simpa using hkx) hx)
/-- whatever reads two -/
theorem vstep_two (ho : ops[i]? = some o) (hw : ∀ L a w, VCtx ops D J a0 i L a w → Region.wanted o (yielded ops a.tmps) = true) (hJ : ∀ L w, J L w → J (upd L i) w) (x y : Tmp)
    (kx ky : Nat) (hkx : (preds ops 3 i).contains kx = true) (hky : (preds ops 3 i).contains ky = true) (hx : dstOf ops kx = some x) (hy : dstOf ops ky = some y)
    (h : ∀ L (a : Act) w, J L w → D kx (a.tmps.getD x undef) → D ky (a.tmps.getD y undef) → ∃ v, (execOp a.eval o).run P w = .ok (.value v) w ∧ D i v) : VStep P ops Q D J a0 i :=
  vstep_pure ho hw hJ fun L a w c => h L a w c.world (c.pred kx x (by simpa using hkx) hx) (c.pred ky y (by simpa using hky) hy)
theorem vstep_field (ho : ops[i]? = some o) (hw : ∀ L a w, VCtx ops D J a0 i L a w → Region.wanted o (yielded ops a.tmps) = true) (hJ : ∀ L w, J L w → J (upd L i) w) (x : Tmp) (s : TypeId) (f : Nat) (hop : o.op = .fieldAddr s (.tmp x) f)
    (kx : Nat) (hkx : (preds ops 3 i).contains kx = true) (hx : dstOf ops kx = some x) (v r : Value) (hDx : ∀ u, D kx u → u = v) (hD : D i r) (hr : ∀ w, (Instr.fieldAt s v f).run P w = .ok r w) : VStep P ops Q D J a0 i :=
  vstep_one ho hw hJ x kx hkx hx fun L a w _ h => by
    have h := hDx _ h
    refine ⟨r, ?_, hD⟩
    simp only [execOp, hop, Act.eval, h]
    rw [Sem.run_bind, hr w]
    rfl
theorem vstep_load (ho : ops[i]? = some o) (hw : ∀ L a w, VCtx ops D J a0 i L a w → Region.wanted o (yielded ops a.tmps) = true) (hJ : ∀ L w, J L w → J (upd L i) w) (x : Tmp) (ty : TypeId) (hop : o.op = .load ty (.tmp x))
    (kx : Nat) (hkx : (preds ops 3 i).contains kx = true) (hx : dstOf ops kx = some x) (p r : Value) (hDx : ∀ u, D kx u → u = p) (hD : D i r) (hr : ∀ L w, J L w → (Instr.loadAt ty p).run P w = .ok r w) : VStep P ops Q D J a0 i :=
  vstep_one ho hw hJ x kx hkx hx fun L a w hj h => by
    have h := hDx _ h
    refine ⟨r, ?_, hD⟩
    simp only [execOp, hop, Act.eval, h]
    rw [Sem.run_bind, hr L w hj]
    rfl
theorem vstep_call (ho : ops[i]? = some o) (hw : ∀ L a w, VCtx ops D J a0 i L a w → Region.wanted o (yielded ops a.tmps) = true) (f : FuncId) (args : Array Operand) (ts : Array TypeId)
    (hop : o.op = .call { callee := .value (.func f), args := args, argTypes := ts }) (he : ∀ vs w, (callFunc f vs).run P w = .ok (.enter f vs) w)
    (h : ∀ L a w, VCtx ops D J a0 i L a w → Calls P f (args.map a.eval) w fun e w' => ∃ v, e = .returned v ∧ D i v ∧ J (upd L i) w') : VStep P ops Q D J a0 i := by
  intro o' ho' L a w c
  rw [ho] at ho'
  obtain rfl := Option.some.inj ho'
  rw [if_pos (hw L a w c)]
  have hr : (execOp a.eval o).run P w = .ok (.enter f (args.map a.eval)) w := by
    simp [execOp, hop, resolve, Deferred.ofValue, Act.eval, invoke, he]
  unfold Oper.wp
  rw [hr]
  refine (h L a w c).mono ?_
  rintro e w' ⟨v, rfl, hv, hb⟩
  exact ⟨v, rfl, hv, hb⟩
theorem vstep_call3 (ho : ops[i]? = some o) (hw : ∀ L a w, VCtx ops D J a0 i L a w → Region.wanted o (yielded ops a.tmps) = true) (f : FuncId) (x y z : Tmp) (ts : Array TypeId)
    (hop : o.op = .call { callee := .value (.func f), args := #[.tmp x, .tmp y, .tmp z], argTypes := ts }) (he : ∀ vs w, (callFunc f vs).run P w = .ok (.enter f vs) w)
    (kx ky kz : Nat) (hkx : (preds ops 3 i).contains kx = true) (hky : (preds ops 3 i).contains ky = true) (hkz : (preds ops 3 i).contains kz = true) (hx : dstOf ops kx = some x) (hy : dstOf ops ky = some y) (hz : dstOf ops kz = some z)
    (h : ∀ L u v t w, J L w → L i = false → (∀ k, k ∈ preds ops 3 i → L k = true) → D kx u → D ky v → D kz t → Calls P f #[u, v, t] w fun e w' => ∃ v, e = .returned v ∧ D i v ∧ J (upd L i) w') : VStep P ops Q D J a0 i :=
  vstep_call ho hw f #[.tmp x, .tmp y, .tmp z] ts hop he fun L a w c => by
    have e : (#[Operand.tmp x, Operand.tmp y, Operand.tmp z]).map a.eval = #[a.tmps.getD x undef, a.tmps.getD y undef, a.tmps.getD z undef] := by simp [Act.eval]
    rw [e]
    exact h L _ _ _ w c.world c.fresh c.ahead (c.pred kx x (by simpa using hkx) hx) (c.pred ky y (by simpa using hky) hy) (c.pred kz z (by simpa using hkz) hz)
theorem vstep_index (ho : ops[i]? = some o) (hw : ∀ L a w, VCtx ops D J a0 i L a w → Region.wanted o (yielded ops a.tmps) = true) (hJ : ∀ L w, J L w → J (upd L i) w) (x y : Tmp) (t : TypeId) (hop : o.op = .indexAddr t (.tmp x) (.tmp y))
    (kx ky : Nat) (hkx : (preds ops 3 i).contains kx = true) (hky : (preds ops 3 i).contains ky = true) (hx : dstOf ops kx = some x) (hy : dstOf ops ky = some y)
    (vx vy r : Value) (hDx : ∀ u, D kx u → u = vx) (hDy : ∀ u, D ky u → u = vy) (hD : D i r) (hr : ∀ w, (Instr.indexAt t vx vy).run P w = .ok r w) : VStep P ops Q D J a0 i :=
  vstep_two ho hw hJ x y kx ky hkx hky hx hy fun L a w _ h1 h2 => by
    have h1 := hDx _ h1
    have h2 := hDy _ h2
    refine ⟨r, ?_, hD⟩
    simp only [execOp, hop, Act.eval, h1, h2]
    rw [Sem.run_bind, hr w]
    rfl
theorem vstep_bin (ho : ops[i]? = some o) (hw : ∀ L a w, VCtx ops D J a0 i L a w → Region.wanted o (yielded ops a.tmps) = true) (hJ : ∀ L w, J L w → J (upd L i) w) (op : BinOp) (T T' : TypeId) (x y : Tmp) (hop : o.op = .binOp op T (.tmp x) (.tmp y) T')
    (kx ky : Nat) (hkx : (preds ops 3 i).contains kx = true) (hky : (preds ops 3 i).contains ky = true) (hx : dstOf ops kx = some x) (hy : dstOf ops ky = some y) (vx vy r : Value) (hDx : ∀ u, D kx u → u = vx) (hDy : ∀ u, D ky u → u = vy) (hD : D i r)
    (hv : ∀ w, (do eqGuard op T (.tmp x) (.tmp y) vx vy; binOp op T vx vy : Sem Value).run P w = .ok r w) : VStep P ops Q D J a0 i :=
  vstep_two ho hw hJ x y kx ky hkx hky hx hy fun L a w _ h1 h2 => by
    have h1 := hDx _ h1
    have h2 := hDy _ h2
    refine ⟨r, ?_, hD⟩
    have h3 := hv w
    simp only [execOp, hop, Act.eval, h1, h2]
    rw [Sem.run_bind, h3]
    rfl
theorem vstep_binc (ho : ops[i]? = some o) (hw : ∀ L a w, VCtx ops D J a0 i L a w → Region.wanted o (yielded ops a.tmps) = true) (hJ : ∀ L w, J L w → J (upd L i) w) (op : BinOp) (T T' : TypeId) (x : Tmp) (vy : Value) (hop : o.op = .binOp op T (.tmp x) (.const vy) T')
    (kx : Nat) (hkx : (preds ops 3 i).contains kx = true) (hx : dstOf ops kx = some x) (vx r : Value) (hDx : ∀ u, D kx u → u = vx) (hD : D i r)
    (hv : ∀ w, (do eqGuard op T (.tmp x) (.const vy) vx vy; binOp op T vx vy : Sem Value).run P w = .ok r w) : VStep P ops Q D J a0 i :=
  vstep_one ho hw hJ x kx hkx hx fun L a w _ h1 => by
    have h1 := hDx _ h1
    refine ⟨r, ?_, hD⟩
    have h3 := hv w
    simp only [execOp, hop, Act.eval, h1]
    rw [Sem.run_bind, h3]
    rfl
end
end Nac
