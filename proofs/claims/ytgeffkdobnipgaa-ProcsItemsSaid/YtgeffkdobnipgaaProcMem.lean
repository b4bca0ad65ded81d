/- A set of processes in memory: three rows, and two of each resource. -/
import Derived.Test.YtgeffkdobnipgaaProcPlain
import Derived.Test.YtgeffkdobnipgaaRow
import Derived.Test.YtgeffkdobnipgaaOwnI
namespace Go.Proofs.Ytgeffkdobnipgaa
open Go.RowKit Nac Nac.Procs
def ocells (o : Out) : List Value := [.int .i64 o.code, .int .i64 o.value, .bool o.waits]
def pcells (x : Prc) : List Value := [.int .i64 x.pr, .int .i64 x.st, .int .i64 x.last.code, .int .i64 x.last.value, .bool x.last.waits, .int .i64 x.res, .int .i64 x.left, .int .i64 x.item]
def rcells (x : Rsc) (Aq : Option Addr) (cq : Nat) (Ai : Option Addr) (ci : Nat) : List Value := [.int .i64 x.kind, .int .i64 x.count, .int .i64 x.most, .slice Aq x.q.length cq, .slice Ai x.items.length ci]
/-- row 0: the processes; 1: the resources; 2: who is ready; then each resource's queue and items -/
def rrows (rs : List Rsc) (A : Nat → Option Addr) (c : Nat → Nat) : List (List Value) := (List.range rs.length).map fun i => rcells (rs.getD i default) (A (3 + 2 * i)) (c (3 + 2 * i)) (A (4 + 2 * i)) (c (4 + 2 * i))
def nums (l : List Nat) : List Value := l.map fun (p : Nat) => Value.int .i64 (p : Int)
structure SetM (w : World) (S : Nat) (P : PSet) (A : Nat → Option Addr) (c : Nat → Nat) : Prop where
  blk : Blk w S [.slice (A 0) P.ps.length (c 0), .slice (A 1) P.rs.length (c 1), .slice (A 2) P.ready.length (c 2)]
  po : Row w 54 8 (A 0) (c 0) P.ps.length (P.ps.map pcells).flatten
  ro : Row w 58 5 (A 1) (c 1) P.rs.length (rrows P.rs A c).flatten
  rd : Row w 3 1 (A 2) (c 2) P.ready.length (nums P.ready)
  qo : ∀ i, i < P.rs.length → Row w 3 1 (A (3 + 2 * i)) (c (3 + 2 * i)) (P.rsc i).q.length (nums (P.rsc i).q)
  io : ∀ i, i < P.rs.length → Row w 2 1 (A (4 + 2 * i)) (c (4 + 2 * i)) (P.rsc i).items.length ((P.rsc i).items.map (Value.int .i64))
  ap : ∀ j k g, j ≠ k → (A j).map (·.block) = some g → (A k).map (·.block) ≠ some g
  aps : ∀ j, (A j).map (·.block) ≠ some S
  far : ∀ j, 3 + 2 * P.rs.length ≤ j → A j = none
/-- the set's own blocks -/
def Foot (S : Nat) (A : Nat → Option Addr) (k : Nat) : Prop := k = S ∨ ∃ j, (A j).map (·.block) = some k
/-- all stays but the set's own blocks, and its blocks are those that were, or new -/
structure FrS (S : Nat) (A : Nat → Option Addr) (w : World) (A' : Nat → Option Addr) (w' : World) : Prop where
  os : w'.os = w.os
  tape : w'.tape = w.tape
  output : w'.output = w.output
  size : w.heap.size ≤ w'.heap.size
  block : ∀ k, k < w.heap.size → ¬ Foot S A k → w'.heap[k]? = w.heap[k]?
  foot : ∀ k, Foot S A' k → Foot S A k ∨ w.heap.size ≤ k
  p0 : A' 0 = A 0
  p1 : A' 1 = A 1
section
variable {w w' w2 : World} {S : Nat} {P : PSet} {A A' A2 : Nat → Option Addr} {c c' : Nat → Nat}
theorem FrS.refl (S : Nat) (A : Nat → Option Addr) (w : World) : FrS S A w A w := ⟨rfl, rfl, rfl, Nat.le_refl _, fun _ _ _ => rfl, fun _ h => .inl h, rfl, rfl⟩
theorem FrS.trans (h : FrS S A w A' w') (h2 : FrS S A' w' A2 w2) : FrS S A w A2 w2 :=
  ⟨h2.os.trans h.os, h2.tape.trans h.tape, h2.output.trans h.output, Nat.le_trans h.size h2.size, fun k hk hf => by
    rw [h2.block k (Nat.lt_of_lt_of_le hk h.size) (fun hf' => ?_)]
    · exact h.block k hk hf
    · rcases h.foot k hf' with h3 | h3
      · exact hf h3
      · omega, fun k hk => by
    rcases h2.foot k hk with h3 | h3
    · exact h.foot k h3
    · exact .inr (Nat.le_trans h.size h3), h2.p0.trans h.p0, h2.p1.trans h.p1⟩
theorem FrS.below (h : Below w.heap.size w w') : FrS S A w A w' := ⟨h.os, h.tape, h.output, h.size, fun k hk _ => h.block k hk, fun _ h => .inl h, rfl, rfl⟩
theorem FrS.grown {row : Option Nat} (h : w.grownBy w' row) (hr : ∀ k, row = some k → Foot S A k ∨ w.heap.size ≤ k) : FrS S A w A w' :=
  ⟨h.os, h.tape, h.output, h.size, fun k hk hf => h.block k hk fun e => by
    rcases hr k e.symm with h3 | h3
    · exact hf h3
    · omega, fun _ h => .inl h, rfl, rfl⟩
theorem FrS.blk {b : Nat} {cs : List Value} (h : FrS S A w A' w') (hb : Blk w b cs) (hf : ¬ Foot S A b) : Blk w' b cs := hb.keep (h.block b hb.lt hf)
theorem pcells_len (x : Prc) : (pcells x).length = 8 := rfl
theorem ps_len (P : PSet) : ∀ x ∈ P.ps.map pcells, x.length = 8 := fun x hx => by
  obtain ⟨y, _, rfl⟩ := List.mem_map.1 hx
  rfl
theorem rr_len (rs : List Rsc) (A : Nat → Option Addr) (c : Nat → Nat) : ∀ x ∈ rrows rs A c, x.length = 5 := fun x hx => by
  obtain ⟨y, _, rfl⟩ := List.mem_map.1 hx
  rfl
theorem SetM.drew (h : SetM w S P A c) : SetM w.drew S P A c := ⟨h.blk, h.po, h.ro, h.rd, h.qo, h.io, h.ap, h.aps, h.far⟩
theorem SetM.drewN (h : SetM w S P A c) (n : Nat) : SetM (w.drewN n) S P A c := ⟨h.blk, h.po, h.ro, h.rd, h.qo, h.io, h.ap, h.aps, h.far⟩
theorem SetM.keepF (h : SetM w S P A c) (hs : w.heap.size ≤ w'.heap.size) (hk : ∀ k, k < w.heap.size → Foot S A k → w'.heap[k]? = w.heap[k]?) : SetM w' S P A c := by
  have hR : ∀ (j : Nat) {e size n xs}, Row w e size (A j) (c j) n xs → Row w' e size (A j) (c j) n xs := by
    intro j e size n xs hr
    refine ⟨hr.1, ?_⟩
    rcases hr.2 with h1 | ⟨g, cap, cur, hv, hb, hg, rest⟩
    · exact .inl h1
    · refine .inr ⟨g, cap, cur, hv, hb, ?_, rest⟩
      injection hv with h1
      have hlt : g < w.heap.size := (Array.getElem?_eq_some_iff.1 hg).1
      rw [hk g hlt (.inr ⟨j, by rw [h1]; rfl⟩)]
      exact hg
  exact ⟨h.blk.keep (hk S h.blk.lt (.inl rfl)), hR 0 h.po, hR 1 h.ro, hR 2 h.rd, fun i hi => hR _ (h.qo i hi), fun i hi => hR _ (h.io i hi), h.ap, h.aps, h.far⟩
theorem SetM.below (h : SetM w S P A c) (hb : Below w.heap.size w w') : SetM w' S P A c := h.keepF hb.size fun k hk _ => hb.block k hk
/-- behind a change that touches none of the set's blocks -/
theorem SetM.apart (h : SetM w S P A c) {row : Option Nat} (hg : w.grownBy w' row) (hr : ∀ k, row = some k → ¬ Foot S A k) : SetM w' S P A c := h.keepF hg.size fun k hk hf => hg.block k hk fun e => hr k e.symm hf
/-! ### a process's cells -/
theorem SetM.pcell (h : SetM w S P A c) {p : Nat} (hp : p < P.ps.length) : ∃ g, A 0 = some ⟨g, 0, none⟩ ∧ g < w.heap.size ∧ (∀ k, w.frozen? ⟨g, k, none⟩ = false) ∧ ∀ f v, (pcells (P.proc p))[f]? = some v → w.cell? ⟨g, p * 8 + f, none⟩ = some v := by
  have hpl : p < (P.ps.map pcells).length := by simpa using hp
  obtain ⟨hj0, _⟩ := flat_get (ps_len P) (p := p) (f := 0) hpl (by decide)
  obtain ⟨g, hA, hg, _, hf⟩ := h.po.at hj0
  refine ⟨g, hA, hg, hf, fun f v hv => ?_⟩
  have hf8 : f < 8 := by
    have := (List.getElem?_eq_some_iff.1 hv).1
    simpa [pcells] using this
  obtain ⟨hj, he⟩ := flat_get (ps_len P) (p := p) (f := f) hpl hf8
  obtain ⟨g', hA', _, hc, _⟩ := h.po.at hj
  rw [hA] at hA'
  injection hA' with hA'
  injection hA' with hA'
  subst hA'
  rw [hc, he]
  have e : (P.ps.map pcells)[p] = pcells (P.proc p) := by simp [PSet.proc, List.getD, hp]
  have hf' : f < (pcells (P.proc p)).length := (List.getElem?_eq_some_iff.1 hv).1
  have : ((P.ps.map pcells)[p])[f]? = some v := by rw [e]; exact hv
  rw [List.getElem?_eq_getElem (by rw [e]; exact hf')] at this
  rw [Option.some.inj this]
theorem SetM.storeP (h : SetM w S P A c) {p f : Nat} (hp : p < P.ps.length) (hf : f < 8) (v : Value) (x : Prc) (hx : (pcells (P.proc p)).set f v = pcells x) {g : Nat} (hA : A 0 = some ⟨g, 0, none⟩) :
    SetM (w.setCell ⟨g, p * 8 + f, none⟩ v) S (P.setP p x) A c := by
  have hgA : (A 0).map (·.block) = some g := by rw [hA]; rfl
  have hne : ∀ j, j ≠ 0 → (A j).map (·.block) ≠ some g := fun j hj => h.ap 0 j g (fun e => hj e.symm) hgA
  have hSg : g ≠ S := fun e => h.aps 0 (by rw [hgA, e])
  have hl : (P.ps.set p x).length = P.ps.length := List.length_set ..
  refine ⟨?_, ?_, h.ro.other (hne 1 (by decide)) v, h.rd.other (hne 2 (by decide)) v, fun i hi => (h.qo i hi).other (hne _ (by omega)) v, fun i hi => (h.io i hi).other (hne _ (by omega)) v, h.ap, h.aps, h.far⟩
  · show Blk _ S [.slice (A 0) (P.ps.set p x).length (c 0), _, _]
    rw [hl]
    exact h.blk.grown (grown_setCell w ⟨g, p * 8 + f, none⟩ v) (fun e => by injection e with e; exact hSg e)
  · show Row _ _ 8 (A 0) (c 0) (P.ps.set p x).length ((P.ps.set p x).map pcells).flatten
    have hpl : p < (P.ps.map pcells).length := by simpa using hp
    have e : (P.ps.map pcells)[p] = pcells (P.proc p) := by simp [PSet.proc, List.getD, hp]
    have hpo := h.po
    rw [hA] at hpo ⊢
    have := hpo.set (p * 8 + f) v
    rw [flat_set (ps_len P) hpl hf v, e, hx] at this
    rw [hl, List.map_set]
    exact this
theorem SetM.footP (_ : SetM w S P A c) {g : Nat} (hA : A 0 = some ⟨g, 0, none⟩) : Foot S A g := .inr ⟨0, by rw [hA]; rfl⟩
/-! ### a resource's cells -/
theorem rr_get (rs : List Rsc) (A : Nat → Option Addr) (c : Nat → Nat) {r : Nat} (hr : r < (rrows rs A c).length) : (rrows rs A c)[r] = rcells (rs.getD r default) (A (3 + 2 * r)) (c (3 + 2 * r)) (A (4 + 2 * r)) (c (4 + 2 * r)) := by simp [rrows]
theorem SetM.rcell (h : SetM w S P A c) {r : Nat} (hr : r < P.rs.length) : ∃ g, A 1 = some ⟨g, 0, none⟩ ∧ g < w.heap.size ∧ (∀ k, w.frozen? ⟨g, k, none⟩ = false) ∧ ∀ f v, (rcells (P.rsc r) (A (3 + 2 * r)) (c (3 + 2 * r)) (A (4 + 2 * r)) (c (4 + 2 * r)))[f]? = some v → w.cell? ⟨g, r * 5 + f, none⟩ = some v := by
  have hrl : r < (rrows P.rs A c).length := by simpa [rrows] using hr
  obtain ⟨hj0, _⟩ := flat_get (rr_len P.rs A c) (p := r) (f := 0) hrl (by decide)
  obtain ⟨g, hA, hg, _, hf⟩ := h.ro.at hj0
  refine ⟨g, hA, hg, hf, fun f v hv => ?_⟩
  have hf8 : f < 5 := by
    have := (List.getElem?_eq_some_iff.1 hv).1
    simpa [rcells] using this
  obtain ⟨hj, he⟩ := flat_get (rr_len P.rs A c) (p := r) (f := f) hrl hf8
  obtain ⟨g', hA', _, hc, _⟩ := h.ro.at hj
  rw [hA] at hA'
  injection hA' with hA'
  injection hA' with hA'
  subst hA'
  rw [hc, he]
  have e := rr_get P.rs A c hrl
  have hf' : f < (rcells (P.rsc r) (A (3 + 2 * r)) (c (3 + 2 * r)) (A (4 + 2 * r)) (c (4 + 2 * r))).length := (List.getElem?_eq_some_iff.1 hv).1
  have : ((rrows P.rs A c)[r])[f]? = some v := by rw [e]; exact hv
  rw [List.getElem?_eq_getElem (by rw [e]; exact hf')] at this
  rw [Option.some.inj this]
theorem SetM.lt (h : SetM w S P A c) (j g : Nat) (hg : (A j).map (·.block) = some g) : g < w.heap.size := by
  rcases Nat.lt_or_ge j (3 + 2 * P.rs.length) with hj | hj
  · obtain ⟨i, hi⟩ : ∃ i, i = (j - 3) / 2 := ⟨_, rfl⟩
    rcases (by omega : j = 0 ∨ j = 1 ∨ j = 2 ∨ (j = 3 + 2 * i) ∨ (j = 4 + 2 * i)) with rfl | rfl | rfl | rfl | rfl
    · exact h.po.lt g hg
    · exact h.ro.lt g hg
    · exact h.rd.lt g hg
    · exact (h.qo i (by omega)).lt g hg
    · exact (h.io i (by omega)).lt g hg
  · rw [h.far j hj] at hg; cases hg
/-- a row put in another's place -/
def upA (A : Nat → Option Addr) (k : Nat) (x : Option Addr) : Nat → Option Addr := fun j => if j = k then x else A j
def upC (c : Nat → Nat) (k x : Nat) : Nat → Nat := fun j => if j = k then x else c j
theorem upA_same (A : Nat → Option Addr) (k : Nat) (x : Option Addr) : upA A k x k = x := if_pos rfl
theorem upA_ne (A : Nat → Option Addr) {k j : Nat} (x : Option Addr) (h : j ≠ k) : upA A k x j = A j := if_neg h
theorem upC_same (A : Nat → Nat) (k : Nat) (x : Nat) : upC A k x k = x := if_pos rfl
theorem upC_ne (A : Nat → Nat) {k j : Nat} (x : Nat) (h : j ≠ k) : upC A k x j = A j := if_neg h
/-- the new row's block: the old row's, or a new one -/
def NewB (w : World) (Ak A2 : Option Addr) : Prop := A2.map (·.block) = Ak.map (·.block) ∨ ∀ g, A2.map (·.block) = some g → w.heap.size ≤ g
theorem SetM.ap_up (h : SetM w S P A c) {k : Nat} {A2 : Option Addr} (hb : NewB w (A k) A2) : ∀ i j g, i ≠ j → (upA A k A2 i).map (·.block) = some g → (upA A k A2 j).map (·.block) ≠ some g := by
  intro i j g hij hi hj
  by_cases h1 : i = k
  · have h2 : j ≠ k := fun e => hij (h1.trans e.symm)
    rw [h1, upA_same] at hi
    rw [upA_ne A A2 h2] at hj
    rcases hb with e | e
    · rw [e] at hi; exact h.ap k j g (fun e => h2 e.symm) hi hj
    · have := e g hi; have := h.lt j g hj; omega
  · rw [upA_ne A A2 h1] at hi
    by_cases h2 : j = k
    · rw [h2, upA_same] at hj
      rcases hb with e | e
      · rw [e] at hj; exact h.ap i k g h1 hi hj
      · have := e g hj; have := h.lt i g hi; omega
    · rw [upA_ne A A2 h2] at hj
      exact h.ap i j g hij hi hj
theorem SetM.aps_up (h : SetM w S P A c) {k : Nat} {A2 : Option Addr} (hb : NewB w (A k) A2) : ∀ i, (upA A k A2 i).map (·.block) ≠ some S := by
  intro i hi
  by_cases h1 : i = k
  · rw [h1, upA_same] at hi
    rcases hb with e | e
    · rw [e] at hi; exact h.aps k hi
    · have := e S hi; have := h.blk.lt; omega
  · rw [upA_ne A A2 h1] at hi; exact h.aps i hi
theorem SetM.far_up (h : SetM w S P A c) {k : Nat} {A2 : Option Addr} (hk : k < 3 + 2 * P.rs.length) : ∀ j, 3 + 2 * P.rs.length ≤ j → upA A k A2 j = none := fun j hj => by
  rw [upA_ne A A2 (by omega)]; exact h.far j hj
theorem foot_up {k : Nat} {A2 : Option Addr} (hb : NewB w (A k) A2) (x : Nat) (hf : Foot S (upA A k A2) x) : Foot S A x ∨ w.heap.size ≤ x := by
  rcases hf with rfl | ⟨j, hj⟩
  · exact .inl (.inl rfl)
  · by_cases h1 : j = k
    · rw [h1, upA_same] at hj
      rcases hb with e | e
      · rw [e] at hj; exact .inl (.inr ⟨k, hj⟩)
      · exact .inr (e x hj)
    · rw [upA_ne A A2 h1] at hj; exact .inl (.inr ⟨j, hj⟩)
/-- who is ready, anew -/
theorem SetM.putReady (h : SetM w S P A c) {A2 : Option Addr} {c2 : Nat} {L : List Nat} (hr : Row w' 3 1 A2 c2 L.length (nums L)) (hg : w.grownBy w' ((A 2).map (·.block))) (hb : NewB w (A 2) A2) :
    SetM (w'.setCell ⟨S, 2, none⟩ (.slice A2 L.length c2)) S { P with ready := L } (upA A 2 A2) (upC c 2 c2) ∧ FrS S A w (upA A 2 A2) (w'.setCell ⟨S, 2, none⟩ (.slice A2 L.length c2)) := by
  have hSb : ∀ j, j ≠ 2 → (A j).map (·.block) = none ∨ (A j).map (·.block) ≠ (A 2).map (·.block) := fun j hj => by
    cases hx : (A j).map (·.block) with
    | none => exact .inl rfl
    | some g => exact .inr fun e => h.ap j 2 g hj hx e.symm
  have hS2 : (A 2).map (·.block) ≠ some S := h.aps 2
  have hk : ∀ (j : Nat) {e size n xs}, j ≠ 2 → Row w e size (A j) (c j) n xs → Row (w'.setCell ⟨S, 2, none⟩ (.slice A2 L.length c2)) e size (A j) (c j) n xs := fun j {e size n xs} hj hx =>
    (hx.kept hg (hSb j hj)).other (h.aps j) _
  refine ⟨⟨?_, ?_, ?_, ?_, ?_, ?_, h.ap_up hb, h.aps_up hb, h.far_up (by omega)⟩, ?_⟩
  · have := (h.blk.grown hg hS2).setCell 2 (.slice A2 L.length c2)
    rw [upA_same, upC_same, upA_ne A A2 (by decide), upA_ne A A2 (by decide), upC_ne c c2 (by decide), upC_ne c c2 (by decide)]
    exact this
  · rw [upA_ne A A2 (by decide), upC_ne c c2 (by decide)]; exact hk 0 (by decide) h.po
  · have e : rrows P.rs (upA A 2 A2) (upC c 2 c2) = rrows P.rs A c := by
      unfold rrows
      refine List.map_congr_left fun i _ => ?_
      rw [upA_ne A A2 (by omega), upA_ne A A2 (by omega), upC_ne c c2 (by omega), upC_ne c c2 (by omega)]
    rw [upA_ne A A2 (by decide), upC_ne c c2 (by decide)]
    show Row _ _ 5 (A 1) (c 1) P.rs.length (rrows P.rs (upA A 2 A2) (upC c 2 c2)).flatten
    rw [e]; exact hk 1 (by decide) h.ro
  · rw [upA_same, upC_same]
    refine hr.other ?_ _
    rcases hb with e | e
    · rw [e]; exact hS2
    · intro hx; have := e S hx; have := h.blk.lt; omega
  · intro i hi
    rw [upA_ne A A2 (by omega), upC_ne c c2 (by omega)]; exact hk _ (by omega) (h.qo i hi)
  · intro i hi
    rw [upA_ne A A2 (by omega), upC_ne c c2 (by omega)]; exact hk _ (by omega) (h.io i hi)
  · have f1 : FrS S A w A w' := FrS.grown hg fun k e => .inl (.inr ⟨2, e⟩)
    have f2 : FrS S A w' A (w'.setCell ⟨S, 2, none⟩ (.slice A2 L.length c2)) := FrS.grown (grown_setCell _ _ _) fun k e => .inl (.inl (by injection e with e; exact e.symm))
    have f := f1.trans f2
    exact ⟨f.os, f.tape, f.output, f.size, f.block, fun k hk => foot_up hb k hk, upA_ne A A2 (by omega), upA_ne A A2 (by omega)⟩
/-- a resource's numbers -/
theorem SetM.storeR (h : SetM w S P A c) {r f : Nat} (hr : r < P.rs.length) (hf : f < 3) (v : Value) (x : Rsc) (hx : (rcells (P.rsc r) (A (3 + 2 * r)) (c (3 + 2 * r)) (A (4 + 2 * r)) (c (4 + 2 * r))).set f v = rcells x (A (3 + 2 * r)) (c (3 + 2 * r)) (A (4 + 2 * r)) (c (4 + 2 * r))) (hq : x.q = (P.rsc r).q) (hi : x.items = (P.rsc r).items) {g : Nat} (hA : A 1 = some ⟨g, 0, none⟩) :
    SetM (w.setCell ⟨g, r * 5 + f, none⟩ v) S (P.setR r x) A c := by
  have hgA : (A 1).map (·.block) = some g := by rw [hA]; rfl
  have hne : ∀ j, j ≠ 1 → (A j).map (·.block) ≠ some g := fun j hj => h.ap 1 j g (fun e => hj e.symm) hgA
  have hSg : g ≠ S := fun e => h.aps 1 (by rw [hgA, e])
  have hl : (P.rs.set r x).length = P.rs.length := List.length_set ..
  have hgd : ∀ i, ((P.rs.set r x).getD i default).q = (P.rsc i).q ∧ ((P.rs.set r x).getD i default).items = (P.rsc i).items := fun i => by
    by_cases e : i = r
    · subst e
      have : (P.rs.set i x).getD i default = x := by simp [List.getD, hr]
      rw [this]; exact ⟨hq, hi⟩
    · have : (P.rs.set r x).getD i default = P.rsc i := by simp [List.getD, PSet.rsc, List.getElem?_set_ne (Ne.symm e)]
      rw [this]; exact ⟨rfl, rfl⟩
  refine ⟨?_, h.po.other (hne 0 (by decide)) v, ?_, h.rd.other (hne 2 (by decide)) v, fun i hi' => ?_, fun i hi' => ?_, h.ap, h.aps, fun j hj => h.far j (by rw [← hl]; exact hj)⟩
  · show Blk _ S [_, .slice (A 1) (P.rs.set r x).length (c 1), _]
    rw [hl]
    exact h.blk.grown (grown_setCell w ⟨g, r * 5 + f, none⟩ v) (fun e => by injection e with e; exact hSg e)
  · show Row _ _ 5 (A 1) (c 1) (P.rs.set r x).length (rrows (P.rs.set r x) A c).flatten
    have hrl : r < (rrows P.rs A c).length := by simpa [rrows] using hr
    have hro := h.ro
    rw [hA] at hro ⊢
    have := hro.set (r * 5 + f) v
    rw [flat_set (rr_len P.rs A c) hrl (by omega) v, rr_get P.rs A c hrl] at this
    have e2 : (rcells (P.rs.getD r default) (A (3 + 2 * r)) (c (3 + 2 * r)) (A (4 + 2 * r)) (c (4 + 2 * r))).set f v = rcells x (A (3 + 2 * r)) (c (3 + 2 * r)) (A (4 + 2 * r)) (c (4 + 2 * r)) := hx
    rw [e2] at this
    have e3 : rrows (P.rs.set r x) A c = (rrows P.rs A c).set r (rcells x (A (3 + 2 * r)) (c (3 + 2 * r)) (A (4 + 2 * r)) (c (4 + 2 * r))) := by
      unfold rrows
      rw [hl]
      refine List.ext_getElem (by simp) fun i h1 h2 => ?_
      by_cases e : i = r
      · subst e; simp [List.getD, hr]
      · rw [List.getElem_set_ne (fun e' => e e'.symm)]
        simp [List.getD, List.getElem?_set_ne (Ne.symm e)]
    rw [e3, hl]
    exact this
  · have e := (hgd i).1
    show Row _ _ 1 _ _ ((P.rs.set r x).getD i default).q.length (nums ((P.rs.set r x).getD i default).q)
    rw [e]
    exact (h.qo i (by rw [← hl]; exact hi')).other (hne _ (by omega)) v
  · have e := (hgd i).2
    show Row _ _ 1 _ _ ((P.rs.set r x).getD i default).items.length (((P.rs.set r x).getD i default).items.map (Value.int .i64))
    rw [e]
    exact (h.io i (by rw [← hl]; exact hi')).other (hne _ (by omega)) v
end
end Go.Proofs.Ytgeffkdobnipgaa
