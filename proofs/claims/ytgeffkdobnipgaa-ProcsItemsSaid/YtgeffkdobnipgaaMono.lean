/- A region that draws its order, of which no result hangs on the order: each operation keeps what the others have left, for memory only grows. One proof an operation, whatever the order. Over whatever program. -/
import Derived.WalkKit
import Derived.Orders
import Derived.Shelf.Abstract
namespace Nac
open Go Go.RowKit
/-- what is known of a slot's value -/
inductive VD where
  | is (v : Value)
  | pr (p : Value → World → Prop) (hm : ∀ v w w', p v w → Below w.heap.size w w' → p v w')
def VD.ok : VD → Value → World → Prop
  | .is u, v, _ => v = u
  | .pr p _, v, w => p v w
theorem VD.mono (d : VD) (v : Value) (w w' : World) (h : d.ok v w) (hb : Below w.heap.size w w') : d.ok v w' := by
  cases d with
  | is u => exact h
  | pr p hm => exact hm v w w' h hb
def dstOf (ops : Array Oper) (i : Nat) : Option Tmp := (ops[i]?).bind (·.dst)
/-- the operations that must have come ahead of operation i -/
def preds (ops : Array Oper) : Nat → Nat → List Nat
  | 0, _ => []
  | n + 1, i => match ops[i]? with
    | none => []
    | some o => (o.after.toList.filter fun e => Region.binds .any e).flatMap fun e => e.on :: preds ops n e.on
/-- slot t still holds, when operation i is run, what it held at first -/
def origB (ops : Array Oper) (i t : Nat) : Bool := (List.range ops.size).all fun k => dstOf ops k != some t || (preds ops 3 k).contains i
def distinctB (ops : Array Oper) (n : Nat) : Bool := (List.range ops.size).all fun i => (match dstOf ops i with | none => true | some d => decide (d < n)) && (List.range ops.size).all fun j => i == j || dstOf ops i == none || dstOf ops i != dstOf ops j
section
variable {P : Program} {ops : Array Oper} {Q : Exit → Act → World → Prop} {D : Nat → VD} {a0 : Act} {W0 : World}
structure MCtx (ops : Array Oper) (D : Nat → VD) (a0 : Act) (W0 : World) (i : Nat) (a : Act) (w : World) : Prop where
  below : Below W0.heap.size W0 w
  tsize : a.tmps.size = a0.tmps.size
  pred : ∀ k d, k ∈ preds ops 3 i → dstOf ops k = some d → (D k).ok (a.tmps.getD d undef) w
  orig : ∀ t, origB ops i t = true → a.tmps.getD t undef = a0.tmps.getD t undef
def MStep (P : Program) (ops : Array Oper) (Q : Exit → Act → World → Prop) (D : Nat → VD) (a0 : Act) (W0 : World) (i : Nat) : Prop :=
  ∀ o, ops[i]? = some o → ∀ a w, MCtx ops D a0 W0 i a w →
    if Region.wanted o (yielded ops a.tmps) = true then o.wp P a w (fun a' w' => ∃ v, a' = a.put o.dst v ∧ (D i).ok v w' ∧ Below w.heap.size w w') Q else (D i).ok undef w
structure MInv (ops : Array Oper) (D : Nat → VD) (a0 : Act) (W0 : World) (listed : Array Bool) (a : Act) (w : World) : Prop where
  size : listed.size = ops.size
  below : Below W0.heap.size W0 w
  defers : a.defers = a0.defers
  tsize : a.tmps.size = a0.tmps.size
  closed : ∀ i o, ops[i]? = some o → listed.getD i false = true → ∀ e ∈ o.after, Region.binds .any e = true → listed.getD e.on false = true
  done : ∀ i d, listed.getD i false = true → dstOf ops i = some d → (D i).ok (a.tmps.getD d undef) w
  rest : ∀ t, (∀ i, listed.getD i false = true → dstOf ops i ≠ some t) → a.tmps.getD t undef = a0.tmps.getD t undef
theorem preds_closed {listed : Array Bool} (hc : ∀ i o, ops[i]? = some o → listed.getD i false = true → ∀ e ∈ o.after, Region.binds .any e = true → listed.getD e.on false = true) :
    ∀ (n i : Nat), (∀ o, ops[i]? = some o → ∀ e ∈ o.after, Region.binds .any e = true → listed.getD e.on false = true) → ∀ k ∈ preds ops n i, listed.getD k false = true := by
  intro n
  induction n with
  | zero => intro i _ k hk; simp [preds] at hk
  | succ n ih =>
    intro i hi k hk
    unfold preds at hk
    cases ho : ops[i]? with
    | none => simp [ho] at hk
    | some o =>
      simp only [ho, List.mem_flatMap, List.mem_filter, Array.mem_toList_iff] at hk
      obtain ⟨e, ⟨he, hb⟩, hk⟩ := hk
      have h1 := hi o ho e he hb
      rcases List.mem_cons.1 hk with rfl | hk
      · exact h1
      · exact ih e.on (fun o' ho' e' he' hb' => hc e.on o' ho' h1 e' he' hb') k hk
theorem getD_setIf (l : Array Bool) (i j : Nat) (h : i < l.size) : (l.setIfInBounds i true).getD j false = if i = j then true else l.getD j false := by
  simp only [Array.getD_eq_getD_getElem?, Array.getElem?_setIfInBounds]
  by_cases e : i = j
  · subst e; simp [h]
  · simp [e]
theorem getD_put (t : Array Value) (d k : Nat) (v : Value) (h : d < t.size) : (t.setIfInBounds d v).getD k undef = if d = k then v else t.getD k undef := by
  simp only [Array.getD_eq_getD_getElem?, Array.getElem?_setIfInBounds]
  by_cases e : d = k
  · subst e; simp [h]
  · simp [e]
theorem mono_put {listed : Array Bool} {a : Act} {w w' : World} {i : Nat} {o : Oper} (hI : MInv ops D a0 W0 listed a w) (hi : i < ops.size) (ho : ops[i]? = some o)
    (hd : distinctB ops a0.tmps.size = true) (hready : ∀ e ∈ o.after, Region.binds .any e = true → listed.getD e.on false = true) {v : Value} (hv : (D i).ok v w') (hb : Below w.heap.size w w') : MInv ops D a0 W0 (listed.setIfInBounds i true) (a.put o.dst v) w' := by
  have hs : i < listed.size := by rw [hI.size]; exact hi
  have hdo : dstOf ops i = o.dst := by simp [dstOf, ho]
  have hdist : ∀ x y d, x < ops.size → y < ops.size → dstOf ops x = some d → (d < a0.tmps.size) ∧ (dstOf ops y = some d → x = y) := by
    intro x y d hx hy hxd
    unfold distinctB at hd
    rw [List.all_eq_true] at hd
    have h1 := hd x (by simpa using hx)
    rw [Bool.and_eq_true, List.all_eq_true] at h1
    obtain ⟨h1, h2⟩ := h1
    have h2 := h2 y (by simpa using hy)
    rw [hxd] at h1 h2
    refine ⟨by simpa using h1, fun hyd => ?_⟩
    rw [hyd] at h2
    simpa using h2
  have hin : ∀ k d, dstOf ops k = some d → k < ops.size := by
    intro k d hk
    rcases Nat.lt_or_ge k ops.size with h | h
    · exact h
    · simp [dstOf, Array.getElem?_eq_none h] at hk
  have hput : ∀ t, (a.put o.dst v).tmps.getD t undef = if o.dst = some t then v else a.tmps.getD t undef := by
    intro t
    cases hod : o.dst with
    | none => simp [Act.put]
    | some d =>
      have hlt := (hdist i i d hi hi (by rw [hdo, hod])).1
      simp only [Act.put]
      rw [getD_put _ _ _ _ (by rw [hI.tsize]; exact hlt)]
      simp
  refine ⟨by simpa using hI.size, hI.below.trans (hb.mono hI.below.size), ?_, ?_, ?_, ?_, ?_⟩
  · cases o.dst <;> simpa [Act.put] using hI.defers
  · cases o.dst <;> simpa [Act.put] using hI.tsize
  · intro j oj hj hl e he hbind
    rw [getD_setIf _ _ _ hs] at hl ⊢
    by_cases hx : i = e.on
    · simp [hx]
    · rw [if_neg hx]
      by_cases hij : i = j
      · subst hij
        rw [ho] at hj
        obtain rfl := Option.some.inj hj
        exact hready e he hbind
      · rw [if_neg hij] at hl
        exact hI.closed j oj hj hl e he hbind
  · intro j d hl hjd
    rw [getD_setIf _ _ _ hs] at hl
    rw [hput]
    by_cases hij : i = j
    · subst hij
      rw [hdo] at hjd
      rw [if_pos hjd]
      exact hv
    · rw [if_neg hij] at hl
      rw [if_neg (fun h => hij ((hdist i j d hi (hin j d hjd) (by rw [hdo]; exact h)).2 hjd))]
      exact VD.mono _ _ _ _ (hI.done j d hl hjd) hb
  · intro t ht
    have h1 : o.dst ≠ some t := by
      have := ht i (by rw [getD_setIf _ _ _ hs]; simp)
      rwa [hdo] at this
    rw [hput, if_neg h1]
    refine hI.rest t fun j hl => ht j ?_
    rw [getD_setIf _ _ _ hs]
    split
    · rfl
    · exact hl
def falses (l : Array Bool) : Nat := (l.toList.filter (! ·)).length
theorem falses_list : ∀ (xs : List Bool) (i : Nat), xs[i]? = some false → ((xs.set i true).filter (! ·)).length + 1 = (xs.filter (! ·)).length := by
  intro xs
  induction xs with
  | nil => intro i h; simp at h
  | cons x xs ih =>
    intro i h
    cases i with
    | zero =>
      simp only [List.getElem?_cons_zero, Option.some.injEq] at h
      subst h
      simp
    | succ i =>
      simp only [List.getElem?_cons_succ] at h
      have := ih i h
      cases x <;> simp <;> omega
theorem falses_set (l : Array Bool) (i : Nat) (h : i < l.size) (hf : l.getD i false = false) : falses (l.setIfInBounds i true) + 1 = falses l := by
  unfold falses
  rw [Array.toList_setIfInBounds]
  refine falses_list _ _ ?_
  rw [Array.getElem?_toList, Array.getElem?_eq_getElem h]
  rw [Array.getD_eq_getD_getElem?, Array.getElem?_eq_getElem h] at hf
  simpa using hf
theorem falses_zero (l : Array Bool) (h : falses l = 0) (i : Nat) (hi : i < l.size) : l.getD i false = true := by
  unfold falses at h
  rw [List.length_eq_zero_iff, List.filter_eq_nil_iff] at h
  rw [Array.getD_eq_getD_getElem?, Array.getElem?_eq_getElem hi]
  have := h l[i] (by simp)
  simpa using this
def backB (ops : Array Oper) : Bool := (List.range ops.size).all fun i => match ops[i]? with | none => true | some o => o.after.all fun e => !Region.binds .any e || decide (e.on < i)
theorem ready_of {listed : Array Bool} {i : Nat} (h : i ∈ Region.ready .any ops listed) (hs : listed.size = ops.size) : i < ops.size ∧ listed.getD i false = false ∧ ∃ o, ops[i]? = some o ∧ ∀ e ∈ o.after, Region.binds .any e = true → listed.getD e.on false = true := by
  unfold Region.ready at h
  rw [List.mem_filter] at h
  obtain ⟨h1, h2⟩ := h
  have hi : i < ops.size := by simpa using h1
  have ho : ops[i]? = some ops[i] := Array.getElem?_eq_getElem hi
  rw [ho] at h2
  rw [Bool.and_eq_true] at h2
  obtain ⟨h2, h3⟩ := h2
  refine ⟨hi, ?_, ops[i], ho, fun e he hb => ?_⟩
  · have hsz : i < listed.size := by omega
    rw [Array.getD_eq_getD_getElem?, Array.getElem?_eq_getElem hsz] at h2 ⊢
    simpa using h2
  · simp only [Option.map_some, Option.getD_some] at h3
    rw [Array.all_eq_true_iff_forall_mem] at h3
    have := h3 e he
    rw [hb] at this
    simpa using this
theorem ready_ex {listed : Array Bool} (hb : backB ops = true) (hs : listed.size = ops.size) : ∀ i, i < ops.size → listed.getD i false = false → Region.ready .any ops listed ≠ [] := by
  intro i
  induction i using Nat.strongRecOn with
  | ind i ih =>
    intro hi hf
    by_cases hall : ∀ e ∈ ops[i].after, Region.binds .any e = true → listed.getD e.on false = true
    · have : i ∈ Region.ready .any ops listed := by
        unfold Region.ready
        rw [List.mem_filter]
        refine ⟨by simpa using hi, ?_⟩
        rw [Array.getElem?_eq_getElem hi, Bool.and_eq_true]
        constructor
        · have hsz : i < listed.size := by omega
          rw [Array.getD_eq_getD_getElem?, Array.getElem?_eq_getElem hsz] at hf ⊢
          simpa using hf
        · simp only [Option.map_some, Option.getD_some]
          rw [Array.all_eq_true_iff_forall_mem]
          intro e he
          cases hx : Region.binds .any e
          · simp
          · simpa using hall e he hx
      intro h
      rw [h] at this
      cases this
    · simp only [Classical.not_forall] at hall
      obtain ⟨e, he, hbd, hl⟩ := hall
      unfold backB at hb
      rw [List.all_eq_true] at hb
      have h1 := hb i (by simpa using hi)
      rw [Array.getElem?_eq_getElem hi] at h1
      simp only at h1
      rw [Array.all_eq_true_iff_forall_mem] at h1
      have h2 := h1 e he
      rw [hbd] at h2
      have hlt : e.on < i := by simpa using h2
      exact ih e.on hlt (by omega) (by simpa using hl)
theorem mono_any (hd : distinctB ops a0.tmps.size = true) (hbk : backB ops = true)
    (step : ∀ i, i < ops.size → MStep P ops Q D a0 W0 i)
    (fin : ∀ a w, Below W0.heap.size W0 w → a.defers = a0.defers → a.tmps.size = a0.tmps.size → (∀ i d, dstOf ops i = some d → (D i).ok (a.tmps.getD d undef) w) → (∀ t, (∀ i, dstOf ops i ≠ some t) → a.tmps.getD t undef = a0.tmps.getD t undef) → Q .normal a w) :
    ∀ (fuel : Nat) (listed : Array Bool) (a : Act) (w : World), falses listed ≤ fuel → MInv ops D a0 W0 listed a w → wpAny P .any ops Q fuel listed a w := by
  have hfin : ∀ (listed : Array Bool) (a : Act) (w : World), (∀ i, i < ops.size → listed.getD i false = true) → MInv ops D a0 W0 listed a w → Q .normal a w := by
    intro listed a w hall hI
    refine fin a w hI.below hI.defers hI.tsize (fun i d h => hI.done i d (hall i ?_) h) (fun t ht => hI.rest t fun i _ => ht i)
    rcases Nat.lt_or_ge i ops.size with h' | h'
    · exact h'
    · simp [dstOf, Array.getElem?_eq_none h'] at h
  have hnil : ∀ (listed : Array Bool), listed.size = ops.size → Region.ready .any ops listed = [] → ∀ i, i < ops.size → listed.getD i false = true := by
    intro listed hs hr i hi
    cases hf : listed.getD i false
    · exact absurd hr (ready_ex hbk hs i hi hf)
    · rfl
  intro fuel
  induction fuel with
  | zero =>
    intro listed a w hf hI
    have hall : ∀ i, i < ops.size → listed.getD i false = true := fun i hi => falses_zero listed (by omega) i (by rw [hI.size]; exact hi)
    refine ⟨?_, hfin listed a w hall hI⟩
    apply List.eq_nil_iff_forall_not_mem.2
    intro i hi
    obtain ⟨h1, h2, _⟩ := ready_of hi hI.size
    rw [hall i h1] at h2
    cases h2
  | succ fuel ih =>
    intro listed a w hf hI
    refine ⟨fun hr => hfin listed a w (hnil listed hI.size hr) hI, fun i hi => ?_⟩
    obtain ⟨h1, h2, o, ho, hready⟩ := ready_of hi hI.size
    have hctx : MCtx ops D a0 W0 i a w := by
      have hpc := preds_closed hI.closed 3 i (fun o' ho' => by rw [ho] at ho'; obtain rfl := Option.some.inj ho'; exact hready)
      refine ⟨hI.below, hI.tsize, fun k d hk hkd => hI.done k d (hpc k hk) hkd, fun t ht => hI.rest t fun k hl hkd => ?_⟩
      unfold origB at ht
      rw [List.all_eq_true] at ht
      have hk : k < ops.size := by
        rcases Nat.lt_or_ge k ops.size with h | h
        · exact h
        · simp [dstOf, Array.getElem?_eq_none h] at hkd
      have h3 := ht k (by simpa using hk)
      rw [hkd] at h3
      simp only [bne_self_eq_false, Bool.false_or, List.contains_iff_mem] at h3
      have := preds_closed hI.closed 3 k (fun o' ho' e he hb' => hI.closed k o' ho' hl e he hb') i h3
      rw [h2] at this
      cases this
    have hs := step i h1 o ho a w hctx
    have hfl : falses (listed.setIfInBounds i true) ≤ fuel := by
      have := falses_set listed i (by rw [hI.size]; exact h1) h2
      omega
    unfold wpOp
    rw [ho]
    simp only
    split
    · rename_i hw
      rw [if_pos hw] at hs
      refine Or.inl (Oper.wp_mono ?_ hs)
      rintro a' w' ⟨v, rfl, hv, hb⟩
      exact ih _ _ _ hfl (mono_put hI h1 ho hd hready hv hb)
    · rename_i hw
      rw [if_neg hw] at hs
      exact ih _ _ _ hfl (mono_put hI h1 ho hd hready hs (Below.refl _ _))
/-- THE LAW: a region that draws, of operations that only let memory grow -/
theorem region_mono {id : Nat} {a0 : Act} {w0 : World} (D : Nat → VD) (hm : P.follows .mixedOrders = true) (hd : distinctB ops a0.tmps.size = true) (hbk : backB ops = true)
    (step : ∀ i, i < ops.size → MStep P ops Q D a0 w0.drew i)
    (fin : ∀ a w, Below w0.heap.size w0 w → a.defers = a0.defers → a.tmps.size = a0.tmps.size → (∀ i d, dstOf ops i = some d → (D i).ok (a.tmps.getD d undef) w) → (∀ t, (∀ i, dstOf ops i ≠ some t) → a.tmps.getD t undef = a0.tmps.getD t undef) → Q .normal a w) :
    (Code.region id ops true).wp P Q a0 w0 := by
  refine wp_region_any hm ?_
  have hg : ∀ i, (Array.replicate ops.size false).getD i false = false := by
    intro i
    rw [Array.getD_eq_getD_getElem?, Array.getElem?_replicate]
    split <;> rfl
  refine mono_any (D := D) (a0 := a0) (W0 := w0.drew) hd hbk step (fun a w hb => fin a w ⟨hb.os, hb.tape, hb.output, hb.size, hb.block⟩) _ _ _ _ ?_ ⟨by simp, Below.refl _ _, rfl, rfl, fun i o _ h => (by rw [hg] at h; cases h), fun i d h => (by rw [hg] at h; cases h), fun _ _ => rfl⟩
  unfold falses
  simp
/-! ### one operation -/
variable {i : Nat} {o : Oper}
theorem mwant_none (hg : o.guard = none) : ∀ a w, MCtx ops D a0 W0 i a w → Region.wanted o (yielded ops a.tmps) = true := fun _ _ _ => by simp [Region.wanted, hg]
theorem mwant (j : Nat) (want : Bool) (d : Tmp) (hg : o.guard = some (j, want)) (hj : (preds ops 3 i).contains j = true) (hdj : dstOf ops j = some d) (hD : D j = .is (.bool want)) (hlt : decide (d < a0.tmps.size) = true) :
    ∀ a w, MCtx ops D a0 W0 i a w → Region.wanted o (yielded ops a.tmps) = true := fun a w c => by
  have hsz := c.tsize
  have h := c.pred j d (by simpa using hj) hdj
  rw [hD] at h
  have h : a.tmps.getD d undef = .bool want := h
  have hlt : d < a.tmps.size := by rw [hsz]; simpa using hlt
  have hy : yielded ops a.tmps j = some want := by
    unfold yielded
    have hdj' : (ops[j]?).bind (·.dst) = some d := hdj
    rw [hdj']
    rw [Array.getD_eq_getD_getElem?, Array.getElem?_eq_getElem hlt] at h
    simp only [Option.getD_some] at h
    simp [Array.getElem?_eq_getElem hlt, h]
  simp [Region.wanted, hg, hy]
theorem mstep_val (ho : ops[i]? = some o) (hw : ∀ a w, MCtx ops D a0 W0 i a w → Region.wanted o (yielded ops a.tmps) = true)
    (h : ∀ a w, MCtx ops D a0 W0 i a w → ∃ v w', (execOp a.eval o).run P w = .ok (.value v) w' ∧ (D i).ok v w' ∧ Below w.heap.size w w') : MStep P ops Q D a0 W0 i := by
  intro o' ho' a w c
  rw [ho] at ho'
  obtain rfl := Option.some.inj ho'
  rw [if_pos (hw a w c)]
  obtain ⟨v, w', hr, hv, hb⟩ := h a w c
  unfold Oper.wp
  rw [hr]
  exact ⟨v, rfl, hv, hb⟩
/-- one that leaves the world as it is -/
theorem mstep_pure (ho : ops[i]? = some o) (hw : ∀ a w, MCtx ops D a0 W0 i a w → Region.wanted o (yielded ops a.tmps) = true)
    (h : ∀ a w, MCtx ops D a0 W0 i a w → ∃ v, (execOp a.eval o).run P w = .ok (.value v) w ∧ (D i).ok v w) : MStep P ops Q D a0 W0 i :=
  mstep_val ho hw fun a w c => let ⟨v, h1, h2⟩ := h a w c; ⟨v, w, h1, h2, Below.refl _ _⟩
theorem mstep_copy (ho : ops[i]? = some o) (hw : ∀ a w, MCtx ops D a0 W0 i a w → Region.wanted o (yielded ops a.tmps) = true) (t : Tmp) (hop : o.op = .move (.tmp t) ∨ o.op = .assign (.tmp t))
    (k : Nat) (hk : (preds ops 3 i).contains k = true) (hkd : dstOf ops k = some t) (hD : D i = D k) : MStep P ops Q D a0 W0 i :=
  mstep_pure ho hw fun a w c => ⟨a.tmps.getD t undef, by rcases hop with h | h <;> simp [execOp, h, Act.eval], by rw [hD]; exact c.pred k t (by simpa using hk) hkd⟩
theorem mstep_first (ho : ops[i]? = some o) (hw : ∀ a w, MCtx ops D a0 W0 i a w → Region.wanted o (yielded ops a.tmps) = true) (t : Tmp) (hop : o.op = .move (.tmp t) ∨ o.op = .assign (.tmp t))
    (ht : origB ops i t = true) (hD : ∀ w, Below W0.heap.size W0 w → (D i).ok (a0.tmps.getD t undef) w) : MStep P ops Q D a0 W0 i :=
  mstep_pure ho hw fun a w c => ⟨a.tmps.getD t undef, by rcases hop with h | h <;> simp [execOp, h, Act.eval], by rw [c.orig t ht]; exact hD w c.below⟩
theorem mstep_const (ho : ops[i]? = some o) (hw : ∀ a w, MCtx ops D a0 W0 i a w → Region.wanted o (yielded ops a.tmps) = true) (v : Value) (hop : o.op = .move (.const v) ∨ o.op = .assign (.const v)) (hD : D i = .is v) : MStep P ops Q D a0 W0 i :=
  mstep_pure ho hw fun a w _ => ⟨v, by rcases hop with h | h <;> simp [execOp, h, Act.eval], by rw [hD]; rfl⟩
theorem mstep_pick (ho : ops[i]? = some o) (hw : ∀ a w, MCtx ops D a0 W0 i a w → Region.wanted o (yielded ops a.tmps) = true) (tc tx : Tmp) (y : Operand) (hop : o.op = .pick (.tmp tc) (.tmp tx) y)
    (kc kx : Nat) (hkc : (preds ops 3 i).contains kc = true) (hkx : (preds ops 3 i).contains kx = true) (hc : dstOf ops kc = some tc) (hx : dstOf ops kx = some tx) (hDc : D kc = .is (.bool true)) (hD : D i = D kx) : MStep P ops Q D a0 W0 i :=
  mstep_pure ho hw fun a w c => by
    have h1 := c.pred kc tc (by simpa using hkc) hc
    rw [hDc] at h1
    have h1 : a.tmps.getD tc undef = .bool true := h1
    have h2 := c.pred kx tx (by simpa using hkx) hx
    rw [← hD] at h2
    refine ⟨a.tmps.getD tx undef, ?_, h2⟩
    simp [execOp, hop, Act.eval, h1, asBool]
theorem mstep_call (ho : ops[i]? = some o) (hw : ∀ a w, MCtx ops D a0 W0 i a w → Region.wanted o (yielded ops a.tmps) = true) (f : FuncId) (args : Array Operand) (ts : Array TypeId)
    (hop : o.op = .call { callee := .value (.func f), args := args, argTypes := ts }) (he : ∀ vs w, (callFunc f vs).run P w = .ok (.enter f vs) w)
    (h : ∀ a w, MCtx ops D a0 W0 i a w → Calls P f (args.map a.eval) w fun e w' => ∃ v, e = .returned v ∧ (D i).ok v w' ∧ Below w.heap.size w w') : MStep P ops Q D a0 W0 i := by
  intro o' ho' a w c
  rw [ho] at ho'
  obtain rfl := Option.some.inj ho'
  rw [if_pos (hw a w c)]
  have hr : (execOp a.eval o).run P w = .ok (.enter f (args.map a.eval)) w := by
    simp [execOp, hop, resolve, Deferred.ofValue, Act.eval, invoke, he]
  unfold Oper.wp
  rw [hr]
  refine (h a w c).mono ?_
  rintro e w' ⟨v, rfl, hv, hb⟩
  exact ⟨v, rfl, hv, hb⟩
theorem mstep_call0 (ho : ops[i]? = some o) (hw : ∀ a w, MCtx ops D a0 W0 i a w → Region.wanted o (yielded ops a.tmps) = true) (f : FuncId) (ts : Array TypeId)
    (hop : o.op = .call { callee := .value (.func f), args := #[], argTypes := ts }) (he : ∀ vs w, (callFunc f vs).run P w = .ok (.enter f vs) w)
    (h : ∀ w, Below W0.heap.size W0 w → Calls P f #[] w fun e w' => ∃ v, e = .returned v ∧ (D i).ok v w' ∧ Below w.heap.size w w') : MStep P ops Q D a0 W0 i :=
  mstep_call ho hw f #[] ts hop he fun a w c => by
    have e : (#[] : Array Operand).map a.eval = #[] := by simp
    rw [e]
    exact h w c.below
theorem mstep_call1 (ho : ops[i]? = some o) (hw : ∀ a w, MCtx ops D a0 W0 i a w → Region.wanted o (yielded ops a.tmps) = true) (f : FuncId) (x : Tmp) (ts : Array TypeId)
    (hop : o.op = .call { callee := .value (.func f), args := #[.tmp x], argTypes := ts }) (he : ∀ vs w, (callFunc f vs).run P w = .ok (.enter f vs) w)
    (kx : Nat) (hkx : (preds ops 3 i).contains kx = true) (hx : dstOf ops kx = some x)
    (h : ∀ v w, Below W0.heap.size W0 w → (D kx).ok v w → Calls P f #[v] w fun e w' => ∃ v, e = .returned v ∧ (D i).ok v w' ∧ Below w.heap.size w w') : MStep P ops Q D a0 W0 i :=
  mstep_call ho hw f #[.tmp x] ts hop he fun a w c => by
    have e : (#[Operand.tmp x]).map a.eval = #[a.tmps.getD x undef] := by simp [Act.eval]
    rw [e]
    exact h _ w c.below (c.pred kx x (by simpa using hkx) hx)
theorem mstep_call2 (ho : ops[i]? = some o) (hw : ∀ a w, MCtx ops D a0 W0 i a w → Region.wanted o (yielded ops a.tmps) = true) (f : FuncId) (x y : Tmp) (ts : Array TypeId)
    (hop : o.op = .call { callee := .value (.func f), args := #[.tmp x, .tmp y], argTypes := ts }) (he : ∀ vs w, (callFunc f vs).run P w = .ok (.enter f vs) w)
    (kx ky : Nat) (hkx : (preds ops 3 i).contains kx = true) (hky : (preds ops 3 i).contains ky = true) (hx : dstOf ops kx = some x) (hy : dstOf ops ky = some y)
    (h : ∀ v u w, Below W0.heap.size W0 w → (D kx).ok v w → (D ky).ok u w → Calls P f #[v, u] w fun e w' => ∃ v, e = .returned v ∧ (D i).ok v w' ∧ Below w.heap.size w w') : MStep P ops Q D a0 W0 i :=
  mstep_call ho hw f #[.tmp x, .tmp y] ts hop he fun a w c => by
    have e : (#[Operand.tmp x, Operand.tmp y]).map a.eval = #[a.tmps.getD x undef, a.tmps.getD y undef] := by simp [Act.eval]
    rw [e]
    exact h _ _ w c.below (c.pred kx x (by simpa using hkx) hx) (c.pred ky y (by simpa using hky) hy)
theorem mstep_bin (ho : ops[i]? = some o) (hw : ∀ a w, MCtx ops D a0 W0 i a w → Region.wanted o (yielded ops a.tmps) = true) (op : BinOp) (T T' : TypeId) (x y : Tmp) (hop : o.op = .binOp op T (.tmp x) (.tmp y) T')
    (kx ky : Nat) (hkx : (preds ops 3 i).contains kx = true) (hky : (preds ops 3 i).contains ky = true) (hx : dstOf ops kx = some x) (hy : dstOf ops ky = some y) (vx vy r : Value) (hDx : D kx = .is vx) (hDy : D ky = .is vy) (hD : D i = .is r)
    (hv : ∀ w, (do eqGuard op T (.tmp x) (.tmp y) vx vy; binOp op T vx vy : Sem Value).run P w = .ok r w) : MStep P ops Q D a0 W0 i :=
  mstep_pure ho hw fun a w c => by
    have h1 := c.pred kx x (by simpa using hkx) hx
    rw [hDx] at h1
    have h1 : a.tmps.getD x undef = vx := h1
    have h2 := c.pred ky y (by simpa using hky) hy
    rw [hDy] at h2
    have h2 : a.tmps.getD y undef = vy := h2
    refine ⟨r, ?_, by rw [hD]; rfl⟩
    have h3 := hv w
    simp only [execOp, hop, Act.eval, h1, h2]
    rw [Sem.run_bind, h3]
    rfl
theorem mstep_binc (ho : ops[i]? = some o) (hw : ∀ a w, MCtx ops D a0 W0 i a w → Region.wanted o (yielded ops a.tmps) = true) (op : BinOp) (T T' : TypeId) (x : Tmp) (vy : Value) (hop : o.op = .binOp op T (.tmp x) (.const vy) T')
    (kx : Nat) (hkx : (preds ops 3 i).contains kx = true) (hx : dstOf ops kx = some x) (vx r : Value) (hDx : D kx = .is vx) (hD : D i = .is r)
    (hv : ∀ w, (do eqGuard op T (.tmp x) (.const vy) vx vy; binOp op T vx vy : Sem Value).run P w = .ok r w) : MStep P ops Q D a0 W0 i :=
  mstep_pure ho hw fun a w c => by
    have h1 := c.pred kx x (by simpa using hkx) hx
    rw [hDx] at h1
    have h1 : a.tmps.getD x undef = vx := h1
    refine ⟨r, ?_, by rw [hD]; rfl⟩
    have h3 := hv w
    simp only [execOp, hop, Act.eval, h1]
    rw [Sem.run_bind, h3]
    rfl
/-- whatever reads one slot -/
theorem mstep_one (ho : ops[i]? = some o) (hw : ∀ a w, MCtx ops D a0 W0 i a w → Region.wanted o (yielded ops a.tmps) = true) (x : Tmp)
    (kx : Nat) (hkx : (preds ops 3 i).contains kx = true) (hx : dstOf ops kx = some x)
    (h : ∀ (a : Act) w, (D kx).ok (a.tmps.getD x undef) w → ∃ v, (execOp a.eval o).run P w = .ok (.value v) w ∧ (D i).ok v w) : MStep P ops Q D a0 W0 i :=
  mstep_pure ho hw fun a w c => h a w (c.pred kx x (by simpa using hkx) hx)
end
end Nac
