/- A region that draws its order, with calls that write: of each operation what its slot holds, and of the world what holds while just some of the operations have been run. One proof an operation, whatever the order. Over whatever program. -/
import Derived.Test.YtgeffkdobnipgaaMono
namespace Nac
open Go Go.RowKit
def upd (L : Nat → Bool) (i : Nat) : Nat → Bool := fun k => if k = i then true else L k
section
variable {P : Program} {ops : Array Oper} {Q : Exit → Act → World → Prop} {D : Nat → Value → Prop} {J : (Nat → Bool) → World → Prop} {a0 : Act}
structure VCtx (ops : Array Oper) (D : Nat → Value → Prop) (J : (Nat → Bool) → World → Prop) (a0 : Act) (i : Nat) (L : Nat → Bool) (a : Act) (w : World) : Prop where
  world : J L w
  tsize : a.tmps.size = a0.tmps.size
  fresh : L i = false
  ahead : ∀ k, k ∈ preds ops 3 i → L k = true
  pred : ∀ k d, k ∈ preds ops 3 i → dstOf ops k = some d → D k (a.tmps.getD d undef)
  orig : ∀ t, origB ops i t = true → a.tmps.getD t undef = a0.tmps.getD t undef
def VStep (P : Program) (ops : Array Oper) (Q : Exit → Act → World → Prop) (D : Nat → Value → Prop) (J : (Nat → Bool) → World → Prop) (a0 : Act) (i : Nat) : Prop :=
  ∀ o, ops[i]? = some o → ∀ L a w, VCtx ops D J a0 i L a w →
    if Region.wanted o (yielded ops a.tmps) = true then o.wp P a w (fun a' w' => ∃ v, a' = a.put o.dst v ∧ D i v ∧ J (upd L i) w') Q else D i undef ∧ J (upd L i) w
structure VInv (ops : Array Oper) (D : Nat → Value → Prop) (J : (Nat → Bool) → World → Prop) (a0 : Act) (listed : Array Bool) (a : Act) (w : World) : Prop where
  size : listed.size = ops.size
  world : J (fun i => listed.getD i false) w
  defers : a.defers = a0.defers
  tsize : a.tmps.size = a0.tmps.size
  closed : ∀ i o, ops[i]? = some o → listed.getD i false = true → ∀ e ∈ o.after, Region.binds .any e = true → listed.getD e.on false = true
  done : ∀ i d, listed.getD i false = true → dstOf ops i = some d → D i (a.tmps.getD d undef)
  rest : ∀ t, (∀ i, listed.getD i false = true → dstOf ops i ≠ some t) → a.tmps.getD t undef = a0.tmps.getD t undef
theorem upd_listed (listed : Array Bool) (i : Nat) (h : i < listed.size) : (fun k => (listed.setIfInBounds i true).getD k false) = upd (fun k => listed.getD k false) i := by
  funext k
  rw [getD_setIf _ _ _ h]
  unfold upd
  by_cases e : i = k
  · rw [if_pos e, if_pos e.symm]
  · rw [if_neg e, if_neg (Ne.symm e)]
theorem val_put {listed : Array Bool} {a : Act} {w w' : World} {i : Nat} {o : Oper} (hI : VInv ops D J a0 listed a w) (hi : i < ops.size) (ho : ops[i]? = some o)
    (hd : distinctB ops a0.tmps.size = true) (hready : ∀ e ∈ o.after, Region.binds .any e = true → listed.getD e.on false = true) {v : Value} (hv : D i v) (hb : J (upd (fun k => listed.getD k false) i) w') : VInv ops D J a0 (listed.setIfInBounds i true) (a.put o.dst v) w' := by
  have hs : i < listed.size := by rw [hI.size]; exact hi
  have hdo : dstOf ops i = o.dst := by simp [dstOf, ho]
  have hdist : ∀ x y d, x < ops.size → y < ops.size → dstOf ops x = some d → (d < a0.tmps.size) ∧ (dstOf ops y = some d → x = y) := by
    intro x y d hx hy hxd
    unfold distinctB at hd
    rw [List.all_eq_true] at hd
    have h1 := hd x (by simpa using hx)
    rw [Bool.and_eq_true, List.all_eq_true] at h1
    obtain ⟨h1, h2⟩ := h1
    have h2 := h2 y (by simpa using hy)
    rw [hxd] at h1 h2
    refine ⟨by simpa using h1, fun hyd => ?_⟩
    rw [hyd] at h2
    simpa using h2
  have hin : ∀ k d, dstOf ops k = some d → k < ops.size := by
    intro k d hk
    rcases Nat.lt_or_ge k ops.size with h | h
    · exact h
    · simp [dstOf, Array.getElem?_eq_none h] at hk
  have hput : ∀ t, (a.put o.dst v).tmps.getD t undef = if o.dst = some t then v else a.tmps.getD t undef := by
    intro t
    cases hod : o.dst with
    | none => simp [Act.put]
    | some d =>
      have hlt := (hdist i i d hi hi (by rw [hdo, hod])).1
      simp only [Act.put]
      rw [getD_put _ _ _ _ (by rw [hI.tsize]; exact hlt)]
      simp
  refine ⟨by simpa using hI.size, by rw [upd_listed _ _ hs]; exact hb, ?_, ?_, ?_, ?_, ?_⟩
  · cases o.dst <;> simpa [Act.put] using hI.defers
  · cases o.dst <;> simpa [Act.put] using hI.tsize
  · intro j oj hj hl e he hbind
    rw [getD_setIf _ _ _ hs] at hl ⊢
    by_cases hx : i = e.on
    · simp [hx]
    · rw [if_neg hx]
      by_cases hij : i = j
      · subst hij
        rw [ho] at hj
        obtain rfl := Option.some.inj hj
        exact hready e he hbind
      · rw [if_neg hij] at hl
        exact hI.closed j oj hj hl e he hbind
  · intro j d hl hjd
    rw [getD_setIf _ _ _ hs] at hl
    rw [hput]
    by_cases hij : i = j
    · subst hij
      rw [hdo] at hjd
      rw [if_pos hjd]
      exact hv
    · rw [if_neg hij] at hl
      rw [if_neg (fun h => hij ((hdist i j d hi (hin j d hjd) (by rw [hdo]; exact h)).2 hjd))]
      exact hI.done j d hl hjd
  · intro t ht
    have h1 : o.dst ≠ some t := by
      have := ht i (by rw [getD_setIf _ _ _ hs]; simp)
      rwa [hdo] at this
    rw [hput, if_neg h1]
    refine hI.rest t fun j hl => ht j ?_
    rw [getD_setIf _ _ _ hs]
    split
    · rfl
    · exact hl
theorem val_any (hd : distinctB ops a0.tmps.size = true) (hbk : backB ops = true)
    (step : ∀ i, i < ops.size → VStep P ops Q D J a0 i)
    (fin : ∀ L a w, (∀ i, i < ops.size → L i = true) → J L w → a.defers = a0.defers → a.tmps.size = a0.tmps.size → (∀ i d, dstOf ops i = some d → D i (a.tmps.getD d undef)) → (∀ t, (∀ i, dstOf ops i ≠ some t) → a.tmps.getD t undef = a0.tmps.getD t undef) → Q .normal a w) :
    ∀ (fuel : Nat) (listed : Array Bool) (a : Act) (w : World), falses listed ≤ fuel → VInv ops D J a0 listed a w → wpAny P .any ops Q fuel listed a w := by
  have hfin : ∀ (listed : Array Bool) (a : Act) (w : World), (∀ i, i < ops.size → listed.getD i false = true) → VInv ops D J a0 listed a w → Q .normal a w := by
    intro listed a w hall hI
    refine fin _ a w hall hI.world hI.defers hI.tsize (fun i d h => hI.done i d (hall i ?_) h) (fun t ht => hI.rest t fun i _ => ht i)
    rcases Nat.lt_or_ge i ops.size with h' | h'
    · exact h'
    · simp [dstOf, Array.getElem?_eq_none h'] at h
  have hnil : ∀ (listed : Array Bool), listed.size = ops.size → Region.ready .any ops listed = [] → ∀ i, i < ops.size → listed.getD i false = true := by
    intro listed hs hr i hi
    cases hf : listed.getD i false
    · exact absurd hr (ready_ex hbk hs i hi hf)
    · rfl
  intro fuel
  induction fuel with
  | zero =>
    intro listed a w hf hI
    have hall : ∀ i, i < ops.size → listed.getD i false = true := fun i hi => falses_zero listed (by omega) i (by rw [hI.size]; exact hi)
    refine ⟨?_, hfin listed a w hall hI⟩
    apply List.eq_nil_iff_forall_not_mem.2
    intro i hi
    obtain ⟨h1, h2, _⟩ := ready_of hi hI.size
    rw [hall i h1] at h2
    cases h2
  | succ fuel ih =>
    intro listed a w hf hI
    refine ⟨fun hr => hfin listed a w (hnil listed hI.size hr) hI, fun i hi => ?_⟩
    obtain ⟨h1, h2, o, ho, hready⟩ := ready_of hi hI.size
    have hctx : VCtx ops D J a0 i (fun k => listed.getD k false) a w := by
      have hpc := preds_closed hI.closed 3 i (fun o' ho' => by rw [ho] at ho'; obtain rfl := Option.some.inj ho'; exact hready)
      refine ⟨hI.world, hI.tsize, h2, hpc, fun k d hk hkd => hI.done k d (hpc k hk) hkd, fun t ht => hI.rest t fun k hl hkd => ?_⟩
      unfold origB at ht
      rw [List.all_eq_true] at ht
      have hk : k < ops.size := by
        rcases Nat.lt_or_ge k ops.size with h | h
        · exact h
        · simp [dstOf, Array.getElem?_eq_none h] at hkd
      have h3 := ht k (by simpa using hk)
      rw [hkd] at h3
      simp only [bne_self_eq_false, Bool.false_or, List.contains_iff_mem] at h3
      have := preds_closed hI.closed 3 k (fun o' ho' e he hb' => hI.closed k o' ho' hl e he hb') i h3
      rw [h2] at this
      cases this
    have hs := step i h1 o ho _ a w hctx
    have hfl : falses (listed.setIfInBounds i true) ≤ fuel := by
      have := falses_set listed i (by rw [hI.size]; exact h1) h2
      omega
    unfold wpOp
    rw [ho]
    simp only
    split
    · rename_i hw
      rw [if_pos hw] at hs
      refine Or.inl (Oper.wp_mono ?_ hs)
      rintro a' w' ⟨v, rfl, hv, hb⟩
      exact ih _ _ _ hfl (val_put hI h1 ho hd hready hv hb)
    · rename_i hw
      rw [if_neg hw] at hs
      exact ih _ _ _ hfl (val_put hI h1 ho hd hready hs.1 hs.2)
/-- THE LAW -/
theorem region_val {id : Nat} {a0 : Act} {w0 : World} (D : Nat → Value → Prop) (J : (Nat → Bool) → World → Prop) (hm : P.follows .mixedOrders = true) (hd : distinctB ops a0.tmps.size = true) (hbk : backB ops = true)
    (h0 : J (fun _ => false) w0.drew)
    (step : ∀ i, i < ops.size → VStep P ops Q D J a0 i)
    (fin : ∀ L a w, (∀ i, i < ops.size → L i = true) → J L w → a.defers = a0.defers → a.tmps.size = a0.tmps.size → (∀ i d, dstOf ops i = some d → D i (a.tmps.getD d undef)) → (∀ t, (∀ i, dstOf ops i ≠ some t) → a.tmps.getD t undef = a0.tmps.getD t undef) → Q .normal a w) :
    (Code.region id ops true).wp P Q a0 w0 := by
  refine wp_region_any hm ?_
  have hg : ∀ i, (Array.replicate ops.size false).getD i false = false := by
    intro i
    rw [Array.getD_eq_getD_getElem?, Array.getElem?_replicate]
    split <;> rfl
  refine val_any (D := D) (J := J) (a0 := a0) hd hbk step fin _ _ _ _ ?_ ⟨by simp, ?_, rfl, rfl, fun i o _ h => (by rw [hg] at h; cases h), fun i d h => (by rw [hg] at h; cases h), fun _ _ => rfl⟩
  · unfold falses
    simp
  · rw [show (fun i => (Array.replicate ops.size false).getD i false) = fun _ => false from funext hg]
    exact h0
/-- the frame behind such a region, where each slot's value is known -/
def putsL : List (Option Tmp × Value) → Act → Act
  | [], a => a
  | (d, v) :: r, a => putsL r (a.put d v)
theorem put_size (a : Act) (d : Option Tmp) (v : Value) : (a.put d v).tmps.size = a.tmps.size := by cases d <;> simp [Act.put]
theorem put_defers (a : Act) (d : Option Tmp) (v : Value) : (a.put d v).defers = a.defers := by cases d <;> simp [Act.put]
theorem putsL_size : ∀ (l : List (Option Tmp × Value)) (a : Act), (putsL l a).tmps.size = a.tmps.size
  | [], _ => rfl
  | (d, v) :: r, a => by rw [putsL, putsL_size r, put_size]
theorem putsL_defers : ∀ (l : List (Option Tmp × Value)) (a : Act), (putsL l a).defers = a.defers
  | [], _ => rfl
  | (d, v) :: r, a => by rw [putsL, putsL_defers r, put_defers]
theorem putsL_get (t : Nat) (u : Value) : ∀ (l : List (Option Tmp × Value)) (a : Act), t < a.tmps.size → (∀ x ∈ l, x.1 = some t → u = x.2) → ((∀ x ∈ l, x.1 ≠ some t) → a.tmps.getD t undef = u) → (putsL l a).tmps.getD t undef = u
  | [], a, _, _, h => h (fun x hx => by cases hx)
  | (d, v) :: r, a, ht, hl, h => by
    rw [putsL]
    refine putsL_get t u r (a.put d v) (by rw [put_size]; exact ht) (fun x hx => hl x (List.mem_cons_of_mem _ hx)) fun hr => ?_
    by_cases hd : d = some t
    · subst hd
      simp only [Act.put]
      rw [getD_put _ _ _ _ ht, if_pos rfl]
      exact (hl _ List.mem_cons_self rfl).symm
    · have e : (a.put d v).tmps.getD t undef = a.tmps.getD t undef := by
        cases d with
        | none => rfl
        | some d' =>
          simp only [Act.put]
          by_cases hlt : d' < a.tmps.size
          · rw [getD_put _ _ _ _ hlt, if_neg (fun e => hd (by rw [e]))]
          · rw [Array.setIfInBounds_eq_of_size_le (Nat.le_of_not_lt hlt)]
      rw [e]
      refine h fun x hx => ?_
      rcases List.mem_cons.1 hx with rfl | hx
      · exact hd
      · exact hr x hx
theorem putsL_eq {a : Act} {l : List (Option Tmp × Value)} (hde : a.defers = a0.defers) (hts : a.tmps.size = a0.tmps.size)
    (hd : ∀ x ∈ l, ∀ t, x.1 = some t → a.tmps.getD t undef = x.2) (hr : ∀ t, (∀ x ∈ l, x.1 ≠ some t) → a.tmps.getD t undef = a0.tmps.getD t undef) : a = putsL l a0 := by
  obtain ⟨tm, df⟩ := a
  have h1 := putsL_size l a0
  have h2 := putsL_defers l a0
  have h3 : ∀ t, t < a0.tmps.size → (putsL l a0).tmps.getD t undef = tm.getD t undef := fun t ht => putsL_get t _ l a0 ht (fun x hx e => hd x hx t e) (fun h => (hr t h).symm)
  obtain ⟨p, hp⟩ : ∃ p, p = putsL l a0 := ⟨_, rfl⟩
  rw [← hp] at h1 h2 h3 ⊢
  clear hp
  obtain ⟨tm', df'⟩ := p
  simp only at h1 h2 h3 hde hts
  subst hde
  subst h2
  congr 1
  apply Array.ext (by omega)
  intro i g1 g2
  have := h3 i (by omega)
  rw [Array.getD_eq_getD_getElem?, Array.getD_eq_getD_getElem?, Array.getElem?_eq_getElem g1, Array.getElem?_eq_getElem g2] at this
  exact this.symm
/-- THE LAW, where each operation's value is known -/
theorem region_vals {id : Nat} {a0 : Act} {w0 : World} (V : List Value) (ds : List (Option Tmp)) (J : (Nat → Bool) → World → Prop) (hm : P.follows .mixedOrders = true) (hd : distinctB ops a0.tmps.size = true) (hbk : backB ops = true)
    (hds : ops.toList.map (·.dst) = ds) (hV : V.length = ds.length)
    (h0 : J (fun _ => false) w0.drew)
    (step : ∀ i, i < ops.size → VStep P ops Q (fun i v => v = V.getD i undef) J a0 i)
    (fin : ∀ L w, (∀ i, i < ops.size → L i = true) → J L w → Q .normal (putsL (ds.zip V) a0) w) :
    (Code.region id ops true).wp P Q a0 w0 := by
  refine region_val (fun i v => v = V.getD i undef) J hm hd hbk h0 step fun L a w hall hJ hde hts hs hr => ?_
  have hdi : ∀ i, i < ops.size → dstOf ops i = (ds[i]?).join := by
    intro i hi
    rw [← hds, List.getElem?_map, Array.getElem?_toList]
    unfold dstOf
    cases ops[i]? <;> rfl
  have hsz : ops.size = ds.length := by rw [← hds]; simp
  have e := putsL_eq (a0 := a0) (a := a) (l := ds.zip V) hde hts ?_ ?_
  · rw [e]
    exact fin L w hall hJ
  · intro x hx t ht
    obtain ⟨i, hi⟩ := List.mem_iff_getElem?.1 hx
    obtain ⟨h1, h2⟩ := List.getElem?_zip_eq_some.1 hi
    have hil : i < ops.size := by rw [hsz]; exact (List.getElem?_eq_some_iff.1 h1).1
    have := hs i t (by rw [hdi i hil, h1]; exact ht)
    rw [this, List.getD_eq_getElem?_getD, h2]
    rfl
  · intro t ht
    refine hr t fun i hdt => ?_
    have hil : i < ops.size := by
      rcases Nat.lt_or_ge i ops.size with h | h
      · exact h
      · simp [dstOf, Array.getElem?_eq_none h] at hdt
    rw [hdi i hil] at hdt
    have h1 : i < ds.length := by omega
    have h2 : i < V.length := by omega
    rw [List.getElem?_eq_getElem h1] at hdt
    exact ht (ds[i], V[i]) (List.mem_iff_getElem?.2 ⟨i, List.getElem?_zip_eq_some.2 ⟨List.getElem?_eq_getElem h1, List.getElem?_eq_getElem h2⟩⟩) hdt
theorem VCtx.slot {i : Nat} {L : Nat → Bool} {a : Act} {w : World} (c : VCtx ops D J a0 i L a w) (k x : Nat) (hk : (preds ops 3 i).contains k = true) (hx : dstOf ops k = some x) : D k (a.tmps.getD x undef) :=
  c.pred k x (by simpa using hk) hx
/-! ### one operation -/
variable {i : Nat} {o : Oper}
theorem vwant_none (hg : o.guard = none) : ∀ L a w, VCtx ops D J a0 i L a w → Region.wanted o (yielded ops a.tmps) = true := fun _ _ _ _ => by simp [Region.wanted, hg]
theorem vwant (j : Nat) (want : Bool) (d : Tmp) (hg : o.guard = some (j, want)) (hj : (preds ops 3 i).contains j = true) (hdj : dstOf ops j = some d) (hD : ∀ v, D j v → v = .bool want) (hlt : decide (d < a0.tmps.size) = true) :
    ∀ L a w, VCtx ops D J a0 i L a w → Region.wanted o (yielded ops a.tmps) = true := fun L a w c => by
  have hsz := c.tsize
  have h := hD _ (c.pred j d (by simpa using hj) hdj)
  have hlt : d < a.tmps.size := by rw [hsz]; simpa using hlt
  have hy : yielded ops a.tmps j = some want := by
    unfold yielded
    have hdj' : (ops[j]?).bind (·.dst) = some d := hdj
    rw [hdj']
    rw [Array.getD_eq_getD_getElem?, Array.getElem?_eq_getElem hlt] at h
    simp only [Option.getD_some] at h
    simp [Array.getElem?_eq_getElem hlt, h]
  simp [Region.wanted, hg, hy]
/-- the guard says no -/
theorem vstep_unwanted (ho : ops[i]? = some o) (j : Nat) (want : Bool) (d : Tmp) (hg : o.guard = some (j, want)) (hj : (preds ops 3 i).contains j = true) (hdj : dstOf ops j = some d) (hD : ∀ v, D j v → v = .bool (!want) ∨ v = undef) (hlt : decide (d < a0.tmps.size) = true)
    (hu : D i undef) (hJ : ∀ L w, J L w → J (upd L i) w) : VStep P ops Q D J a0 i := by
  intro o' ho' L a w c
  rw [ho] at ho'
  obtain rfl := Option.some.inj ho'
  have hsz := c.tsize
  have h := hD _ (c.pred j d (by simpa using hj) hdj)
  have hlt : d < a.tmps.size := by rw [hsz]; simpa using hlt
  have hy : Region.wanted o (yielded ops a.tmps) = false := by
    have hy : yielded ops a.tmps j = some (!want) ∨ yielded ops a.tmps j = none := by
      unfold yielded
      have hdj' : (ops[j]?).bind (·.dst) = some d := hdj
      rw [hdj']
      rw [Array.getD_eq_getD_getElem?, Array.getElem?_eq_getElem hlt] at h
      simp only [Option.getD_some] at h
      rcases h with h | h
      · left; simp [Array.getElem?_eq_getElem hlt, h]
      · right; simp [Array.getElem?_eq_getElem hlt, h, undef]
    rcases hy with hy | hy
    · cases want <;> simp [Region.wanted, hg, hy]
    · simp [Region.wanted, hg, hy]
  rw [if_neg (by rw [hy]; simp)]
  exact ⟨hu, hJ _ _ c.world⟩
/-- one that leaves the world as it is -/
theorem vstep_pure (ho : ops[i]? = some o) (hw : ∀ L a w, VCtx ops D J a0 i L a w → Region.wanted o (yielded ops a.tmps) = true) (hJ : ∀ L w, J L w → J (upd L i) w)
    (h : ∀ L a w, VCtx ops D J a0 i L a w → ∃ v, (execOp a.eval o).run P w = .ok (.value v) w ∧ D i v) : VStep P ops Q D J a0 i := by
  intro o' ho' L a w c
  rw [ho] at ho'
  obtain rfl := Option.some.inj ho'
  rw [if_pos (hw L a w c)]
  obtain ⟨v, hr, hv⟩ := h L a w c
  unfold Oper.wp
  rw [hr]
  exact ⟨v, rfl, hv, hJ _ _ c.world⟩
theorem vstep_copy (ho : ops[i]? = some o) (hw : ∀ L a w, VCtx ops D J a0 i L a w → Region.wanted o (yielded ops a.tmps) = true) (hJ : ∀ L w, J L w → J (upd L i) w) (t : Tmp) (hop : o.op = .move (.tmp t) ∨ o.op = .assign (.tmp t))
    (k : Nat) (hk : (preds ops 3 i).contains k = true) (hkd : dstOf ops k = some t) (hD : ∀ v, D k v → D i v) : VStep P ops Q D J a0 i :=
  vstep_pure ho hw hJ fun L a w c => ⟨a.tmps.getD t undef, by rcases hop with h | h <;> simp [execOp, h, Act.eval], hD _ (c.pred k t (by simpa using hk) hkd)⟩
theorem vstep_first (ho : ops[i]? = some o) (hw : ∀ L a w, VCtx ops D J a0 i L a w → Region.wanted o (yielded ops a.tmps) = true) (hJ : ∀ L w, J L w → J (upd L i) w) (t : Tmp) (hop : o.op = .move (.tmp t) ∨ o.op = .assign (.tmp t))
    (ht : origB ops i t = true) (hD : D i (a0.tmps.getD t undef)) : VStep P ops Q D J a0 i :=
  vstep_pure ho hw hJ fun L a w c => ⟨a.tmps.getD t undef, by rcases hop with h | h <;> simp [execOp, h, Act.eval], by rw [c.orig t ht]; exact hD⟩
theorem vstep_const (ho : ops[i]? = some o) (hw : ∀ L a w, VCtx ops D J a0 i L a w → Region.wanted o (yielded ops a.tmps) = true) (hJ : ∀ L w, J L w → J (upd L i) w) (v : Value) (hop : o.op = .move (.const v) ∨ o.op = .assign (.const v)) (hD : D i v) : VStep P ops Q D J a0 i :=
  vstep_pure ho hw hJ fun L a w _ => ⟨v, by rcases hop with h | h <;> simp [execOp, h, Act.eval], hD⟩
/-- whatever reads one slot that an operation ahead of it has written -/
theorem vstep_one (ho : ops[i]? = some o) (hw : ∀ L a w, VCtx ops D J a0 i L a w → Region.wanted o (yielded ops a.tmps) = true) (hJ : ∀ L w, J L w → J (upd L i) w) (x : Tmp)
    (kx : Nat) (hkx : (preds ops 3 i).contains kx = true) (hx : dstOf ops kx = some x)
    (h : ∀ L (a : Act) w, J L w → D kx (a.tmps.getD x undef) → ∃ v, (execOp a.eval o).run P w = .ok (.value v) w ∧ D i v) : VStep P ops Q D J a0 i :=
  vstep_pure ho hw hJ fun L a w c => h L a w c.world (c.pred kx x (by simpa using hkx) hx)
/-- whatever reads two -/
theorem vstep_two (ho : ops[i]? = some o) (hw : ∀ L a w, VCtx ops D J a0 i L a w → Region.wanted o (yielded ops a.tmps) = true) (hJ : ∀ L w, J L w → J (upd L i) w) (x y : Tmp)
    (kx ky : Nat) (hkx : (preds ops 3 i).contains kx = true) (hky : (preds ops 3 i).contains ky = true) (hx : dstOf ops kx = some x) (hy : dstOf ops ky = some y)
    (h : ∀ L (a : Act) w, J L w → D kx (a.tmps.getD x undef) → D ky (a.tmps.getD y undef) → ∃ v, (execOp a.eval o).run P w = .ok (.value v) w ∧ D i v) : VStep P ops Q D J a0 i :=
  vstep_pure ho hw hJ fun L a w c => h L a w c.world (c.pred kx x (by simpa using hkx) hx) (c.pred ky y (by simpa using hky) hy)
theorem vstep_field (ho : ops[i]? = some o) (hw : ∀ L a w, VCtx ops D J a0 i L a w → Region.wanted o (yielded ops a.tmps) = true) (hJ : ∀ L w, J L w → J (upd L i) w) (x : Tmp) (s : TypeId) (f : Nat) (hop : o.op = .fieldAddr s (.tmp x) f)
    (kx : Nat) (hkx : (preds ops 3 i).contains kx = true) (hx : dstOf ops kx = some x) (v r : Value) (hDx : ∀ u, D kx u → u = v) (hD : D i r) (hr : ∀ w, (Instr.fieldAt s v f).run P w = .ok r w) : VStep P ops Q D J a0 i :=
  vstep_one ho hw hJ x kx hkx hx fun L a w _ h => by
    have h := hDx _ h
    refine ⟨r, ?_, hD⟩
    simp only [execOp, hop, Act.eval, h]
    rw [Sem.run_bind, hr w]
    rfl
theorem vstep_load (ho : ops[i]? = some o) (hw : ∀ L a w, VCtx ops D J a0 i L a w → Region.wanted o (yielded ops a.tmps) = true) (hJ : ∀ L w, J L w → J (upd L i) w) (x : Tmp) (ty : TypeId) (hop : o.op = .load ty (.tmp x))
    (kx : Nat) (hkx : (preds ops 3 i).contains kx = true) (hx : dstOf ops kx = some x) (p r : Value) (hDx : ∀ u, D kx u → u = p) (hD : D i r) (hr : ∀ L w, J L w → (Instr.loadAt ty p).run P w = .ok r w) : VStep P ops Q D J a0 i :=
  vstep_one ho hw hJ x kx hkx hx fun L a w hj h => by
    have h := hDx _ h
    refine ⟨r, ?_, hD⟩
    simp only [execOp, hop, Act.eval, h]
    rw [Sem.run_bind, hr L w hj]
    rfl
theorem vstep_call (ho : ops[i]? = some o) (hw : ∀ L a w, VCtx ops D J a0 i L a w → Region.wanted o (yielded ops a.tmps) = true) (f : FuncId) (args : Array Operand) (ts : Array TypeId)
    (hop : o.op = .call { callee := .value (.func f), args := args, argTypes := ts }) (he : ∀ vs w, (callFunc f vs).run P w = .ok (.enter f vs) w)
    (h : ∀ L a w, VCtx ops D J a0 i L a w → Calls P f (args.map a.eval) w fun e w' => ∃ v, e = .returned v ∧ D i v ∧ J (upd L i) w') : VStep P ops Q D J a0 i := by
  intro o' ho' L a w c
  rw [ho] at ho'
  obtain rfl := Option.some.inj ho'
  rw [if_pos (hw L a w c)]
  have hr : (execOp a.eval o).run P w = .ok (.enter f (args.map a.eval)) w := by
    simp [execOp, hop, resolve, Deferred.ofValue, Act.eval, invoke, he]
  unfold Oper.wp
  rw [hr]
  refine (h L a w c).mono ?_
  rintro e w' ⟨v, rfl, hv, hb⟩
  exact ⟨v, rfl, hv, hb⟩
theorem vstep_call3 (ho : ops[i]? = some o) (hw : ∀ L a w, VCtx ops D J a0 i L a w → Region.wanted o (yielded ops a.tmps) = true) (f : FuncId) (x y z : Tmp) (ts : Array TypeId)
    (hop : o.op = .call { callee := .value (.func f), args := #[.tmp x, .tmp y, .tmp z], argTypes := ts }) (he : ∀ vs w, (callFunc f vs).run P w = .ok (.enter f vs) w)
    (kx ky kz : Nat) (hkx : (preds ops 3 i).contains kx = true) (hky : (preds ops 3 i).contains ky = true) (hkz : (preds ops 3 i).contains kz = true) (hx : dstOf ops kx = some x) (hy : dstOf ops ky = some y) (hz : dstOf ops kz = some z)
    (h : ∀ L u v t w, J L w → L i = false → (∀ k, k ∈ preds ops 3 i → L k = true) → D kx u → D ky v → D kz t → Calls P f #[u, v, t] w fun e w' => ∃ v, e = .returned v ∧ D i v ∧ J (upd L i) w') : VStep P ops Q D J a0 i :=
  vstep_call ho hw f #[.tmp x, .tmp y, .tmp z] ts hop he fun L a w c => by
    have e : (#[Operand.tmp x, Operand.tmp y, Operand.tmp z]).map a.eval = #[a.tmps.getD x undef, a.tmps.getD y undef, a.tmps.getD z undef] := by simp [Act.eval]
    rw [e]
    exact h L _ _ _ w c.world c.fresh c.ahead (c.pred kx x (by simpa using hkx) hx) (c.pred ky y (by simpa using hky) hy) (c.pred kz z (by simpa using hkz) hz)
theorem vstep_index (ho : ops[i]? = some o) (hw : ∀ L a w, VCtx ops D J a0 i L a w → Region.wanted o (yielded ops a.tmps) = true) (hJ : ∀ L w, J L w → J (upd L i) w) (x y : Tmp) (t : TypeId) (hop : o.op = .indexAddr t (.tmp x) (.tmp y))
    (kx ky : Nat) (hkx : (preds ops 3 i).contains kx = true) (hky : (preds ops 3 i).contains ky = true) (hx : dstOf ops kx = some x) (hy : dstOf ops ky = some y)
    (vx vy r : Value) (hDx : ∀ u, D kx u → u = vx) (hDy : ∀ u, D ky u → u = vy) (hD : D i r) (hr : ∀ w, (Instr.indexAt t vx vy).run P w = .ok r w) : VStep P ops Q D J a0 i :=
  vstep_two ho hw hJ x y kx ky hkx hky hx hy fun L a w _ h1 h2 => by
    have h1 := hDx _ h1
    have h2 := hDy _ h2
    refine ⟨r, ?_, hD⟩
    simp only [execOp, hop, Act.eval, h1, h2]
    rw [Sem.run_bind, hr w]
    rfl
theorem vstep_bin (ho : ops[i]? = some o) (hw : ∀ L a w, VCtx ops D J a0 i L a w → Region.wanted o (yielded ops a.tmps) = true) (hJ : ∀ L w, J L w → J (upd L i) w) (op : BinOp) (T T' : TypeId) (x y : Tmp) (hop : o.op = .binOp op T (.tmp x) (.tmp y) T')
    (kx ky : Nat) (hkx : (preds ops 3 i).contains kx = true) (hky : (preds ops 3 i).contains ky = true) (hx : dstOf ops kx = some x) (hy : dstOf ops ky = some y) (vx vy r : Value) (hDx : ∀ u, D kx u → u = vx) (hDy : ∀ u, D ky u → u = vy) (hD : D i r)
    (hv : ∀ w, (do eqGuard op T (.tmp x) (.tmp y) vx vy; binOp op T vx vy : Sem Value).run P w = .ok r w) : VStep P ops Q D J a0 i :=
  vstep_two ho hw hJ x y kx ky hkx hky hx hy fun L a w _ h1 h2 => by
    have h1 := hDx _ h1
    have h2 := hDy _ h2
    refine ⟨r, ?_, hD⟩
    have h3 := hv w
    simp only [execOp, hop, Act.eval, h1, h2]
    rw [Sem.run_bind, h3]
    rfl
theorem vstep_binc (ho : ops[i]? = some o) (hw : ∀ L a w, VCtx ops D J a0 i L a w → Region.wanted o (yielded ops a.tmps) = true) (hJ : ∀ L w, J L w → J (upd L i) w) (op : BinOp) (T T' : TypeId) (x : Tmp) (vy : Value) (hop : o.op = .binOp op T (.tmp x) (.const vy) T')
    (kx : Nat) (hkx : (preds ops 3 i).contains kx = true) (hx : dstOf ops kx = some x) (vx r : Value) (hDx : ∀ u, D kx u → u = vx) (hD : D i r)
    (hv : ∀ w, (do eqGuard op T (.tmp x) (.const vy) vx vy; binOp op T vx vy : Sem Value).run P w = .ok r w) : VStep P ops Q D J a0 i :=
  vstep_one ho hw hJ x kx hkx hx fun L a w _ h1 => by
    have h1 := hDx _ h1
    refine ⟨r, ?_, hD⟩
    have h3 := hv w
    simp only [execOp, hop, Act.eval, h1]
    rw [Sem.run_bind, h3]
    rfl
end
end Nac
