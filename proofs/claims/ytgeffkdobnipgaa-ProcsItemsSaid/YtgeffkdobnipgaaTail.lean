/- A region that draws its order, of which the last operations come in one order: the first ones in any order, each slot's value known; then the last ones as a list. Over whatever program. -/
import Derived.Test.YtgeffkdobnipgaaVal
namespace Nac
open Go Go.RowKit
def depsOf (ops : Array Oper) (i : Nat) : List Nat := match ops[i]? with
  | none => []
  | some o => (o.after.toList.filter fun e => Region.binds .any e).map (·.on)
/-- all that must have come ahead, from the set s on -/
def closOf (ops : Array Oper) : Nat → List Nat → List Nat
  | 0, s => s
  | j + 1, s => closOf ops j (if s.contains j then s ++ depsOf ops j else s)
/-- each operation from p on comes behind all that stand ahead of it -/
def chainB (ops : Array Oper) (p : Nat) : Bool := decide (p ≤ ops.size) && (List.range ops.size).all fun i => decide (i < p) || (List.range i).all fun j => (closOf ops i (depsOf ops i)).contains j
section
variable {P : Program} {ops : Array Oper} {Q : Exit → Act → World → Prop} {D : Nat → Value → Prop} {J : (Nat → Bool) → World → Prop} {a0 : Act}
theorem clos_listed {listed : Array Bool} (hc : ∀ i o, ops[i]? = some o → listed.getD i false = true → ∀ e ∈ o.after, Region.binds .any e = true → listed.getD e.on false = true) :
    ∀ (n : Nat) (s : List Nat), (∀ x ∈ s, listed.getD x false = true) → ∀ x ∈ closOf ops n s, listed.getD x false = true := by
  intro n
  induction n with
  | zero => intro s hs x hx; exact hs x hx
  | succ n ih =>
    intro s hs x hx
    unfold closOf at hx
    refine ih _ ?_ x hx
    intro y hy
    split at hy
    · rename_i hcn
      rcases List.mem_append.1 hy with h | h
      · exact hs y h
      · unfold depsOf at h
        cases ho : ops[n]? with
        | none => simp [ho] at h
        | some o =>
          simp only [ho, List.mem_map, List.mem_filter, Array.mem_toList_iff] at h
          obtain ⟨e, ⟨he, hb⟩, rfl⟩ := h
          exact hc n o ho (hs n (by simpa using hcn)) e he hb
    · exact hs y hy
theorem chain_listed {listed : Array Bool} {p i : Nat} (hch : chainB ops p = true) (hc : ∀ i o, ops[i]? = some o → listed.getD i false = true → ∀ e ∈ o.after, Region.binds .any e = true → listed.getD e.on false = true)
    (hi : i < ops.size) (hp : p ≤ i) (hr : ∀ o, ops[i]? = some o → ∀ e ∈ o.after, Region.binds .any e = true → listed.getD e.on false = true) : ∀ j, j < i → listed.getD j false = true := by
  intro j hj
  unfold chainB at hch
  rw [Bool.and_eq_true, List.all_eq_true] at hch
  have h1 := hch.2 i (by simpa using hi)
  have hnp : decide (i < p) = false := by simpa using hp
  rw [hnp, Bool.false_or, List.all_eq_true] at h1
  have h2 := h1 j (by simpa using hj)
  refine clos_listed hc i _ ?_ j (by simpa using h2)
  intro x hx
  unfold depsOf at hx
  cases ho : ops[i]? with
  | none => simp [ho] at hx
  | some o =>
    simp only [ho, List.mem_map, List.mem_filter, Array.mem_toList_iff] at hx
    obtain ⟨e, ⟨he, hb⟩, rfl⟩ := hx
    exact hr o ho e he hb
theorem tail_any {p : Nat} (hch : chainB ops p = true) (hbk : backB ops = true) : ∀ (fuel : Nat) (listed : Array Bool) (a : Act) (w : World) (i : Nat), p ≤ i → i ≤ ops.size → listed.size = ops.size → falses listed ≤ fuel →
    (∀ j, j < i → listed.getD j false = true) → (∀ j, i ≤ j → listed.getD j false = false) →
    (∀ i o, ops[i]? = some o → listed.getD i false = true → ∀ e ∈ o.after, Region.binds .any e = true → listed.getD e.on false = true) →
    wpList P ops Q (ops.toList.drop i) a w → wpAny P .any ops Q fuel listed a w := by
  intro fuel
  have hend : ∀ (a : Act) (w : World) (i : Nat), ¬ i < ops.size → wpList P ops Q (ops.toList.drop i) a w → Q .normal a w := by
    intro a w i hi h
    rw [List.drop_eq_nil_of_le (by simpa using hi)] at h
    exact h
  induction fuel with
  | zero =>
    intro listed a w i hp hi hs hf h1 h2 hc h
    have hn : ¬ i < ops.size := fun hlt => by
      have := falses_zero listed (by omega) i (by omega)
      rw [h2 i (Nat.le_refl _)] at this
      cases this
    refine ⟨?_, hend a w i hn h⟩
    apply List.eq_nil_iff_forall_not_mem.2
    intro x hx
    obtain ⟨g1, g2, _⟩ := ready_of hx hs
    rw [h1 x (by omega)] at g2
    cases g2
  | succ fuel ih =>
    intro listed a w i hp hi hs hf h1 h2 hc h
    refine ⟨fun hr => ?_, fun x hx => ?_⟩
    · refine hend a w i (fun hlt => ?_) h
      exact absurd hr (ready_ex hbk hs i hlt (h2 i (Nat.le_refl _)))
    · obtain ⟨g1, g2, o, ho, hready⟩ := ready_of hx hs
      have hge : i ≤ x := by
        rcases Nat.lt_or_ge x i with hlt | hge
        · rw [h1 x hlt] at g2; cases g2
        · exact hge
      have hxi : x = i := by
        rcases Nat.lt_or_ge i x with hlt | hle
        · have := chain_listed hch hc g1 (by omega) (fun o' ho' => by rw [ho] at ho'; obtain rfl := Option.some.inj ho'; exact hready) i hlt
          rw [h2 i (Nat.le_refl _)] at this
          cases this
        · omega
      subst hxi
      have hfl : falses (listed.setIfInBounds x true) ≤ fuel := by
        have := falses_set listed x (by omega) g2
        omega
      have hd : ops.toList.drop x = o :: ops.toList.drop (x + 1) := by
        rw [List.drop_eq_getElem_cons (by simpa using g1)]
        congr 1
        have := Array.getElem?_eq_getElem g1
        rw [this] at ho
        simpa using Option.some.inj ho
      rw [hd] at h
      have next : ∀ a' w', wpList P ops Q (ops.toList.drop (x + 1)) a' w' → wpAny P .any ops Q fuel (listed.setIfInBounds x true) a' w' := by
        intro a' w' h'
        refine ih _ a' w' (x + 1) (by omega) g1 (by simpa using hs) hfl ?_ ?_ ?_ h'
        · intro j hj
          rw [getD_setIf _ _ _ (by omega)]
          split
          · rfl
          · exact h1 j (by omega)
        · intro j hj
          rw [getD_setIf _ _ _ (by omega), if_neg (by omega)]
          exact h2 j (by omega)
        · intro j oj hj hl e he hb
          rw [getD_setIf _ _ _ (by omega)] at hl ⊢
          by_cases hex : x = e.on
          · rw [if_pos hex]
          · rw [if_neg hex]
            by_cases hxj : x = j
            · subst hxj
              rw [ho] at hj
              obtain rfl := Option.some.inj hj
              exact hready e he hb
            · rw [if_neg hxj] at hl
              exact hc j oj hj hl e he hb
      unfold wpOp
      rw [ho]
      simp only
      unfold wpList at h
      split
      · rename_i hw
        rw [if_pos hw] at h
        rcases h with h | h
        · exact Or.inl (Oper.wp_mono next h)
        · exact Or.inr h
      · rename_i hw
        rw [if_neg hw] at h
        exact next _ _ h
theorem val_tail {p : Nat} (hch : chainB ops p = true) (hd : distinctB ops a0.tmps.size = true) (hbk : backB ops = true)
    (step : ∀ i, i < p → VStep P ops Q D J a0 i)
    (fin : ∀ L a w, (∀ i, i < p → L i = true) → J L w → a.defers = a0.defers → a.tmps.size = a0.tmps.size → (∀ i d, i < p → dstOf ops i = some d → D i (a.tmps.getD d undef)) → (∀ t, (∀ i, i < p → dstOf ops i ≠ some t) → a.tmps.getD t undef = a0.tmps.getD t undef) → wpList P ops Q (ops.toList.drop p) a w) :
    ∀ (fuel : Nat) (listed : Array Bool) (a : Act) (w : World), falses listed ≤ fuel → (∀ j, p ≤ j → listed.getD j false = false) → VInv ops D J a0 listed a w → wpAny P .any ops Q fuel listed a w := by
  have hps : p ≤ ops.size := by
    unfold chainB at hch
    rw [Bool.and_eq_true] at hch
    simpa using hch.1
  have hall : ∀ (fuel : Nat) (listed : Array Bool) (a : Act) (w : World), falses listed ≤ fuel → (∀ j, p ≤ j → listed.getD j false = false) → VInv ops D J a0 listed a w → (∀ j, j < p → listed.getD j false = true) → wpAny P .any ops Q fuel listed a w := by
    intro fuel listed a w hf hz hI hl
    refine tail_any hch hbk fuel listed a w p (Nat.le_refl _) hps hI.size hf hl hz hI.closed ?_
    refine fin _ a w (fun i hi => hl i hi) hI.world hI.defers hI.tsize (fun i d hi h => hI.done i d (hl i hi) h) (fun t ht => hI.rest t fun i hli => ht i ?_)
    rcases Nat.lt_or_ge i p with h | h
    · exact h
    · rw [hz i h] at hli; cases hli
  intro fuel
  induction fuel with
  | zero =>
    intro listed a w hf hz hI
    exact hall 0 listed a w hf hz hI fun i hi => falses_zero listed (by omega) i (by rw [hI.size]; omega)
  | succ fuel ih =>
    intro listed a w hf hz hI
    by_cases hdone : ∀ j, j < p → listed.getD j false = true
    · exact hall _ listed a w hf hz hI hdone
    have hnd : ∃ j, j < p ∧ listed.getD j false = false := by
      apply Classical.byContradiction
      intro h
      refine hdone fun j hj => ?_
      cases hb : listed.getD j false
      · exact absurd ⟨j, hj, hb⟩ h
      · rfl
    obtain ⟨j0, hj0, hl0⟩ := hnd
    refine ⟨fun hr => absurd hr (ready_ex hbk hI.size j0 (by omega) hl0), fun i hi => ?_⟩
    obtain ⟨h1, h2, o, ho, hready⟩ := ready_of hi hI.size
    have hip : i < p := by
      rcases Nat.lt_or_ge i p with h | h
      · exact h
      · have := chain_listed hch hI.closed h1 h (fun o' ho' => by rw [ho] at ho'; obtain rfl := Option.some.inj ho'; exact hready) j0 (by omega)
        rw [hl0] at this
        cases this
    have hctx : VCtx ops D J a0 i (fun k => listed.getD k false) a w := by
      have hpc := preds_closed hI.closed 3 i (fun o' ho' => by rw [ho] at ho'; obtain rfl := Option.some.inj ho'; exact hready)
      refine ⟨hI.world, hI.tsize, h2, hpc, fun k d hk hkd => hI.done k d (hpc k hk) hkd, fun t ht => hI.rest t fun k hl hkd => ?_⟩
      unfold origB at ht
      rw [List.all_eq_true] at ht
      have hk : k < ops.size := by
        rcases Nat.lt_or_ge k ops.size with h | h
        · exact h
        · simp [dstOf, Array.getElem?_eq_none h] at hkd
      have h3 := ht k (by simpa using hk)
      rw [hkd] at h3
      simp only [bne_self_eq_false, Bool.false_or, List.contains_iff_mem] at h3
      have := preds_closed hI.closed 3 k (fun o' ho' e he hb' => hI.closed k o' ho' hl e he hb') i h3
      rw [h2] at this
      cases this
    have hs := step i hip o ho _ a w hctx
    have hfl : falses (listed.setIfInBounds i true) ≤ fuel := by
      have := falses_set listed i (by rw [hI.size]; exact h1) h2
      omega
    have hz' : ∀ j, p ≤ j → (listed.setIfInBounds i true).getD j false = false := fun j hj => by
      rw [getD_setIf _ _ _ (by rw [hI.size]; exact h1), if_neg (by omega)]
      exact hz j hj
    unfold wpOp
    rw [ho]
    simp only
    split
    · rename_i hw
      rw [if_pos hw] at hs
      refine Or.inl (Oper.wp_mono ?_ hs)
      rintro a' w' ⟨v, rfl, hv, hb⟩
      exact ih _ _ _ hfl hz' (val_put hI h1 ho hd hready hv hb)
    · rename_i hw
      rw [if_neg hw] at hs
      exact ih _ _ _ hfl hz' (val_put hI h1 ho hd hready hs.1 hs.2)
/-- THE LAW: the first p operations in any order, each slot's value known; then the rest as a list -/
theorem region_tail {id : Nat} {a0 : Act} {w0 : World} (p : Nat) (V : List Value) (ds : List (Option Tmp)) (J : (Nat → Bool) → World → Prop) (hm : P.follows .mixedOrders = true) (hd : distinctB ops a0.tmps.size = true) (hbk : backB ops = true)
    (hch : chainB ops p = true) (hds : (ops.toList.take p).map (·.dst) = ds) (hV : V.length = ds.length)
    (h0 : J (fun _ => false) w0.drew)
    (step : ∀ i, i < p → VStep P ops Q (fun i v => v = V.getD i undef) J a0 i)
    (fin : ∀ L w, (∀ i, i < p → L i = true) → J L w → wpList P ops Q (ops.toList.drop p) (putsL (ds.zip V) a0) w) :
    (Code.region id ops true).wp P Q a0 w0 := by
  refine wp_region_any hm ?_
  have hps : p ≤ ops.size := by
    unfold chainB at hch
    rw [Bool.and_eq_true] at hch
    simpa using hch.1
  have hg : ∀ i, (Array.replicate ops.size false).getD i false = false := by
    intro i
    rw [Array.getD_eq_getD_getElem?, Array.getElem?_replicate]
    split <;> rfl
  refine val_tail (D := fun i v => v = V.getD i undef) (J := J) (a0 := a0) hch hd hbk step (fun L a w hall hJ hde hts hs hr => ?_) _ _ _ _ ?_ (fun j _ => hg j) ⟨by simp, ?_, rfl, rfl, fun i o _ h => (by rw [hg] at h; cases h), fun i d h => (by rw [hg] at h; cases h), fun _ _ => rfl⟩
  · have hdi : ∀ i, i < p → dstOf ops i = (ds[i]?).join := by
      intro i hi
      rw [← hds, List.getElem?_map, List.getElem?_take_of_lt hi, Array.getElem?_toList]
      unfold dstOf
      cases ops[i]? <;> rfl
    have hsz : p = ds.length := by rw [← hds]; simp; omega
    have e := putsL_eq (a0 := a0) (a := a) (l := ds.zip V) hde hts ?_ ?_
    · rw [e]
      exact fin L w hall hJ
    · intro x hx t ht
      obtain ⟨i, hi⟩ := List.mem_iff_getElem?.1 hx
      obtain ⟨h1, h2⟩ := List.getElem?_zip_eq_some.1 hi
      have hil : i < p := by rw [hsz]; exact (List.getElem?_eq_some_iff.1 h1).1
      have := hs i t hil (by rw [hdi i hil, h1]; exact ht)
      rw [this, List.getD_eq_getElem?_getD, h2]
      rfl
    · intro t ht
      refine hr t fun i hil hdt => ?_
      rw [hdi i hil] at hdt
      have h1 : i < ds.length := by omega
      have h2 : i < V.length := by omega
      rw [List.getElem?_eq_getElem h1] at hdt
      exact ht (ds[i], V[i]) (List.mem_iff_getElem?.2 ⟨i, List.getElem?_zip_eq_some.2 ⟨List.getElem?_eq_getElem h1, List.getElem?_eq_getElem h2⟩⟩) hdt
  · unfold falses
    simp
  · rw [show (fun i => (Array.replicate ops.size false).getD i false) = fun _ => false from funext hg]
    exact h0
end
end Nac
