/- As XTail, where the first operations only let memory grow, and a slot's value may be known by what it reads as. Over whatever program. -/
import Derived.Test.YtgeffkdobnipgaaTail
import Derived.Test.YtgeffkdobnipgaaMonoV
namespace Nac
open Go Go.RowKit
section
variable {P : Program} {ops : Array Oper} {Q : Exit → Act → World → Prop} {D : Nat → VD} {a0 : Act} {W0 : World}
theorem mono_tail {p : Nat} (hch : chainB ops p = true) (hd : distinctB ops a0.tmps.size = true) (hbk : backB ops = true)
    (step : ∀ i, i < p → MStep P ops Q D a0 W0 i)
    (fin : ∀ a w, Below W0.heap.size W0 w → a.defers = a0.defers → a.tmps.size = a0.tmps.size → (∀ i d, i < p → dstOf ops i = some d → (D i).ok (a.tmps.getD d undef) w) → (∀ t, (∀ i, i < p → dstOf ops i ≠ some t) → a.tmps.getD t undef = a0.tmps.getD t undef) → wpList P ops Q (ops.toList.drop p) a w) :
    ∀ (fuel : Nat) (listed : Array Bool) (a : Act) (w : World), falses listed ≤ fuel → (∀ j, p ≤ j → listed.getD j false = false) → MInv ops D a0 W0 listed a w → wpAny P .any ops Q fuel listed a w := by
  have hps : p ≤ ops.size := by
    unfold chainB at hch
    rw [Bool.and_eq_true] at hch
    simpa using hch.1
  have hall : ∀ (fuel : Nat) (listed : Array Bool) (a : Act) (w : World), falses listed ≤ fuel → (∀ j, p ≤ j → listed.getD j false = false) → MInv ops D a0 W0 listed a w → (∀ j, j < p → listed.getD j false = true) → wpAny P .any ops Q fuel listed a w := by
    intro fuel listed a w hf hz hI hl
    refine tail_any hch hbk fuel listed a w p (Nat.le_refl _) hps hI.size hf hl hz hI.closed ?_
    refine fin a w hI.below hI.defers hI.tsize (fun i d hi h => hI.done i d (hl i hi) h) (fun t ht => hI.rest t fun i hli => ht i ?_)
    rcases Nat.lt_or_ge i p with h | h
    · exact h
    · rw [hz i h] at hli; cases hli
  intro fuel
  induction fuel with
  | zero =>
    intro listed a w hf hz hI
    exact hall 0 listed a w hf hz hI fun i hi => falses_zero listed (by omega) i (by rw [hI.size]; omega)
  | succ fuel ih =>
    intro listed a w hf hz hI
    by_cases hdone : ∀ j, j < p → listed.getD j false = true
    · exact hall _ listed a w hf hz hI hdone
    have hnd : ∃ j, j < p ∧ listed.getD j false = false := by
      apply Classical.byContradiction
      intro h
      refine hdone fun j hj => ?_
      cases hb : listed.getD j false
      · exact absurd ⟨j, hj, hb⟩ h
      · rfl
    obtain ⟨j0, hj0, hl0⟩ := hnd
    refine ⟨fun hr => absurd hr (ready_ex hbk hI.size j0 (by omega) hl0), fun i hi => ?_⟩
    obtain ⟨h1, h2, o, ho, hready⟩ := ready_of hi hI.size
    have hip : i < p := by
      rcases Nat.lt_or_ge i p with h | h
      · exact h
      · have := chain_listed hch hI.closed h1 h (fun o' ho' => by rw [ho] at ho'; obtain rfl := Option.some.inj ho'; exact hready) j0 (by omega)
        rw [hl0] at this
        cases this
    have hctx : MCtx ops D a0 W0 i a w := by
      have hpc := preds_closed hI.closed 3 i (fun o' ho' => by rw [ho] at ho'; obtain rfl := Option.some.inj ho'; exact hready)
      refine ⟨hI.below, hI.tsize, fun k d hk hkd => hI.done k d (hpc k hk) hkd, fun t ht => hI.rest t fun k hl hkd => ?_⟩
      unfold origB at ht
      rw [List.all_eq_true] at ht
      have hk : k < ops.size := by
        rcases Nat.lt_or_ge k ops.size with h | h
        · exact h
        · simp [dstOf, Array.getElem?_eq_none h] at hkd
      have h3 := ht k (by simpa using hk)
      rw [hkd] at h3
      simp only [bne_self_eq_false, Bool.false_or, List.contains_iff_mem] at h3
      have := preds_closed hI.closed 3 k (fun o' ho' e he hb' => hI.closed k o' ho' hl e he hb') i h3
      rw [h2] at this
      cases this
    have hs := step i hip o ho a w hctx
    have hfl : falses (listed.setIfInBounds i true) ≤ fuel := by
      have := falses_set listed i (by rw [hI.size]; exact h1) h2
      omega
    have hz' : ∀ j, p ≤ j → (listed.setIfInBounds i true).getD j false = false := fun j hj => by
      rw [getD_setIf _ _ _ (by rw [hI.size]; exact h1), if_neg (by omega)]
      exact hz j hj
    unfold wpOp
    rw [ho]
    simp only
    split
    · rename_i hw
      rw [if_pos hw] at hs
      refine Or.inl (Oper.wp_mono ?_ hs)
      rintro a' w' ⟨v, rfl, hv, hb⟩
      exact ih _ _ _ hfl hz' (mono_put hI h1 ho hd hready hv hb)
    · rename_i hw
      rw [if_neg hw] at hs
      exact ih _ _ _ hfl hz' (mono_put hI h1 ho hd hready hs (Below.refl _ _))
/-- THE LAW -/
theorem region_tails {id : Nat} {a0 : Act} {w0 : World} (p : Nat) (D : Nat → VD) (ds : List (Option Tmp)) (hm : P.follows .mixedOrders = true) (hd : distinctB ops a0.tmps.size = true) (hbk : backB ops = true)
    (hch : chainB ops p = true) (hds : (ops.toList.take p).map (·.dst) = ds)
    (step : ∀ i, i < p → MStep P ops Q D a0 w0.drew i)
    (fin : ∀ V w, V.length = ds.length → Below w0.heap.size w0 w → (∀ i d, ds[i]? = some (some d) → (D i).ok (V.getD i undef) w) → wpList P ops Q (ops.toList.drop p) (putsL (ds.zip V) a0) w) :
    (Code.region id ops true).wp P Q a0 w0 := by
  refine wp_region_any hm ?_
  have hps : p ≤ ops.size := by
    unfold chainB at hch
    rw [Bool.and_eq_true] at hch
    simpa using hch.1
  have hg : ∀ i, (Array.replicate ops.size false).getD i false = false := by
    intro i
    rw [Array.getD_eq_getD_getElem?, Array.getElem?_replicate]
    split <;> rfl
  refine mono_tail (D := D) (a0 := a0) (W0 := w0.drew) hch hd hbk step (fun a w hb' hde hts hs hr => ?_) _ _ _ _ ?_ (fun j _ => hg j) ⟨by simp, Below.refl _ _, rfl, rfl, fun i o _ h => (by rw [hg] at h; cases h), fun i d h => (by rw [hg] at h; cases h), fun _ _ => rfl⟩
  · have hb : Below w0.heap.size w0 w := ⟨hb'.os, hb'.tape, hb'.output, hb'.size, hb'.block⟩
    have hlt : ∀ i x, ds[i]? = some x → i < p := by
      intro i x h
      have := (List.getElem?_eq_some_iff.1 h).1
      rw [← hds] at this
      simp at this
      omega
    have hdi : ∀ i d, ds[i]? = some (some d) → dstOf ops i = some d := by
      intro i d h
      have hi := hlt i _ h
      rw [← hds, List.getElem?_map, List.getElem?_take_of_lt hi, Array.getElem?_toList] at h
      unfold dstOf
      cases ho : ops[i]? with
      | none => rw [ho] at h; cases h
      | some o => rw [ho] at h; simpa using h
    have hdi' : ∀ i d, i < p → dstOf ops i = some d → ds[i]? = some (some d) := by
      intro i d hi h
      rw [← hds, List.getElem?_map, List.getElem?_take_of_lt hi, Array.getElem?_toList]
      unfold dstOf at h
      cases ho : ops[i]? with
      | none => rw [ho] at h; cases h
      | some o => rw [ho] at h; simpa using h
    have e := putsL_eq (a0 := a0) (a := a) (l := ds.zip (slotsOf a.tmps ds)) hde hts ?_ ?_
    · rw [e]
      refine fin _ w (by simp [slotsOf]) hb fun i d h => ?_
      have := hs i d (hlt i _ h) (hdi i d h)
      have e2 : (slotsOf a.tmps ds).getD i undef = a.tmps.getD d undef := by
        unfold slotsOf
        rw [List.getD_eq_getElem?_getD, List.getElem?_map, h]
        rfl
      rw [e2]
      exact this
    · intro x hx t ht
      obtain ⟨i, hi⟩ := List.mem_iff_getElem?.1 hx
      obtain ⟨h1, h2⟩ := List.getElem?_zip_eq_some.1 hi
      unfold slotsOf at h2
      rw [List.getElem?_map, h1] at h2
      obtain ⟨d, v⟩ := x
      simp only at ht h1 h2
      subst ht
      simpa using h2
    · intro t ht
      refine hr t fun i hip hdt => ?_
      have h1 := hdi' i t hip hdt
      have h3 : (slotsOf a.tmps ds)[i]? = some (a.tmps.getD t undef) := by
        unfold slotsOf
        rw [List.getElem?_map, h1]
        rfl
      exact ht (some t, a.tmps.getD t undef) (List.mem_iff_getElem?.2 ⟨i, List.getElem?_zip_eq_some.2 ⟨h1, h3⟩⟩) rfl
  · unfold falses
    simp
end
end Nac
