/- A region that draws its order, whose last operation (behind all others) may write: the others only let memory grow. Over whatever program. -/
import Derived.Test.YtdjphdkoljfndaaMono
namespace Nac
open Go Go.RowKit
section
variable {P : Program} {ops : Array Oper} {Q : Exit → Act → World → Prop} {D : Nat → VD} {a0 : Act} {W0 : World}
/-- all operations but 'last' have come ahead of it -/
def lastB (ops : Array Oper) (last : Nat) : Bool := (List.range ops.size).all fun i => i == last || (preds ops 9 last).contains i
theorem mono_anyL (last : Nat) (hlast : last < ops.size) (hla : lastB ops last = true) (hd : distinctB ops a0.tmps.size = true) (hbk : backB ops = true)
    (step : ∀ i, i < ops.size → i ≠ last → MStep P ops Q D a0 W0 i)
    (fin : ∀ o a w, ops[last]? = some o → Below W0.heap.size W0 w → a.defers = a0.defers → a.tmps.size = a0.tmps.size → (∀ i d, i ≠ last → dstOf ops i = some d → (D i).ok (a.tmps.getD d undef) w) → (∀ t, (∀ i, i ≠ last → dstOf ops i ≠ some t) → a.tmps.getD t undef = a0.tmps.getD t undef) →
      Region.wanted o (yielded ops a.tmps) = true ∧ o.wp P a w (fun a' w' => Q .normal a' w') Q) :
    ∀ (fuel : Nat) (listed : Array Bool) (a : Act) (w : World), falses listed ≤ fuel → listed.getD last false = false → MInv ops D a0 W0 listed a w → wpAny P .any ops Q fuel listed a w := by
  intro fuel
  induction fuel with
  | zero =>
    intro listed a w hf hl hI
    have := falses_zero listed (by omega) last (by rw [hI.size]; exact hlast)
    rw [hl] at this
    cases this
  | succ fuel ih =>
    intro listed a w hf hl hI
    refine ⟨fun hr => absurd hr (ready_ex hbk hI.size last hlast hl), fun i hi => ?_⟩
    obtain ⟨h1, h2, o, ho, hready⟩ := ready_of hi hI.size
    have hfl : falses (listed.setIfInBounds i true) ≤ fuel := by
      have := falses_set listed i (by rw [hI.size]; exact h1) h2
      omega
    have hs : i < listed.size := by rw [hI.size]; exact h1
    by_cases hil : i = last
    · subst hil
      have hpc := preds_closed hI.closed 9 i (fun o' ho' => by rw [ho] at ho'; obtain rfl := Option.some.inj ho'; exact hready)
      have hall : ∀ k, k < ops.size → k ≠ i → listed.getD k false = true := by
        intro k hk hne
        unfold lastB at hla
        rw [List.all_eq_true] at hla
        have h3 := hla k (by simpa using hk)
        simp only [Bool.or_eq_true, beq_iff_eq, List.contains_iff_mem] at h3
        rcases h3 with h3 | h3
        · exact absurd h3 hne
        · exact hpc k h3
      have hin : ∀ k d, dstOf ops k = some d → k < ops.size := by
        intro k d hk
        rcases Nat.lt_or_ge k ops.size with h | h
        · exact h
        · simp [dstOf, Array.getElem?_eq_none h] at hk
      obtain ⟨hw, hwp⟩ := fin o a w ho hI.below hI.defers hI.tsize (fun k d hk hkd => hI.done k d (hall k (hin k d hkd) hk) hkd)
        (fun t ht => hI.rest t fun k hk hkd => by
          by_cases hki : k = i
          · subst hki; rw [h2] at hk; cases hk
          · exact ht k hki hkd)
      unfold wpOp
      rw [ho]
      simp only
      rw [if_pos hw]
      refine Or.inl (Oper.wp_mono ?_ hwp)
      intro a' w' hq
      have hdone : ∀ k, k < ops.size → (listed.setIfInBounds i true).getD k false = true := by
        intro k hk
        rw [getD_setIf _ _ _ hs]
        split
        · rfl
        · rename_i hne
          exact hall k hk (fun e => hne e.symm)
      have hnil : Region.ready .any ops (listed.setIfInBounds i true) = [] := by
        apply List.eq_nil_iff_forall_not_mem.2
        intro j hj
        obtain ⟨g1, g2, _⟩ := ready_of hj (by simpa using hI.size)
        rw [hdone j g1] at g2
        cases g2
      cases fuel with
      | zero => exact ⟨hnil, hq⟩
      | succ n => exact ⟨fun _ => hq, fun j hj => by rw [hnil] at hj; cases hj⟩
    · have hctx : MCtx ops D a0 W0 i a w := by
        have hpc := preds_closed hI.closed 3 i (fun o' ho' => by rw [ho] at ho'; obtain rfl := Option.some.inj ho'; exact hready)
        refine ⟨hI.below, hI.tsize, fun k d hk hkd => hI.done k d (hpc k hk) hkd, fun t ht => hI.rest t fun k hl hkd => ?_⟩
        unfold origB at ht
        rw [List.all_eq_true] at ht
        have hk : k < ops.size := by
          rcases Nat.lt_or_ge k ops.size with h | h
          · exact h
          · simp [dstOf, Array.getElem?_eq_none h] at hkd
        have h3 := ht k (by simpa using hk)
        rw [hkd] at h3
        simp only [bne_self_eq_false, Bool.false_or, List.contains_iff_mem] at h3
        have := preds_closed hI.closed 3 k (fun o' ho' e he hb' => hI.closed k o' ho' hl e he hb') i h3
        rw [h2] at this
        cases this
      have hst := step i h1 hil o ho a w hctx
      have hl' : (listed.setIfInBounds i true).getD last false = false := by
        rw [getD_setIf _ _ _ hs, if_neg hil]
        exact hl
      unfold wpOp
      rw [ho]
      simp only
      split
      · rename_i hw
        rw [if_pos hw] at hst
        refine Or.inl (Oper.wp_mono ?_ hst)
        rintro a' w' ⟨v, rfl, hv, hb⟩
        exact ih _ _ _ hfl hl' (mono_put hI h1 ho hd hready hv hb)
      · rename_i hw
        rw [if_neg hw] at hst
        exact ih _ _ _ hfl hl' (mono_put hI h1 ho hd hready hst (Below.refl _ _))
/-- THE LAW -/
theorem region_monoL {id : Nat} {a0 : Act} {w0 : World} (D : Nat → VD) (last : Nat) (hlast : decide (last < ops.size) = true) (hla : lastB ops last = true) (hm : P.follows .mixedOrders = true) (hd : distinctB ops a0.tmps.size = true) (hbk : backB ops = true)
    (step : ∀ i, i < ops.size → i ≠ last → MStep P ops Q D a0 w0.drew i)
    (fin : ∀ o a w, ops[last]? = some o → Below w0.drew.heap.size w0.drew w → a.defers = a0.defers → a.tmps.size = a0.tmps.size → (∀ i d, i ≠ last → dstOf ops i = some d → (D i).ok (a.tmps.getD d undef) w) → (∀ t, (∀ i, i ≠ last → dstOf ops i ≠ some t) → a.tmps.getD t undef = a0.tmps.getD t undef) →
      Region.wanted o (yielded ops a.tmps) = true ∧ o.wp P a w (fun a' w' => Q .normal a' w') Q) :
    (Code.region id ops true).wp P Q a0 w0 := by
  refine wp_region_any hm ?_
  have hg : ∀ i, (Array.replicate ops.size false).getD i false = false := by
    intro i
    rw [Array.getD_eq_getD_getElem?, Array.getElem?_replicate]
    split <;> rfl
  refine mono_anyL (D := D) (a0 := a0) (W0 := w0.drew) last (of_decide_eq_true hlast) hla hd hbk step fin _ _ _ _ ?_ (hg last) ⟨by simp, Below.refl _ _, rfl, rfl, fun i o _ h => (by rw [hg] at h; cases h), fun i d h => (by rw [hg] at h; cases h), fun _ _ => rfl⟩
  unfold falses
  simp
end
end Nac
