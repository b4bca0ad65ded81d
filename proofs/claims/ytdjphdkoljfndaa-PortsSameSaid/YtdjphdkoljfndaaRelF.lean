/- As XRel, where one of the first operations (number ph) may also come right behind operation p. Over whatever program. -/
import Derived.Test.YtdjphdkoljfndaaRel
namespace Nac
open Go Go.RowKit
/-- operation p comes behind all that stand ahead of it but ph; each from p + 1 on behind all -/
def chainF (ops : Array Oper) (p ph : Nat) : Bool := chainB ops (p + 1) && decide (p < ops.size) && decide (ph < p) && (List.range p).all fun j => j == ph || (closOf ops p (depsOf ops p)).contains j
section
variable {P : Program} {ops : Array Oper} {Q : Exit → Act → World → Prop} {R : World → World → Prop} {D : Nat → RD R} {J : (Nat → Bool) → World → Prop} {a0 : Act}
theorem tail_next {fuel : Nat} {listed : Array Bool} {x : Nat} {o : Oper} (hs : listed.size = ops.size) (hx : x < ops.size) (ho : ops[x]? = some o) (hready : ∀ e ∈ o.after, Region.binds .any e = true → listed.getD e.on false = true)
    (hc : ∀ i o, ops[i]? = some o → listed.getD i false = true → ∀ e ∈ o.after, Region.binds .any e = true → listed.getD e.on false = true) :
    ∀ i o, ops[i]? = some o → (listed.setIfInBounds x true).getD i false = true → ∀ e ∈ o.after, Region.binds .any e = true → (listed.setIfInBounds x true).getD e.on false = true := by
  intro j oj hj hl e he hb
  rw [getD_setIf _ _ _ (by omega)] at hl ⊢
  by_cases hex : x = e.on
  · rw [if_pos hex]
  · rw [if_neg hex]
    by_cases hxj : x = j
    · subst hxj
      rw [ho] at hj
      obtain rfl := Option.some.inj hj
      exact hready e he hb
    · rw [if_neg hxj] at hl
      exact hc j oj hj hl e he hb
theorem tail_any' {p : Nat} (hch : chainB ops p = true) (hbk : backB ops = true) : ∀ (fuel : Nat) (listed : Array Bool) (a : Act) (w : World) (i : Nat), p ≤ i + 1 → i ≤ ops.size → listed.size = ops.size → falses listed ≤ fuel →
    (∀ j, j < i → listed.getD j false = true) → (∀ j, i ≤ j → listed.getD j false = false) →
    (∀ i o, ops[i]? = some o → listed.getD i false = true → ∀ e ∈ o.after, Region.binds .any e = true → listed.getD e.on false = true) →
    wpList P ops Q (ops.toList.drop i) a w → wpAny P .any ops Q fuel listed a w := by
  intro fuel
  have hend : ∀ (a : Act) (w : World) (i : Nat), ¬ i < ops.size → wpList P ops Q (ops.toList.drop i) a w → Q .normal a w := by
    intro a w i hi h
    rw [List.drop_eq_nil_of_le (by simpa using hi)] at h
    exact h
  induction fuel with
  | zero =>
    intro listed a w i hp hi hs hf h1 h2 hc h
    have hn : ¬ i < ops.size := fun hlt => by
      have := falses_zero listed (by omega) i (by omega)
      rw [h2 i (Nat.le_refl _)] at this
      cases this
    refine ⟨?_, hend a w i hn h⟩
    apply List.eq_nil_iff_forall_not_mem.2
    intro x hx
    obtain ⟨g1, g2, _⟩ := ready_of hx hs
    rw [h1 x (by omega)] at g2
    cases g2
  | succ fuel ih =>
    intro listed a w i hp hi hs hf h1 h2 hc h
    refine ⟨fun hr => ?_, fun x hx => ?_⟩
    · refine hend a w i (fun hlt => ?_) h
      exact absurd hr (ready_ex hbk hs i hlt (h2 i (Nat.le_refl _)))
    · obtain ⟨g1, g2, o, ho, hready⟩ := ready_of hx hs
      have hge : i ≤ x := by
        rcases Nat.lt_or_ge x i with hlt | hge
        · rw [h1 x hlt] at g2; cases g2
        · exact hge
      have hxi : x = i := by
        rcases Nat.lt_or_ge i x with hlt | hle
        · have := chain_listed hch hc g1 (by omega) (fun o' ho' => by rw [ho] at ho'; obtain rfl := Option.some.inj ho'; exact hready) i hlt
          rw [h2 i (Nat.le_refl _)] at this
          cases this
        · omega
      subst hxi
      have hfl : falses (listed.setIfInBounds x true) ≤ fuel := by
        have := falses_set listed x (by omega) g2
        omega
      have hd : ops.toList.drop x = o :: ops.toList.drop (x + 1) := by
        rw [List.drop_eq_getElem_cons (by simpa using g1)]
        congr 1
        have := Array.getElem?_eq_getElem g1
        rw [this] at ho
        simpa using Option.some.inj ho
      rw [hd] at h
      have next : ∀ a' w', wpList P ops Q (ops.toList.drop (x + 1)) a' w' → wpAny P .any ops Q fuel (listed.setIfInBounds x true) a' w' := by
        intro a' w' h'
        refine ih _ a' w' (x + 1) (by omega) g1 (by simpa using hs) hfl ?_ ?_ (tail_next (fuel := 0) hs g1 ho hready hc) h'
        · intro j hj
          rw [getD_setIf _ _ _ (by omega)]
          split
          · rfl
          · exact h1 j (by omega)
        · intro j hj
          rw [getD_setIf _ _ _ (by omega), if_neg (by omega)]
          exact h2 j (by omega)
      unfold wpOp
      rw [ho]
      simp only
      unfold wpList at h
      split
      · rename_i hw
        rw [if_pos hw] at h
        rcases h with h | h
        · exact Or.inl (Oper.wp_mono next h)
        · exact Or.inr h
      · rename_i hw
        rw [if_neg hw] at h
        exact next _ _ h
theorem wpOp_of_list {x : Nat} {o : Oper} (ho : ops[x]? = some o) {K : Act → World → Prop} {l : List Oper} {a : Act} {w : World} (h : wpList P ops Q (o :: l) a w) (next : ∀ a' w', wpList P ops Q l a' w' → K a' w') : wpOp P ops Q x K a w := by
  unfold wpOp
  rw [ho]
  simp only
  unfold wpList at h
  split
  · rename_i hw
    rw [if_pos hw] at h
    rcases h with h | h
    · exact Or.inl (Oper.wp_mono next h)
    · exact Or.inr h
  · rename_i hw
    rw [if_neg hw] at h
    exact next _ _ h
theorem relF_any {p ph : Nat} (hrefl : ∀ w, R w w) (hch : chainF ops p ph = true) (hd : distinctB ops a0.tmps.size = true) (hbk : backB ops = true) (op oph : Oper) (hop : ops[p]? = some op) (hoph : ops[ph]? = some oph)
    (step : ∀ i, i < p → RStep P ops Q R D J a0 i)
    (fin : ∀ L a w, (∀ i, i < p → L i = true) → J L w → a.defers = a0.defers → a.tmps.size = a0.tmps.size → (∀ i d, i < p → dstOf ops i = some d → (D i).ok (a.tmps.getD d undef) w) → (∀ t, (∀ i, i < p → dstOf ops i ≠ some t) → a.tmps.getD t undef = a0.tmps.getD t undef) → wpList P ops Q (ops.toList.drop p) a w)
    (fin2 : ∀ L a w, (∀ i, i < p → i ≠ ph → L i = true) → L ph = false → J L w → a.defers = a0.defers → a.tmps.size = a0.tmps.size → (∀ i d, i < p → i ≠ ph → dstOf ops i = some d → (D i).ok (a.tmps.getD d undef) w) → (∀ t, (∀ i, i < p → i ≠ ph → dstOf ops i ≠ some t) → a.tmps.getD t undef = a0.tmps.getD t undef) → wpList P ops Q (op :: oph :: ops.toList.drop (p + 1)) a w) :
    ∀ (fuel : Nat) (listed : Array Bool) (a : Act) (w : World), falses listed ≤ fuel → (∀ j, p ≤ j → listed.getD j false = false) → VInv ops (fun _ _ => True) (fun _ _ => True) a0 listed a w → J (fun i => listed.getD i false) w → (∀ i d, listed.getD i false = true → dstOf ops i = some d → (D i).ok (a.tmps.getD d undef) w) → wpAny P .any ops Q fuel listed a w := by
  unfold chainF at hch
  rw [Bool.and_eq_true, Bool.and_eq_true, Bool.and_eq_true] at hch
  obtain ⟨⟨⟨hch, hps'⟩, hphp⟩, hcp⟩ := hch
  have hps : p < ops.size := by simpa using hps'
  have hphp : ph < p := by simpa using hphp
  rw [List.all_eq_true] at hcp
  have hpdeps : ∀ {listed : Array Bool}, (∀ i o, ops[i]? = some o → listed.getD i false = true → ∀ e ∈ o.after, Region.binds .any e = true → listed.getD e.on false = true) → (∀ e ∈ op.after, Region.binds .any e = true → listed.getD e.on false = true) → ∀ j, j < p → j ≠ ph → listed.getD j false = true := by
    intro listed hc hr j hj hne
    have h2 := hcp j (by simpa using hj)
    have hne' : (j == ph) = false := by simpa using hne
    rw [hne', Bool.false_or] at h2
    refine clos_listed hc p _ ?_ j (by simpa using h2)
    intro x hx
    unfold depsOf at hx
    simp only [hop, List.mem_map, List.mem_filter, Array.mem_toList_iff] at hx
    obtain ⟨e, ⟨he, hb⟩, rfl⟩ := hx
    exact hr e he hb
  have hdist : ∀ x y d, x < ops.size → y < ops.size → dstOf ops x = some d → (d < a0.tmps.size) ∧ (dstOf ops y = some d → x = y) := by
    intro x y d hx hy hxd
    unfold distinctB at hd
    rw [List.all_eq_true] at hd
    have h1 := hd x (by simpa using hx)
    rw [Bool.and_eq_true, List.all_eq_true] at h1
    obtain ⟨h1, h2⟩ := h1
    have h2 := h2 y (by simpa using hy)
    rw [hxd] at h1 h2
    refine ⟨by simpa using h1, fun hyd => ?_⟩
    rw [hyd] at h2
    simpa using h2
  have hin : ∀ k d, dstOf ops k = some d → k < ops.size := by
    intro k d hk
    rcases Nat.lt_or_ge k ops.size with h | h
    · exact h
    · simp [dstOf, Array.getElem?_eq_none h] at hk
  have hall : ∀ (fuel : Nat) (listed : Array Bool) (a : Act) (w : World), falses listed ≤ fuel → (∀ j, p ≤ j → listed.getD j false = false) → VInv ops (fun _ _ => True) (fun _ _ => True) a0 listed a w → J (fun i => listed.getD i false) w → (∀ i d, listed.getD i false = true → dstOf ops i = some d → (D i).ok (a.tmps.getD d undef) w) → (∀ j, j < p → listed.getD j false = true) → wpAny P .any ops Q fuel listed a w := by
    intro fuel listed a w hf hz hI hJ hD hl
    refine tail_any' hch hbk fuel listed a w p (Nat.le_refl _) (Nat.le_of_lt hps) hI.size hf hl hz hI.closed ?_
    refine fin _ a w (fun i hi => hl i hi) hJ hI.defers hI.tsize (fun i d hi h => hD i d (hl i hi) h) (fun t ht => hI.rest t fun i hli => ht i ?_)
    rcases Nat.lt_or_ge i p with h | h
    · exact h
    · rw [hz i h] at hli; cases hli
  intro fuel
  induction fuel with
  | zero =>
    intro listed a w hf hz hI hJ hD
    exact hall 0 listed a w hf hz hI hJ hD fun i hi => falses_zero listed (by omega) i (by rw [hI.size]; omega)
  | succ fuel ih =>
    intro listed a w hf hz hI hJ hD
    by_cases hdone : ∀ j, j < p → listed.getD j false = true
    · exact hall _ listed a w hf hz hI hJ hD hdone
    have hnd : ∃ j, j < p ∧ listed.getD j false = false := by
      apply Classical.byContradiction
      intro h
      refine hdone fun j hj => ?_
      cases hb : listed.getD j false
      · exact absurd ⟨j, hj, hb⟩ h
      · rfl
    obtain ⟨j0, hj0, hl0⟩ := hnd
    refine ⟨fun hr => absurd hr (ready_ex hbk hI.size j0 (by omega) hl0), fun i hi => ?_⟩
    obtain ⟨h1, h2, o, ho, hready⟩ := ready_of hi hI.size
    have hfl : falses (listed.setIfInBounds i true) ≤ fuel := by
      have := falses_set listed i (by rw [hI.size]; exact h1) h2
      omega
    have hls : i < listed.size := by rw [hI.size]; exact h1
    rcases Nat.lt_or_ge i p with hip | hip
    · have hctx : RCtx ops R D J a0 i (fun k => listed.getD k false) a w := by
        have hpc := preds_closed hI.closed 3 i (fun o' ho' => by rw [ho] at ho'; obtain rfl := Option.some.inj ho'; exact hready)
        refine ⟨hJ, hI.tsize, h2, hpc, fun k d hk hkd => hD k d (hpc k hk) hkd, fun t ht => hI.rest t fun k hl hkd => ?_⟩
        unfold origB at ht
        rw [List.all_eq_true] at ht
        have h3 := ht k (by simpa using hin k t hkd)
        rw [hkd] at h3
        simp only [bne_self_eq_false, Bool.false_or, List.contains_iff_mem] at h3
        have := preds_closed hI.closed 3 k (fun o' ho' e he hb' => hI.closed k o' ho' hl e he hb') i h3
        rw [h2] at this
        cases this
      have hs := step i hip o ho _ a w hctx
      have hz' : ∀ j, p ≤ j → (listed.setIfInBounds i true).getD j false = false := fun j hj => by
        rw [getD_setIf _ _ _ hls, if_neg (by omega)]
        exact hz j hj
      have hup : (fun k => (listed.setIfInBounds i true).getD k false) = upd (fun k => listed.getD k false) i := upd_listed _ _ hls
      have hdo : dstOf ops i = o.dst := by simp [dstOf, ho]
      have hnext : ∀ v w', (D i).ok v w' → R w w' → ∀ j d, (listed.setIfInBounds i true).getD j false = true → dstOf ops j = some d → (D j).ok ((a.put o.dst v).tmps.getD d undef) w' := by
        intro v w' hv hR j d hl hjd
        rw [getD_setIf _ _ _ hls] at hl
        have hput : (a.put o.dst v).tmps.getD d undef = if o.dst = some d then v else a.tmps.getD d undef := by
          cases hod : o.dst with
          | none => simp [Act.put]
          | some d' =>
            have hlt := (hdist i i d' h1 h1 (by rw [hdo, hod])).1
            simp only [Act.put]
            rw [getD_put _ _ _ _ (by rw [hI.tsize]; exact hlt)]
            simp
        rw [hput]
        by_cases hij : i = j
        · subst hij
          rw [hdo] at hjd
          rw [if_pos hjd]
          exact hv
        · rw [if_neg hij] at hl
          rw [if_neg (fun h => hij ((hdist i j d h1 (hin j d hjd) (by rw [hdo]; exact h)).2 hjd))]
          exact RD.keep _ _ _ _ (hD j d hl hjd) hR
      unfold wpOp
      rw [ho]
      simp only
      split
      · rename_i hw
        rw [if_pos hw] at hs
        refine Or.inl (Oper.wp_mono ?_ hs)
        rintro a' w' ⟨v, rfl, hv, hR, hb⟩
        exact ih _ _ _ hfl hz' (val_put (v := v) hI h1 ho hd hready trivial trivial) (by rw [hup]; exact hb) (hnext v w' hv hR)
      · rename_i hw
        rw [if_neg hw] at hs
        exact ih _ _ _ hfl hz' (val_put (v := undef) hI h1 ho hd hready trivial trivial) (by rw [hup]; exact hs.2) (hnext undef w hs.1 (hrefl w))
    · have hie : i = p := by
        rcases Nat.lt_or_ge p i with hlt | hle
        · have := chain_listed hch hI.closed h1 (by omega) (fun o' ho' => by rw [ho] at ho'; obtain rfl := Option.some.inj ho'; exact hready) j0 (by omega)
          rw [hl0] at this
          cases this
        · omega
      subst hie
      rw [hop] at ho
      obtain rfl := Option.some.inj ho
      have hoth := hpdeps hI.closed hready
      have hphf : listed.getD ph false = false := by
        by_cases e : j0 = ph
        · rw [← e]; exact hl0
        · rw [hoth j0 hj0 e] at hl0; cases hl0
      have hL := fin2 _ a w (fun j hj hne => hoth j hj hne) hphf hJ hI.defers hI.tsize (fun j d hj hne h => hD j d (hoth j hj hne) h) (fun t ht => hI.rest t fun j hlj => by
        rcases Nat.lt_or_ge j i with h | h
        · refine ht j h fun e => ?_
          rw [e, hphf] at hlj
          cases hlj
        · rw [hz j h] at hlj; cases hlj)
      refine wpOp_of_list hop hL fun a1 w1 hw1 => ?_
      have hc1 := tail_next (fuel := 0) hI.size h1 hop hready hI.closed
      have hs1 : (listed.setIfInBounds i true).size = ops.size := by simpa using hI.size
      cases fuel with
      | zero =>
        exfalso
        have := falses_zero (listed.setIfInBounds i true) (by omega) ph (by rw [hs1]; omega)
        rw [getD_setIf _ _ _ hls, if_neg (by omega), hphf] at this
        cases this
      | succ fuel =>
        have hphf1 : (listed.setIfInBounds i true).getD ph false = false := by rw [getD_setIf _ _ _ hls, if_neg (by omega)]; exact hphf
        refine ⟨fun hr => absurd hr (ready_ex hbk hs1 ph (by omega) hphf1), fun x hx => ?_⟩
        obtain ⟨g1, g2, ox, hox, hreadyx⟩ := ready_of hx hs1
        have hxe : x = ph := by
          rw [getD_setIf _ _ _ hls] at g2
          by_cases hxi : i = x
          · rw [if_pos hxi] at g2; cases g2
          · rw [if_neg hxi] at g2
            rcases Nat.lt_or_ge x i with hlt | hge
            · apply Classical.byContradiction
              intro hne
              rw [hoth x hlt hne] at g2
              cases g2
            · have := chain_listed hch hc1 g1 (by omega) (fun o' ho' => by rw [hox] at ho'; obtain rfl := Option.some.inj ho'; exact hreadyx) ph (by omega)
              rw [hphf1] at this
              cases this
        subst hxe
        rw [hoph] at hox
        obtain rfl := Option.some.inj hox
        refine wpOp_of_list hoph hw1 fun a2 w2 hw2 => ?_
        have hls1 : x < (listed.setIfInBounds i true).size := by rw [hs1]; exact g1
        refine tail_any' hch hbk fuel _ a2 w2 (i + 1) (by omega) (by omega) (by simpa using hs1) ?_ ?_ ?_ (tail_next (fuel := 0) hs1 g1 hoph hreadyx hc1) hw2
        · have := falses_set (listed.setIfInBounds i true) x hls1 g2
          omega
        · intro j hj
          rw [getD_setIf _ _ _ hls1, getD_setIf _ _ _ hls]
          split
          · rfl
          · split
            · rfl
            · exact hoth j (by omega) (by omega)
        · intro j hj
          rw [getD_setIf _ _ _ hls1, getD_setIf _ _ _ hls, if_neg (by omega), if_neg (by omega)]
          exact hz j (by omega)
/-- THE LAW -/
theorem region_relF {id : Nat} {a0 : Act} {w0 : World} (p ph : Nat) (R : World → World → Prop) (D : Nat → RD R) (ds : List (Option Tmp)) (J : (Nat → Bool) → World → Prop) (hrefl : ∀ w, R w w) (hm : P.follows .mixedOrders = true) (hd : distinctB ops a0.tmps.size = true) (hbk : backB ops = true)
    (hch : chainF ops p ph = true) (hds : (ops.toList.take p).map (·.dst) = ds) (op oph : Oper) (hop : ops[p]? = some op) (hoph : ops[ph]? = some oph)
    (h0 : J (fun _ => false) w0.drew)
    (step : ∀ i, i < p → RStep P ops Q R D J a0 i)
    (fin : ∀ L V w, (∀ i, i < p → L i = true) → V.length = ds.length → J L w → (∀ i d, ds[i]? = some (some d) → (D i).ok (V.getD i undef) w) → wpList P ops Q (ops.toList.drop p) (putsL (ds.zip V) a0) w)
    (fin2 : ∀ L V w, (∀ i, i < p → i ≠ ph → L i = true) → V.length = ds.length → J L w → (∀ i d, i ≠ ph → ds[i]? = some (some d) → (D i).ok (V.getD i undef) w) → wpList P ops Q (op :: oph :: ops.toList.drop (p + 1)) (putsL ((ds.set ph none).zip V) a0) w) :
    (Code.region id ops true).wp P Q a0 w0 := by
  refine wp_region_any hm ?_
  have hg : ∀ i, (Array.replicate ops.size false).getD i false = false := by
    intro i
    rw [Array.getD_eq_getD_getElem?, Array.getElem?_replicate]
    split <;> rfl
  have hps : p < ops.size := (Array.getElem?_eq_some_iff.1 hop).1
  have hlt : ∀ i x, ds[i]? = some x → i < p := by
    intro i x h
    have := (List.getElem?_eq_some_iff.1 h).1
    rw [← hds] at this
    simp at this
    omega
  have hdi : ∀ i d, ds[i]? = some (some d) → dstOf ops i = some d := by
    intro i d h
    have hi := hlt i _ h
    rw [← hds, List.getElem?_map, List.getElem?_take_of_lt hi, Array.getElem?_toList] at h
    unfold dstOf
    cases ho : ops[i]? with
    | none => rw [ho] at h; cases h
    | some o => rw [ho] at h; simpa using h
  have hdi' : ∀ i d, i < p → dstOf ops i = some d → ds[i]? = some (some d) := by
    intro i d hi h
    rw [← hds, List.getElem?_map, List.getElem?_take_of_lt hi, Array.getElem?_toList]
    unfold dstOf at h
    cases ho : ops[i]? with
    | none => rw [ho] at h; cases h
    | some o => rw [ho] at h; simpa using h
  refine relF_any (D := D) (J := J) (a0 := a0) hrefl hch hd hbk op oph hop hoph step (fun L a w hall hJ hde hts hs hr => ?_) (fun L a w hall hph hJ hde hts hs hr => ?_) _ _ _ _ ?_ (fun j _ => hg j) ⟨by simp, trivial, rfl, rfl, fun i o _ h => (by rw [hg] at h; cases h), fun i d h => (by rw [hg] at h; cases h), fun _ _ => rfl⟩ ?_ (fun i d h => by rw [hg] at h; cases h)
  · have e := putsL_eq (a0 := a0) (a := a) (l := ds.zip (slotsOf a.tmps ds)) hde hts ?_ ?_
    · have hf := fin L (slotsOf a.tmps ds) w hall (by simp [slotsOf]) hJ fun i d h => by
        have := hs i d (hlt i _ h) (hdi i d h)
        have e2 : (slotsOf a.tmps ds).getD i undef = a.tmps.getD d undef := by
          unfold slotsOf
          rw [List.getD_eq_getElem?_getD, List.getElem?_map, h]
          rfl
        rw [e2]
        exact this
      rw [← e] at hf
      exact hf
    · intro x hx t ht
      obtain ⟨i, hi⟩ := List.mem_iff_getElem?.1 hx
      obtain ⟨h1, h2⟩ := List.getElem?_zip_eq_some.1 hi
      unfold slotsOf at h2
      rw [List.getElem?_map, h1] at h2
      obtain ⟨d, v⟩ := x
      simp only at ht h1 h2
      subst ht
      simpa using h2
    · intro t ht
      refine hr t fun i hip hdt => ?_
      have h1 := hdi' i t hip hdt
      have h3 : (slotsOf a.tmps ds)[i]? = some (a.tmps.getD t undef) := by
        unfold slotsOf
        rw [List.getElem?_map, h1]
        rfl
      exact ht (some t, a.tmps.getD t undef) (List.mem_iff_getElem?.2 ⟨i, List.getElem?_zip_eq_some.2 ⟨h1, h3⟩⟩) rfl
  · have e := putsL_eq (a0 := a0) (a := a) (l := (ds.set ph none).zip (slotsOf a.tmps ds)) hde hts ?_ ?_
    · have hf := fin2 L (slotsOf a.tmps ds) w hall (by simp [slotsOf]) hJ fun i d hne h => by
        have := hs i d (hlt i _ h) hne (hdi i d h)
        have e2 : (slotsOf a.tmps ds).getD i undef = a.tmps.getD d undef := by
          unfold slotsOf
          rw [List.getD_eq_getElem?_getD, List.getElem?_map, h]
          rfl
        rw [e2]
        exact this
      rw [← e] at hf
      exact hf
    · intro x hx t ht
      obtain ⟨i, hi⟩ := List.mem_iff_getElem?.1 hx
      obtain ⟨h1, h2⟩ := List.getElem?_zip_eq_some.1 hi
      obtain ⟨d, v⟩ := x
      simp only at ht h1 h2
      subst ht
      rw [List.getElem?_set] at h1
      by_cases hpi : ph = i
      · rw [if_pos hpi] at h1
        split at h1 <;> simp at h1
      · rw [if_neg hpi] at h1
        unfold slotsOf at h2
        rw [List.getElem?_map, h1] at h2
        simpa using h2
    · intro t ht
      refine hr t fun i hip hne hdt => ?_
      have h1 := hdi' i t hip hdt
      have h3 : (slotsOf a.tmps ds)[i]? = some (a.tmps.getD t undef) := by
        unfold slotsOf
        rw [List.getElem?_map, h1]
        rfl
      have h1' : (ds.set ph none)[i]? = some (some t) := by rw [List.getElem?_set, if_neg (fun e => hne e.symm)]; exact h1
      exact ht (some t, a.tmps.getD t undef) (List.mem_iff_getElem?.2 ⟨i, List.getElem?_zip_eq_some.2 ⟨h1', h3⟩⟩) rfl
  · unfold falses
    simp
  · rw [show (fun i => (Array.replicate ops.size false).getD i false) = fun _ => false from funext hg]
    exact h0
end
end Nac
