/- Bundle 3 of the texts Tail, MonoV, TailM, RelL, AppL, ProcRel, Struct. -/
import Derived.Test.YtgeffkdobnipgaaMg2
import Derived.Test.YtgeffkdobnipgaaMg1
import Derived.Great.BuildSlice
import Derived.Test.YtgeffkdobnipgaaProg
import Derived.WalkKit
import Derived.Deep.MidRow
/- A region that draws its order, of which the last operations come in one order: the first ones in any order, each slot's value known; then the last ones as a list. Over whatever program. -/
namespace Nac
open Go Go.RowKit
def depsOf (ops : Array Oper) (i : Nat) : List Nat := match ops[i]? with
  | none => []
  | some o => (o.after.toList.filter fun e => Region.binds .any e).map (·.on)
/-- all that must have come ahead, from the set s on -/
def closOf (ops : Array Oper) : Nat → List Nat → List Nat
  | 0, s => s
  | j + 1, s => closOf ops j (if s.contains j then s ++ depsOf ops j else s)
/-- each operation from p on comes behind all that stand ahead of it -/
def chainB (ops : Array Oper) (p : Nat) : Bool := decide (p ≤ ops.size) && (List.range ops.size).all fun i => decide (i < p) || (List.range i).all fun j => (closOf ops i (depsOf ops i)).contains j
section
variable {P : Program} {ops : Array Oper} {Q : Exit → Act → World → Prop} {D : Nat → Value → Prop} {J : (Nat → Bool) → World → Prop} {a0 : Act}
theorem clos_listed {listed : Array Bool} (hc : ∀ i o, ops[i]? = some o → listed.getD i false = true → ∀ e ∈ o.after, Region.binds .any e = true → listed.getD e.on false = true) :
    ∀ (n : Nat) (s : List Nat), (∀ x ∈ s, listed.getD x false = true) → ∀ x ∈ closOf ops n s, listed.getD x false = true := by
  intro n
  induction n with
  | zero => intro s hs x hx; exact hs x hx
  | succ n ih =>
    intro s hs x hx
    unfold closOf at hx
    refine ih _ ?_ x hx
    intro y hy
    split at hy
    · rename_i hcn
      rcases List.mem_append.1 hy with h | h
      · exact hs y h
      · unfold depsOf at h
        cases ho : ops[n]? with
        | none => simp [ho] at h
        | some o =>
          simp only [ho, List.mem_map, List.mem_filter, Array.mem_toList_iff] at h
          obtain ⟨e, ⟨he, hb⟩, rfl⟩ := h
          exact hc n o ho (hs n (by simpa using hcn)) e he hb
    · exact hs y hy
theorem chain_listed {listed : Array Bool} {p i : Nat} (hch : chainB ops p = true) (hc : ∀ i o, ops[i]? = some o → listed.getD i false = true → ∀ e ∈ o.after, Region.binds .any e = true → listed.getD e.on false = true)
    (hi : i < ops.size) (hp : p ≤ i) (hr : ∀ o, ops[i]? = some o → ∀ e ∈ o.after, Region.binds .any e = true → listed.getD e.on false = true) : ∀ j, j < i → listed.getD j false = true := by
  intro j hj
  unfold chainB at hch
  rw [Bool.and_eq_true, List.all_eq_true] at hch
  have h1 := hch.2 i (by simpa using hi)
  have hnp : decide (i < p) = false := by simpa using hp
  rw [hnp, Bool.false_or, List.all_eq_true] at h1
  have h2 := h1 j (by simpa using hj)
  refine clos_listed hc i _ ?_ j (by simpa using h2)
  intro x hx
  unfold depsOf at hx
  cases ho : ops[i]? with
  | none => simp [ho] at hx
  | some o =>
    simp only [ho, List.mem_map, List.mem_filter, Array.mem_toList_iff] at hx
    obtain ⟨e, ⟨he, hb⟩, rfl⟩ := hx
    exact hr o ho e he hb
theorem tail_any {p : Nat} (hch : chainB ops p = true) (hbk : backB ops = true) : ∀ (fuel : Nat) (listed : Array Bool) (a : Act) (w : World) (i : Nat), p ≤ i → i ≤ ops.size → listed.size = ops.size → falses listed ≤ fuel →
    (∀ j, j < i → listed.getD j false = true) → (∀ j, i ≤ j → listed.getD j false = false) →
    (∀ i o, ops[i]? = some o → listed.getD i false = true → ∀ e ∈ o.after, Region.binds .any e = true → listed.getD e.on false = true) →
    wpList P ops Q (ops.toList.drop i) a w → wpAny P .any ops Q fuel listed a w := by
  intro fuel
  have hend : ∀ (a : Act) (w : World) (i : Nat), ¬ i < ops.size → wpList P ops Q (ops.toList.drop i) a w → Q .normal a w := by
    intro a w i hi h
    rw [List.drop_eq_nil_of_le (by simpa using hi)] at h
    exact h
  induction fuel with
  | zero =>
    intro listed a w i hp hi hs hf h1 h2 hc h
    have hn : ¬ i < ops.size := fun hlt => by
      have := falses_zero listed (by omega) i (by omega)
      rw [h2 i (Nat.le_refl _)] at this
      cases this
    refine ⟨?_, hend a w i hn h⟩
    apply List.eq_nil_iff_forall_not_mem.2
    intro x hx
    obtain ⟨g1, g2, _⟩ := ready_of hx hs
    rw [h1 x (by omega)] at g2
    cases g2
  | succ fuel ih =>
    intro listed a w i hp hi hs hf h1 h2 hc h
    refine ⟨fun hr => ?_, fun x hx => ?_⟩
    · refine hend a w i (fun hlt => ?_) h
      exact absurd hr (ready_ex hbk hs i hlt (h2 i (Nat.le_refl _)))
    · obtain ⟨g1, g2, o, ho, hready⟩ := ready_of hx hs
      have hge : i ≤ x := by
        rcases Nat.lt_or_ge x i with hlt | hge
        · rw [h1 x hlt] at g2; cases g2
        · exact hge
      have hxi : x = i := by
        rcases Nat.lt_or_ge i x with hlt | hle
        · have := chain_listed hch hc g1 (by omega) (fun o' ho' => by rw [ho] at ho'; obtain rfl := Option.some.inj ho'; exact hready) i hlt
          rw [h2 i (Nat.le_refl _)] at this
          cases this
        · omega
      subst hxi
      have hfl : falses (listed.setIfInBounds x true) ≤ fuel := by
        have := falses_set listed x (by omega) g2
        omega
      have hd : ops.toList.drop x = o :: ops.toList.drop (x + 1) := by
        rw [List.drop_eq_getElem_cons (by simpa using g1)]
        congr 1
        have := Array.getElem?_eq_getElem g1
        rw [this] at ho
        simpa using Option.some.inj ho
      rw [hd] at h
      have next : ∀ a' w', wpList P ops Q (ops.toList.drop (x + 1)) a' w' → wpAny P .any ops Q fuel (listed.setIfInBounds x true) a' w' := by
        intro a' w' h'
        refine ih _ a' w' (x + 1) (by omega) g1 (by simpa using hs) hfl ?_ ?_ ?_ h'
        · intro j hj
          rw [getD_setIf _ _ _ (by omega)]
          split
          · rfl
          · exact h1 j (by omega)
        · intro j hj
          rw [getD_setIf _ _ _ (by omega), if_neg (by omega)]
          exact h2 j (by omega)
        · intro j oj hj hl e he hb
          rw [getD_setIf _ _ _ (by omega)] at hl ⊢
          by_cases hex : x = e.on
          · rw [if_pos hex]
          · rw [if_neg hex]
            by_cases hxj : x = j
            · subst hxj
              rw [ho] at hj
              obtain rfl := Option.some.inj hj
              exact hready e he hb
            · rw [if_neg hxj] at hl
              exact hc j oj hj hl e he hb
      unfold wpOp
      rw [ho]
      simp only
      unfold wpList at h
      split
      · rename_i hw
        rw [if_pos hw] at h
        rcases h with h | h
        · exact Or.inl (Oper.wp_mono next h)
        · exact Or.inr h
      · rename_i hw
        rw [if_neg hw] at h
        exact next _ _ h
theorem val_tail {p : Nat} (hch : chainB ops p = true) (hd : distinctB ops a0.tmps.size = true) (hbk : backB ops = true)
    (step : ∀ i, i < p → VStep P ops Q D J a0 i)
    (fin : ∀ L a w, (∀ i, i < p → L i = true) → J L w → a.defers = a0.defers → a.tmps.size = a0.tmps.size → (∀ i d, i < p → dstOf ops i = some d → D i (a.tmps.getD d undef)) → (∀ t, (∀ i, i < p → dstOf ops i ≠ some t) → a.tmps.getD t undef = a0.tmps.getD t undef) → wpList P ops Q (ops.toList.drop p) a w) :
    ∀ (fuel : Nat) (listed : Array Bool) (a : Act) (w : World), falses listed ≤ fuel → (∀ j, p ≤ j → listed.getD j false = false) → VInv ops D J a0 listed a w → wpAny P .any ops Q fuel listed a w := by
  have hps : p ≤ ops.size := by
    unfold chainB at hch
    rw [Bool.and_eq_true] at hch
    simpa using hch.1
  have hall : ∀ (fuel : Nat) (listed : Array Bool) (a : Act) (w : World), falses listed ≤ fuel → (∀ j, p ≤ j → listed.getD j false = false) → VInv ops D J a0 listed a w → (∀ j, j < p → listed.getD j false = true) → wpAny P .any ops Q fuel listed a w := by
    intro fuel listed a w hf hz hI hl
    refine tail_any hch hbk fuel listed a w p (Nat.le_refl _) hps hI.size hf hl hz hI.closed ?_
    refine fin _ a w (fun i hi => hl i hi) hI.world hI.defers hI.tsize (fun i d hi h => hI.done i d (hl i hi) h) (fun t ht => hI.rest t fun i hli => ht i ?_)
    rcases Nat.lt_or_ge i p with h | h
    · exact h
    · rw [hz i h] at hli; cases hli
  intro fuel
  induction fuel with
  | zero =>
    intro listed a w hf hz hI
    exact hall 0 listed a w hf hz hI fun i hi => falses_zero listed (by omega) i (by rw [hI.size]; omega)
  | succ fuel ih =>
    intro listed a w hf hz hI
    by_cases hdone : ∀ j, j < p → listed.getD j false = true
    · exact hall _ listed a w hf hz hI hdone
    have hnd : ∃ j, j < p ∧ listed.getD j false = false := by
      apply Classical.byContradiction
      intro h
      refine hdone fun j hj => ?_
      cases hb : listed.getD j false
      · exact absurd ⟨j, hj, hb⟩ h
      · rfl
    obtain ⟨j0, hj0, hl0⟩ := hnd
    refine ⟨fun hr => absurd hr (ready_ex hbk hI.size j0 (by omega) hl0), fun i hi => ?_⟩
    obtain ⟨h1, h2, o, ho, hready⟩ := ready_of hi hI.size
    have hip : i < p := by
      rcases Nat.lt_or_ge i p with h | h
      · exact h
      · have := chain_listed hch hI.closed h1 h (fun o' ho' => by rw [ho] at ho'; obtain rfl := Option.some.inj ho'; exact hready) j0 (by omega)
        rw [hl0] at this
        cases this
    have hctx : VCtx ops D J a0 i (fun k => listed.getD k false) a w := by
      have hpc := preds_closed hI.closed 3 i (fun o' ho' => by rw [ho] at ho'; obtain rfl := Option.some.inj ho'; exact hready)
      refine ⟨hI.world, hI.tsize, h2, hpc, fun k d hk hkd => hI.done k d (hpc k hk) hkd, fun t ht => hI.rest t fun k hl hkd => ?_⟩
      unfold origB at ht
      rw [List.all_eq_true] at ht
      have hk : k < ops.size := by
        rcases Nat.lt_or_ge k ops.size with h | h
        · exact h
        · simp [dstOf, Array.getElem?_eq_none h] at hkd
      have h3 := ht k (by simpa using hk)
      rw [hkd] at h3
      simp only [bne_self_eq_false, Bool.false_or, List.contains_iff_mem] at h3
      have := preds_closed hI.closed 3 k (fun o' ho' e he hb' => hI.closed k o' ho' hl e he hb') i h3
      rw [h2] at this
      cases this
    have hs := step i hip o ho _ a w hctx
    have hfl : falses (listed.setIfInBounds i true) ≤ fuel := by
      have := falses_set listed i (by rw [hI.size]; exact h1) h2
      omega
    have hz' : ∀ j, p ≤ j → (listed.setIfInBounds i true).getD j false = false := fun j hj => by
      rw [getD_setIf _ _ _ (by rw [hI.size]; exact h1), if_neg (by omega)]
      exact hz j hj
    unfold wpOp
    rw [ho]
    simp only
    split
    · rename_i hw
      rw [if_pos hw] at hs
      refine Or.inl (Oper.wp_mono ?_ hs)
      rintro a' w' ⟨v, rfl, hv, hb⟩
      exact ih _ _ _ hfl hz' (val_put hI h1 ho hd hready hv hb)
    · rename_i hw
      rw [if_neg hw] at hs
      exact ih _ _ _ hfl hz' (val_put hI h1 ho hd hready hs.1 hs.2)
/-- THE LAW: the first p operations in any order, each slot's value known; then the rest as a list -/
theorem region_tail {id : Nat} {a0 : Act} {w0 : World} (p : Nat) (V : List Value) (ds : List (Option Tmp)) (J : (Nat → Bool) → World → Prop) (hm : P.follows .mixedOrders = true) (hd : distinctB ops a0.tmps.size = true) (hbk : backB ops = true)
    (hch : chainB ops p = true) (hds : (ops.toList.take p).map (·.dst) = ds) (hV : V.length = ds.length)
    (h0 : J (fun _ => false) w0.drew)
    (step : ∀ i, i < p → VStep P ops Q (fun i v => v = V.getD i undef) J a0 i)
    (fin : ∀ L w, (∀ i, i < p → L i = true) → J L w → wpList P ops Q (ops.toList.drop p) (putsL (ds.zip V) a0) w) :
    (Code.region id ops true).wp P Q a0 w0 := by
  refine wp_region_any hm ?_
  have hps : p ≤ ops.size := by
    unfold chainB at hch
    rw [Bool.and_eq_true] at hch
    simpa using hch.1
  have hg : ∀ i, (Array.replicate ops.size false).getD i false = false := by
    intro i
    rw [Array.getD_eq_getD_getElem?, Array.getElem?_replicate]
    split <;> rfl
  refine val_tail (D := fun i v => v = V.getD i undef) (J := J) (a0 := a0) hch hd hbk step (fun L a w hall hJ hde hts hs hr => ?_) _ _ _ _ ?_ (fun j _ => hg j) ⟨by simp, ?_, rfl, rfl, fun i o _ h => (by rw [hg] at h; cases h), fun i d h => (by rw [hg] at h; cases h), fun _ _ => rfl⟩
  · have hdi : ∀ i, i < p → dstOf ops i = (ds[i]?).join := by
      intro i hi
      rw [← hds, List.getElem?_map, List.getElem?_take_of_lt hi, Array.getElem?_toList]
      unfold dstOf
      cases ops[i]? <;> rfl
    have hsz : p = ds.length := by rw [← hds]; simp; omega
    have e := putsL_eq (a0 := a0) (a := a) (l := ds.zip V) hde hts ?_ ?_
    · rw [e]
      exact fin L w hall hJ
    · intro x hx t ht
      obtain ⟨i, hi⟩ := List.mem_iff_getElem?.1 hx
      obtain ⟨h1, h2⟩ := List.getElem?_zip_eq_some.1 hi
      have hil : i < p := by rw [hsz]; exact (List.getElem?_eq_some_iff.1 h1).1
      have := hs i t hil (by rw [hdi i hil, h1]; exact ht)
      rw [this, List.getD_eq_getElem?_getD, h2]
      rfl
    · intro t ht
      refine hr t fun i hil hdt => ?_
      rw [hdi i hil] at hdt
      have h1 : i < ds.length := by omega
      have h2 : i < V.length := by omega
      rw [List.getElem?_eq_getElem h1] at hdt
      exact ht (ds[i], V[i]) (List.mem_iff_getElem?.2 ⟨i, List.getElem?_zip_eq_some.2 ⟨List.getElem?_eq_getElem h1, List.getElem?_eq_getElem h2⟩⟩) hdt
  · unfold falses
    simp
  · rw [show (fun i => (Array.replicate ops.size false).getD i false) = fun _ => false from funext hg]
    exact h0
end
end Nac
/- A region that draws its order, of operations that only let memory grow (XMono): what it leaves, slot by slot. Over whatever program. -/
namespace Nac
open Go Go.RowKit
section
variable {P : Program} {ops : Array Oper} {Q : Exit → Act → World → Prop} {D : Nat → VD} {a0 : Act} {W0 : World}
theorem MCtx.slot {i : Nat} {a : Act} {w : World} (c : MCtx ops D a0 W0 i a w) (k x : Nat) (hk : (preds ops 3 i).contains k = true) (hx : dstOf ops k = some x) : (D k).ok (a.tmps.getD x undef) w :=
  c.pred k x (by simpa using hk) hx
/-- the slots' values, as the region leaves them -/
def slotsOf (t : Array Value) (ds : List (Option Tmp)) : List Value := ds.map fun d => match d with | none => undef | some d => t.getD d undef
theorem region_monos {id : Nat} {a0 : Act} {w0 : World} (D : Nat → VD) (ds : List (Option Tmp)) (hm : P.follows .mixedOrders = true) (hd : distinctB ops a0.tmps.size = true) (hbk : backB ops = true)
    (hds : ops.toList.map (·.dst) = ds)
    (step : ∀ i, i < ops.size → MStep P ops Q D a0 w0.drew i)
    (fin : ∀ V w, V.length = ds.length → Below w0.heap.size w0 w → (∀ i d, ds[i]? = some (some d) → (D i).ok (V.getD i undef) w) → Q .normal (putsL (ds.zip V) a0) w) :
    (Code.region id ops true).wp P Q a0 w0 := by
  refine region_mono D hm hd hbk step fun a w hb hde hts hs hr => ?_
  have hdi : ∀ i d, ds[i]? = some (some d) → dstOf ops i = some d := by
    intro i d h
    rw [← hds, List.getElem?_map, Array.getElem?_toList] at h
    unfold dstOf
    cases ho : ops[i]? with
    | none => rw [ho] at h; cases h
    | some o => rw [ho] at h; simpa using h
  have hdi' : ∀ i d, dstOf ops i = some d → ds[i]? = some (some d) := by
    intro i d h
    rw [← hds, List.getElem?_map, Array.getElem?_toList]
    unfold dstOf at h
    cases ho : ops[i]? with
    | none => rw [ho] at h; cases h
    | some o => rw [ho] at h; simpa using h
  have e := putsL_eq (a0 := a0) (a := a) (l := ds.zip (slotsOf a.tmps ds)) hde hts ?_ ?_
  · rw [e]
    refine fin _ w (by simp [slotsOf]) hb fun i d h => ?_
    have := hs i d (hdi i d h)
    have e2 : (slotsOf a.tmps ds).getD i undef = a.tmps.getD d undef := by
      unfold slotsOf
      rw [List.getD_eq_getElem?_getD, List.getElem?_map, h]
      rfl
    rw [e2]
    exact this
  · intro x hx t ht
    obtain ⟨i, hi⟩ := List.mem_iff_getElem?.1 hx
    obtain ⟨h1, h2⟩ := List.getElem?_zip_eq_some.1 hi
    unfold slotsOf at h2
    rw [List.getElem?_map, h1] at h2
    obtain ⟨d, v⟩ := x
    simp only at ht h1 h2
    subst ht
    simpa using h2
  · intro t ht
    refine hr t fun i hdt => ?_
    have h1 := hdi' i t hdt
    have h3 : (slotsOf a.tmps ds)[i]? = some (a.tmps.getD t undef) := by
      unfold slotsOf
      rw [List.getElem?_map, h1]
      rfl
    exact ht (some t, a.tmps.getD t undef) (List.mem_iff_getElem?.2 ⟨i, List.getElem?_zip_eq_some.2 ⟨h1, h3⟩⟩) rfl
end
end Nac
/- As XTail, where the first operations only let memory grow, and a slot's value may be known by what it reads as. Over whatever program. -/
namespace Nac
open Go Go.RowKit
section
variable {P : Program} {ops : Array Oper} {Q : Exit → Act → World → Prop} {D : Nat → VD} {a0 : Act} {W0 : World}
theorem mono_tail {p : Nat} (hch : chainB ops p = true) (hd : distinctB ops a0.tmps.size = true) (hbk : backB ops = true)
    (step : ∀ i, i < p → MStep P ops Q D a0 W0 i)
    (fin : ∀ a w, Below W0.heap.size W0 w → a.defers = a0.defers → a.tmps.size = a0.tmps.size → (∀ i d, i < p → dstOf ops i = some d → (D i).ok (a.tmps.getD d undef) w) → (∀ t, (∀ i, i < p → dstOf ops i ≠ some t) → a.tmps.getD t undef = a0.tmps.getD t undef) → wpList P ops Q (ops.toList.drop p) a w) :
    ∀ (fuel : Nat) (listed : Array Bool) (a : Act) (w : World), falses listed ≤ fuel → (∀ j, p ≤ j → listed.getD j false = false) → MInv ops D a0 W0 listed a w → wpAny P .any ops Q fuel listed a w := by
  have hps : p ≤ ops.size := by
    unfold chainB at hch
    rw [Bool.and_eq_true] at hch
    simpa using hch.1
  have hall : ∀ (fuel : Nat) (listed : Array Bool) (a : Act) (w : World), falses listed ≤ fuel → (∀ j, p ≤ j → listed.getD j false = false) → MInv ops D a0 W0 listed a w → (∀ j, j < p → listed.getD j false = true) → wpAny P .any ops Q fuel listed a w := by
    intro fuel listed a w hf hz hI hl
    refine tail_any hch hbk fuel listed a w p (Nat.le_refl _) hps hI.size hf hl hz hI.closed ?_
    refine fin a w hI.below hI.defers hI.tsize (fun i d hi h => hI.done i d (hl i hi) h) (fun t ht => hI.rest t fun i hli => ht i ?_)
    rcases Nat.lt_or_ge i p with h | h
    · exact h
    · rw [hz i h] at hli; cases hli
  intro fuel
  induction fuel with
  | zero =>
    intro listed a w hf hz hI
    exact hall 0 listed a w hf hz hI fun i hi => falses_zero listed (by omega) i (by rw [hI.size]; omega)
  | succ fuel ih =>
    intro listed a w hf hz hI
    by_cases hdone : ∀ j, j < p → listed.getD j false = true
    · exact hall _ listed a w hf hz hI hdone
    have hnd : ∃ j, j < p ∧ listed.getD j false = false := by
      apply Classical.byContradiction
      intro h
      refine hdone fun j hj => ?_
      cases hb : listed.getD j false
      · exact absurd ⟨j, hj, hb⟩ h
      · rfl
    obtain ⟨j0, hj0, hl0⟩ := hnd
    refine ⟨fun hr => absurd hr (ready_ex hbk hI.size j0 (by omega) hl0), fun i hi => ?_⟩
    obtain ⟨h1, h2, o, ho, hready⟩ := ready_of hi hI.size
    have hip : i < p := by
      rcases Nat.lt_or_ge i p with h | h
      · exact h
      · have := chain_listed hch hI.closed h1 h (fun o' ho' => by rw [ho] at ho'; obtain rfl := Option.some.inj ho'; exact hready) j0 (by omega)
        rw [hl0] at this
        cases this
    have hctx : MCtx ops D a0 W0 i a w := by
      have hpc := preds_closed hI.closed 3 i (fun o' ho' => by rw [ho] at ho'; obtain rfl := Option.some.inj ho'; exact hready)
      refine ⟨hI.below, hI.tsize, fun k d hk hkd => hI.done k d (hpc k hk) hkd, fun t ht => hI.rest t fun k hl hkd => ?_⟩
      unfold origB at ht
      rw [List.all_eq_true] at ht
      have hk : k < ops.size := by
        rcases Nat.lt_or_ge k ops.size with h | h
        · exact h
        · simp [dstOf, Array.getElem?_eq_none h] at hkd
      have h3 := ht k (by simpa using hk)
      rw [hkd] at h3
      simp only [bne_self_eq_false, Bool.false_or, List.contains_iff_mem] at h3
      have := preds_closed hI.closed 3 k (fun o' ho' e he hb' => hI.closed k o' ho' hl e he hb') i h3
      rw [h2] at this
      cases this
    have hs := step i hip o ho a w hctx
    have hfl : falses (listed.setIfInBounds i true) ≤ fuel := by
      have := falses_set listed i (by rw [hI.size]; exact h1) h2
      omega
    have hz' : ∀ j, p ≤ j → (listed.setIfInBounds i true).getD j false = false := fun j hj => by
      rw [getD_setIf _ _ _ (by rw [hI.size]; exact h1), if_neg (by omega)]
      exact hz j hj
    unfold wpOp
    rw [ho]
    simp only
    split
    · rename_i hw
      rw [if_pos hw] at hs
      refine Or.inl (Oper.wp_mono ?_ hs)
      rintro a' w' ⟨v, rfl, hv, hb⟩
      exact ih _ _ _ hfl hz' (mono_put hI h1 ho hd hready hv hb)
    · rename_i hw
      rw [if_neg hw] at hs
      exact ih _ _ _ hfl hz' (mono_put hI h1 ho hd hready hs (Below.refl _ _))
/-- THE LAW -/
theorem region_tails {id : Nat} {a0 : Act} {w0 : World} (p : Nat) (D : Nat → VD) (ds : List (Option Tmp)) (hm : P.follows .mixedOrders = true) (hd : distinctB ops a0.tmps.size = true) (hbk : backB ops = true)
    (hch : chainB ops p = true) (hds : (ops.toList.take p).map (·.dst) = ds)
    (step : ∀ i, i < p → MStep P ops Q D a0 w0.drew i)
    (fin : ∀ V w, V.length = ds.length → Below w0.heap.size w0 w → (∀ i d, ds[i]? = some (some d) → (D i).ok (V.getD i undef) w) → wpList P ops Q (ops.toList.drop p) (putsL (ds.zip V) a0) w) :
    (Code.region id ops true).wp P Q a0 w0 := by
  refine wp_region_any hm ?_
  have hps : p ≤ ops.size := by
    unfold chainB at hch
    rw [Bool.and_eq_true] at hch
    simpa using hch.1
  have hg : ∀ i, (Array.replicate ops.size false).getD i false = false := by
    intro i
    rw [Array.getD_eq_getD_getElem?, Array.getElem?_replicate]
    split <;> rfl
  refine mono_tail (D := D) (a0 := a0) (W0 := w0.drew) hch hd hbk step (fun a w hb' hde hts hs hr => ?_) _ _ _ _ ?_ (fun j _ => hg j) ⟨by simp, Below.refl _ _, rfl, rfl, fun i o _ h => (by rw [hg] at h; cases h), fun i d h => (by rw [hg] at h; cases h), fun _ _ => rfl⟩
  · have hb : Below w0.heap.size w0 w := ⟨hb'.os, hb'.tape, hb'.output, hb'.size, hb'.block⟩
    have hlt : ∀ i x, ds[i]? = some x → i < p := by
      intro i x h
      have := (List.getElem?_eq_some_iff.1 h).1
      rw [← hds] at this
      simp at this
      omega
    have hdi : ∀ i d, ds[i]? = some (some d) → dstOf ops i = some d := by
      intro i d h
      have hi := hlt i _ h
      rw [← hds, List.getElem?_map, List.getElem?_take_of_lt hi, Array.getElem?_toList] at h
      unfold dstOf
      cases ho : ops[i]? with
      | none => rw [ho] at h; cases h
      | some o => rw [ho] at h; simpa using h
    have hdi' : ∀ i d, i < p → dstOf ops i = some d → ds[i]? = some (some d) := by
      intro i d hi h
      rw [← hds, List.getElem?_map, List.getElem?_take_of_lt hi, Array.getElem?_toList]
      unfold dstOf at h
      cases ho : ops[i]? with
      | none => rw [ho] at h; cases h
      | some o => rw [ho] at h; simpa using h
    have e := putsL_eq (a0 := a0) (a := a) (l := ds.zip (slotsOf a.tmps ds)) hde hts ?_ ?_
    · rw [e]
      refine fin _ w (by simp [slotsOf]) hb fun i d h => ?_
      have := hs i d (hlt i _ h) (hdi i d h)
      have e2 : (slotsOf a.tmps ds).getD i undef = a.tmps.getD d undef := by
        unfold slotsOf
        rw [List.getD_eq_getElem?_getD, List.getElem?_map, h]
        rfl
      rw [e2]
      exact this
    · intro x hx t ht
      obtain ⟨i, hi⟩ := List.mem_iff_getElem?.1 hx
      obtain ⟨h1, h2⟩ := List.getElem?_zip_eq_some.1 hi
      unfold slotsOf at h2
      rw [List.getElem?_map, h1] at h2
      obtain ⟨d, v⟩ := x
      simp only at ht h1 h2
      subst ht
      simpa using h2
    · intro t ht
      refine hr t fun i hip hdt => ?_
      have h1 := hdi' i t hip hdt
      have h3 : (slotsOf a.tmps ds)[i]? = some (a.tmps.getD t undef) := by
        unfold slotsOf
        rw [List.getElem?_map, h1]
        rfl
      exact ht (some t, a.tmps.getD t undef) (List.mem_iff_getElem?.2 ⟨i, List.getElem?_zip_eq_some.2 ⟨h1, h3⟩⟩) rfl
  · unfold falses
    simp
end
end Nac
/- A region that draws its order, as XRel, the relation by what has been run: what is known of a slot is kept by what may come behind it alone. Over whatever program. -/
namespace Nac
open Go Go.RowKit
/-- what is known of a slot's value, kept along R -/
inductive LD where
  | is (v : Value)
  | pr (p : Value → World → Prop)
def LD.ok : LD → Value → World → Prop
  | .is u, v, _ => v = u
  | .pr p, v, w => p v w
def LD.keeps (R : (Nat → Bool) → World → World → Prop) (i : Nat) (d : LD) : Prop := ∀ L v w w', L i = true → d.ok v w → R L w w' → d.ok v w'
theorem LD.keeps_is (R : (Nat → Bool) → World → World → Prop) (i : Nat) (v : Value) : LD.keeps R i (.is v) := fun _ _ _ _ _ h _ => h
section
variable {P : Program} {ops : Array Oper} {Q : Exit → Act → World → Prop} {R : (Nat → Bool) → World → World → Prop} {D : Nat → LD} {J : (Nat → Bool) → World → Prop} {a0 : Act}
structure LCtx (ops : Array Oper) (R : (Nat → Bool) → World → World → Prop) (D : Nat → LD) (J : (Nat → Bool) → World → Prop) (a0 : Act) (i : Nat) (L : Nat → Bool) (a : Act) (w : World) : Prop where
  world : J L w
  tsize : a.tmps.size = a0.tmps.size
  fresh : L i = false
  ahead : ∀ k, k ∈ preds ops 3 i → L k = true
  pred : ∀ k d, k ∈ preds ops 3 i → dstOf ops k = some d → (D k).ok (a.tmps.getD d undef) w
  orig : ∀ t, origB ops i t = true → a.tmps.getD t undef = a0.tmps.getD t undef
def LStep (P : Program) (ops : Array Oper) (Q : Exit → Act → World → Prop) (R : (Nat → Bool) → World → World → Prop) (D : Nat → LD) (J : (Nat → Bool) → World → Prop) (a0 : Act) (i : Nat) : Prop :=
  ∀ o, ops[i]? = some o → ∀ L a w, LCtx ops R D J a0 i L a w →
    if Region.wanted o (yielded ops a.tmps) = true then o.wp P a w (fun a' w' => ∃ v, a' = a.put o.dst v ∧ (D i).ok v w' ∧ R L w w' ∧ J (upd L i) w') Q else (D i).ok undef w ∧ J (upd L i) w
theorem relL_any {p : Nat} (hkeep : ∀ i, i < p → LD.keeps R i (D i)) (hrefl : ∀ L w, R L w w) (hch : chainB ops p = true) (hd : distinctB ops a0.tmps.size = true) (hbk : backB ops = true)
    (step : ∀ i, i < p → LStep P ops Q R D J a0 i)
    (fin : ∀ L a w, (∀ i, i < p → L i = true) → J L w → a.defers = a0.defers → a.tmps.size = a0.tmps.size → (∀ i d, i < p → dstOf ops i = some d → (D i).ok (a.tmps.getD d undef) w) → (∀ t, (∀ i, i < p → dstOf ops i ≠ some t) → a.tmps.getD t undef = a0.tmps.getD t undef) → wpList P ops Q (ops.toList.drop p) a w) :
    ∀ (fuel : Nat) (listed : Array Bool) (a : Act) (w : World), falses listed ≤ fuel → (∀ j, p ≤ j → listed.getD j false = false) → VInv ops (fun _ _ => True) (fun _ _ => True) a0 listed a w → J (fun i => listed.getD i false) w → (∀ i d, listed.getD i false = true → dstOf ops i = some d → (D i).ok (a.tmps.getD d undef) w) → wpAny P .any ops Q fuel listed a w := by
  have hps : p ≤ ops.size := by
    unfold chainB at hch
    rw [Bool.and_eq_true] at hch
    simpa using hch.1
  have hdist : ∀ x y d, x < ops.size → y < ops.size → dstOf ops x = some d → (d < a0.tmps.size) ∧ (dstOf ops y = some d → x = y) := by
    intro x y d hx hy hxd
    unfold distinctB at hd
    rw [List.all_eq_true] at hd
    have h1 := hd x (by simpa using hx)
    rw [Bool.and_eq_true, List.all_eq_true] at h1
    obtain ⟨h1, h2⟩ := h1
    have h2 := h2 y (by simpa using hy)
    rw [hxd] at h1 h2
    refine ⟨by simpa using h1, fun hyd => ?_⟩
    rw [hyd] at h2
    simpa using h2
  have hin : ∀ k d, dstOf ops k = some d → k < ops.size := by
    intro k d hk
    rcases Nat.lt_or_ge k ops.size with h | h
    · exact h
    · simp [dstOf, Array.getElem?_eq_none h] at hk
  have hall : ∀ (fuel : Nat) (listed : Array Bool) (a : Act) (w : World), falses listed ≤ fuel → (∀ j, p ≤ j → listed.getD j false = false) → VInv ops (fun _ _ => True) (fun _ _ => True) a0 listed a w → J (fun i => listed.getD i false) w → (∀ i d, listed.getD i false = true → dstOf ops i = some d → (D i).ok (a.tmps.getD d undef) w) → (∀ j, j < p → listed.getD j false = true) → wpAny P .any ops Q fuel listed a w := by
    intro fuel listed a w hf hz hI hJ hD hl
    refine tail_any hch hbk fuel listed a w p (Nat.le_refl _) hps hI.size hf hl hz hI.closed ?_
    refine fin _ a w (fun i hi => hl i hi) hJ hI.defers hI.tsize (fun i d hi h => hD i d (hl i hi) h) (fun t ht => hI.rest t fun i hli => ht i ?_)
    rcases Nat.lt_or_ge i p with h | h
    · exact h
    · rw [hz i h] at hli; cases hli
  intro fuel
  induction fuel with
  | zero =>
    intro listed a w hf hz hI hJ hD
    exact hall 0 listed a w hf hz hI hJ hD fun i hi => falses_zero listed (by omega) i (by rw [hI.size]; omega)
  | succ fuel ih =>
    intro listed a w hf hz hI hJ hD
    by_cases hdone : ∀ j, j < p → listed.getD j false = true
    · exact hall _ listed a w hf hz hI hJ hD hdone
    have hnd : ∃ j, j < p ∧ listed.getD j false = false := by
      apply Classical.byContradiction
      intro h
      refine hdone fun j hj => ?_
      cases hb : listed.getD j false
      · exact absurd ⟨j, hj, hb⟩ h
      · rfl
    obtain ⟨j0, hj0, hl0⟩ := hnd
    refine ⟨fun hr => absurd hr (ready_ex hbk hI.size j0 (by omega) hl0), fun i hi => ?_⟩
    obtain ⟨h1, h2, o, ho, hready⟩ := ready_of hi hI.size
    have hip : i < p := by
      rcases Nat.lt_or_ge i p with h | h
      · exact h
      · have := chain_listed hch hI.closed h1 h (fun o' ho' => by rw [ho] at ho'; obtain rfl := Option.some.inj ho'; exact hready) j0 (by omega)
        rw [hl0] at this
        cases this
    have hctx : LCtx ops R D J a0 i (fun k => listed.getD k false) a w := by
      have hpc := preds_closed hI.closed 3 i (fun o' ho' => by rw [ho] at ho'; obtain rfl := Option.some.inj ho'; exact hready)
      refine ⟨hJ, hI.tsize, h2, hpc, fun k d hk hkd => hD k d (hpc k hk) hkd, fun t ht => hI.rest t fun k hl hkd => ?_⟩
      unfold origB at ht
      rw [List.all_eq_true] at ht
      have h3 := ht k (by simpa using hin k t hkd)
      rw [hkd] at h3
      simp only [bne_self_eq_false, Bool.false_or, List.contains_iff_mem] at h3
      have := preds_closed hI.closed 3 k (fun o' ho' e he hb' => hI.closed k o' ho' hl e he hb') i h3
      rw [h2] at this
      cases this
    have hs := step i hip o ho _ a w hctx
    have hfl : falses (listed.setIfInBounds i true) ≤ fuel := by
      have := falses_set listed i (by rw [hI.size]; exact h1) h2
      omega
    have hls : i < listed.size := by rw [hI.size]; exact h1
    have hz' : ∀ j, p ≤ j → (listed.setIfInBounds i true).getD j false = false := fun j hj => by
      rw [getD_setIf _ _ _ hls, if_neg (by omega)]
      exact hz j hj
    have hup : (fun k => (listed.setIfInBounds i true).getD k false) = upd (fun k => listed.getD k false) i := upd_listed _ _ hls
    have hdo : dstOf ops i = o.dst := by simp [dstOf, ho]
    have hnext : ∀ v w', (D i).ok v w' → R (fun k => listed.getD k false) w w' → ∀ j d, (listed.setIfInBounds i true).getD j false = true → dstOf ops j = some d → (D j).ok ((a.put o.dst v).tmps.getD d undef) w' := by
      intro v w' hv hR j d hl hjd
      rw [getD_setIf _ _ _ hls] at hl
      have hput : (a.put o.dst v).tmps.getD d undef = if o.dst = some d then v else a.tmps.getD d undef := by
        cases hod : o.dst with
        | none => simp [Act.put]
        | some d' =>
          have hlt := (hdist i i d' h1 h1 (by rw [hdo, hod])).1
          simp only [Act.put]
          rw [getD_put _ _ _ _ (by rw [hI.tsize]; exact hlt)]
          simp
      rw [hput]
      by_cases hij : i = j
      · subst hij
        rw [hdo] at hjd
        rw [if_pos hjd]
        exact hv
      · rw [if_neg hij] at hl
        rw [if_neg (fun h => hij ((hdist i j d h1 (hin j d hjd) (by rw [hdo]; exact h)).2 hjd))]
        exact hkeep j (Nat.lt_of_not_le fun h => by rw [hz j h] at hl; cases hl) _ _ _ _ hl (hD j d hl hjd) hR
    unfold wpOp
    rw [ho]
    simp only
    split
    · rename_i hw
      rw [if_pos hw] at hs
      refine Or.inl (Oper.wp_mono ?_ hs)
      rintro a' w' ⟨v, rfl, hv, hR, hb⟩
      exact ih _ _ _ hfl hz' (val_put (v := v) hI h1 ho hd hready trivial trivial) (by rw [hup]; exact hb) (hnext v w' hv hR)
    · rename_i hw
      rw [if_neg hw] at hs
      exact ih _ _ _ hfl hz' (val_put (v := undef) hI h1 ho hd hready trivial trivial) (by rw [hup]; exact hs.2) (hnext undef w hs.1 (hrefl _ w))
/-- THE LAW -/
theorem region_relL {id : Nat} {a0 : Act} {w0 : World} (p : Nat) (R : (Nat → Bool) → World → World → Prop) (D : Nat → LD) (ds : List (Option Tmp)) (J : (Nat → Bool) → World → Prop) (hkeep : ∀ i, i < p → LD.keeps R i (D i)) (hrefl : ∀ L w, R L w w) (hm : P.follows .mixedOrders = true) (hd : distinctB ops a0.tmps.size = true) (hbk : backB ops = true)
    (hch : chainB ops p = true) (hds : (ops.toList.take p).map (·.dst) = ds)
    (h0 : J (fun _ => false) w0.drew)
    (step : ∀ i, i < p → LStep P ops Q R D J a0 i)
    (fin : ∀ L V w, (∀ i, i < p → L i = true) → V.length = ds.length → J L w → (∀ i d, ds[i]? = some (some d) → (D i).ok (V.getD i undef) w) → wpList P ops Q (ops.toList.drop p) (putsL (ds.zip V) a0) w) :
    (Code.region id ops true).wp P Q a0 w0 := by
  refine wp_region_any hm ?_
  have hps : p ≤ ops.size := by
    unfold chainB at hch
    rw [Bool.and_eq_true] at hch
    simpa using hch.1
  have hg : ∀ i, (Array.replicate ops.size false).getD i false = false := by
    intro i
    rw [Array.getD_eq_getD_getElem?, Array.getElem?_replicate]
    split <;> rfl
  refine relL_any (D := D) (J := J) (a0 := a0) hkeep hrefl hch hd hbk step (fun L a w hall hJ hde hts hs hr => ?_) _ _ _ _ ?_ (fun j _ => hg j) ⟨by simp, trivial, rfl, rfl, fun i o _ h => (by rw [hg] at h; cases h), fun i d h => (by rw [hg] at h; cases h), fun _ _ => rfl⟩ ?_ (fun i d h => by rw [hg] at h; cases h)
  · have hlt : ∀ i x, ds[i]? = some x → i < p := by
      intro i x h
      have := (List.getElem?_eq_some_iff.1 h).1
      rw [← hds] at this
      simp at this
      omega
    have hdi : ∀ i d, ds[i]? = some (some d) → dstOf ops i = some d := by
      intro i d h
      have hi := hlt i _ h
      rw [← hds, List.getElem?_map, List.getElem?_take_of_lt hi, Array.getElem?_toList] at h
      unfold dstOf
      cases ho : ops[i]? with
      | none => rw [ho] at h; cases h
      | some o => rw [ho] at h; simpa using h
    have hdi' : ∀ i d, i < p → dstOf ops i = some d → ds[i]? = some (some d) := by
      intro i d hi h
      rw [← hds, List.getElem?_map, List.getElem?_take_of_lt hi, Array.getElem?_toList]
      unfold dstOf at h
      cases ho : ops[i]? with
      | none => rw [ho] at h; cases h
      | some o => rw [ho] at h; simpa using h
    have e := putsL_eq (a0 := a0) (a := a) (l := ds.zip (slotsOf a.tmps ds)) hde hts ?_ ?_
    · have hf := fin L (slotsOf a.tmps ds) w hall (by simp [slotsOf]) hJ fun i d h => by
        have := hs i d (hlt i _ h) (hdi i d h)
        have e2 : (slotsOf a.tmps ds).getD i undef = a.tmps.getD d undef := by
          unfold slotsOf
          rw [List.getD_eq_getElem?_getD, List.getElem?_map, h]
          rfl
        rw [e2]
        exact this
      rw [← e] at hf
      exact hf
    · intro x hx t ht
      obtain ⟨i, hi⟩ := List.mem_iff_getElem?.1 hx
      obtain ⟨h1, h2⟩ := List.getElem?_zip_eq_some.1 hi
      unfold slotsOf at h2
      rw [List.getElem?_map, h1] at h2
      obtain ⟨d, v⟩ := x
      simp only at ht h1 h2
      subst ht
      simpa using h2
    · intro t ht
      refine hr t fun i hip hdt => ?_
      have h1 := hdi' i t hip hdt
      have h3 : (slotsOf a.tmps ds)[i]? = some (a.tmps.getD t undef) := by
        unfold slotsOf
        rw [List.getElem?_map, h1]
        rfl
      exact ht (some t, a.tmps.getD t undef) (List.mem_iff_getElem?.2 ⟨i, List.getElem?_zip_eq_some.2 ⟨h1, h3⟩⟩) rfl
  · unfold falses
    simp
  · rw [show (fun i => (Array.replicate ops.size false).getD i false) = fun _ => false from funext hg]
    exact h0
theorem LCtx.slot {i : Nat} {L : Nat → Bool} {a : Act} {w : World} (c : LCtx ops R D J a0 i L a w) (k x : Nat) (hk : (preds ops 3 i).contains k = true) (hx : dstOf ops k = some x) : (D k).ok (a.tmps.getD x undef) w :=
  c.pred k x (by simpa using hk) hx
/-! ### one operation -/
variable {i : Nat} {o : Oper}
theorem lwant_none (hg : o.guard = none) : ∀ L a w, LCtx ops R D J a0 i L a w → Region.wanted o (yielded ops a.tmps) = true := fun _ _ _ _ => by simp [Region.wanted, hg]
theorem lwant (j : Nat) (want : Bool) (d : Tmp) (hg : o.guard = some (j, want)) (hj : (preds ops 3 i).contains j = true) (hdj : dstOf ops j = some d) (hD : D j = .is (.bool want)) (hlt : decide (d < a0.tmps.size) = true) :
    ∀ L a w, LCtx ops R D J a0 i L a w → Region.wanted o (yielded ops a.tmps) = true := fun L a w c => by
  have hsz := c.tsize
  have h := c.pred j d (by simpa using hj) hdj
  rw [hD] at h
  have h : a.tmps.getD d undef = .bool want := h
  have hlt : d < a.tmps.size := by rw [hsz]; simpa using hlt
  have hy : yielded ops a.tmps j = some want := by
    unfold yielded
    have hdj' : (ops[j]?).bind (·.dst) = some d := hdj
    rw [hdj']
    rw [Array.getD_eq_getD_getElem?, Array.getElem?_eq_getElem hlt] at h
    simp only [Option.getD_some] at h
    simp [Array.getElem?_eq_getElem hlt, h]
  simp [Region.wanted, hg, hy]
/-- the guard says no -/
theorem lstep_unwanted (ho : ops[i]? = some o) (j : Nat) (want : Bool) (d : Tmp) (hg : o.guard = some (j, want)) (hj : (preds ops 3 i).contains j = true) (hdj : dstOf ops j = some d) (hD : D j = .is (.bool (!want)) ∨ D j = .is undef) (hlt : decide (d < a0.tmps.size) = true)
    (hu : D i = .is undef) (hJ : ∀ L w, J L w → J (upd L i) w) : LStep P ops Q R D J a0 i := by
  intro o' ho' L a w c
  rw [ho] at ho'
  obtain rfl := Option.some.inj ho'
  have hsz := c.tsize
  have h := c.pred j d (by simpa using hj) hdj
  have hlt : d < a.tmps.size := by rw [hsz]; simpa using hlt
  have h : a.tmps.getD d undef = .bool (!want) ∨ a.tmps.getD d undef = undef := by
    rcases hD with hD | hD
    · rw [hD] at h; exact .inl h
    · rw [hD] at h; exact .inr h
  have hy : Region.wanted o (yielded ops a.tmps) = false := by
    have hy : yielded ops a.tmps j = some (!want) ∨ yielded ops a.tmps j = none := by
      unfold yielded
      have hdj' : (ops[j]?).bind (·.dst) = some d := hdj
      rw [hdj']
      rw [Array.getD_eq_getD_getElem?, Array.getElem?_eq_getElem hlt] at h
      simp only [Option.getD_some] at h
      rcases h with h | h
      · left; simp [Array.getElem?_eq_getElem hlt, h]
      · right; simp [Array.getElem?_eq_getElem hlt, h, undef]
    rcases hy with hy | hy
    · cases want <;> simp [Region.wanted, hg, hy]
    · simp [Region.wanted, hg, hy]
  rw [if_neg (by rw [hy]; simp)]
  exact ⟨by rw [hu]; rfl, hJ _ _ c.world⟩
/-- one that leaves the world as it is -/
theorem lstep_pure (hrefl : ∀ L w, R L w w) (ho : ops[i]? = some o) (hw : ∀ L a w, LCtx ops R D J a0 i L a w → Region.wanted o (yielded ops a.tmps) = true) (hJ : ∀ L w, J L w → J (upd L i) w)
    (h : ∀ L a w, LCtx ops R D J a0 i L a w → ∃ v, (execOp a.eval o).run P w = .ok (.value v) w ∧ (D i).ok v w) : LStep P ops Q R D J a0 i := by
  intro o' ho' L a w c
  rw [ho] at ho'
  obtain rfl := Option.some.inj ho'
  rw [if_pos (hw L a w c)]
  obtain ⟨v, hr, hv⟩ := h L a w c
  unfold Oper.wp
  rw [hr]
  exact ⟨v, rfl, hv, hrefl _ w, hJ _ _ c.world⟩
theorem lstep_copy (hrefl : ∀ L w, R L w w) (ho : ops[i]? = some o) (hw : ∀ L a w, LCtx ops R D J a0 i L a w → Region.wanted o (yielded ops a.tmps) = true) (hJ : ∀ L w, J L w → J (upd L i) w) (t : Tmp) (hop : o.op = .move (.tmp t) ∨ o.op = .assign (.tmp t))
    (k : Nat) (hk : (preds ops 3 i).contains k = true) (hkd : dstOf ops k = some t) (hD : D i = D k) : LStep P ops Q R D J a0 i :=
  lstep_pure hrefl ho hw hJ fun L a w c => ⟨a.tmps.getD t undef, by rcases hop with h | h <;> simp [execOp, h, Act.eval], by rw [hD]; exact c.pred k t (by simpa using hk) hkd⟩
theorem lstep_first (hrefl : ∀ L w, R L w w) (ho : ops[i]? = some o) (hw : ∀ L a w, LCtx ops R D J a0 i L a w → Region.wanted o (yielded ops a.tmps) = true) (hJ : ∀ L w, J L w → J (upd L i) w) (t : Tmp) (hop : o.op = .move (.tmp t) ∨ o.op = .assign (.tmp t))
    (ht : origB ops i t = true) (hD : ∀ w, (D i).ok (a0.tmps.getD t undef) w) : LStep P ops Q R D J a0 i :=
  lstep_pure hrefl ho hw hJ fun L a w c => ⟨a.tmps.getD t undef, by rcases hop with h | h <;> simp [execOp, h, Act.eval], by rw [c.orig t ht]; exact hD w⟩
theorem lstep_const (hrefl : ∀ L w, R L w w) (ho : ops[i]? = some o) (hw : ∀ L a w, LCtx ops R D J a0 i L a w → Region.wanted o (yielded ops a.tmps) = true) (hJ : ∀ L w, J L w → J (upd L i) w) (v : Value) (hop : o.op = .move (.const v) ∨ o.op = .assign (.const v)) (hD : D i = .is v) : LStep P ops Q R D J a0 i :=
  lstep_pure hrefl ho hw hJ fun L a w _ => ⟨v, by rcases hop with h | h <;> simp [execOp, h, Act.eval], by rw [hD]; rfl⟩
theorem lstep_call (ho : ops[i]? = some o) (hw : ∀ L a w, LCtx ops R D J a0 i L a w → Region.wanted o (yielded ops a.tmps) = true) (f : FuncId) (args : Array Operand) (ts : Array TypeId)
    (hop : o.op = .call { callee := .value (.func f), args := args, argTypes := ts }) (he : ∀ vs w, (callFunc f vs).run P w = .ok (.enter f vs) w)
    (h : ∀ L a w, LCtx ops R D J a0 i L a w → Calls P f (args.map a.eval) w fun e w' => ∃ v, e = .returned v ∧ (D i).ok v w' ∧ R L w w' ∧ J (upd L i) w') : LStep P ops Q R D J a0 i := by
  intro o' ho' L a w c
  rw [ho] at ho'
  obtain rfl := Option.some.inj ho'
  rw [if_pos (hw L a w c)]
  have hr : (execOp a.eval o).run P w = .ok (.enter f (args.map a.eval)) w := by
    simp [execOp, hop, resolve, Deferred.ofValue, Act.eval, invoke, he]
  unfold Oper.wp
  rw [hr]
  refine (h L a w c).mono ?_
  rintro e w' ⟨v, rfl, hv, hb⟩
  exact ⟨v, rfl, hv, hb⟩
/-- a new variable -/
theorem lstep_alloc (ho : ops[i]? = some o) (hw : ∀ L a w, LCtx ops R D J a0 i L a w → Region.wanted o (yielded ops a.tmps) = true) (t : TypeId) (hop : o.op = .alloc t) (z : Value)
    (hz : (P.info? t).bind (·.zero) = some z)
    (h : ∀ L w, J L w → L i = false → (D i).ok (.pointer (some ⟨w.heap.size, 0, none⟩)) (w.alloc (.cells z.cells t)) ∧ R L w (w.alloc (.cells z.cells t)) ∧ J (upd L i) (w.alloc (.cells z.cells t))) : LStep P ops Q R D J a0 i := by
  intro o' ho' L a w c
  rw [ho] at ho'
  obtain rfl := Option.some.inj ho'
  rw [if_pos (hw L a w c)]
  have hzv : (zeroValue t).run P w = .ok z w := by
    cases hi : P.info? t with
    | none => simp [hi] at hz
    | some i =>
      simp [hi] at hz
      simp [zeroValue, typeInfo, hi, hz]
  have hr : (Instr.alloc t true (.tuple #[])).run P w = .ok (.pointer (some ⟨w.heap.size, 0, none⟩)) (w.alloc (.cells z.cells t)) := by
    simp [Instr.alloc, hzv, newVar, newRow]
  unfold Oper.wp execOp
  simp only [hop, Sem.run_bind, hr, Result.andThen_ok]
  exact ⟨_, rfl, h L w c.world c.fresh⟩
end
end Nac
/- A region that draws its order and appends one cell to a row, other operations in between: its slots, by XRelL. -/
namespace Nac
open Go Go.RowKit
section
variable {P : Program} {ops : Array Oper} {Q : Exit → Act → World → Prop} {R : (Nat → Bool) → World → World → Prop} {D : Nat → LD} {J : (Nat → Bool) → World → Prop} {a0 : Act} {i : Nat} {o : Oper}
theorem lstep_gen (ho : ops[i]? = some o) (hw : ∀ L a w, LCtx ops R D J a0 i L a w → Region.wanted o (yielded ops a.tmps) = true)
    (h : ∀ L a w, LCtx ops R D J a0 i L a w → ∃ v w', (execOp a.eval o).run P w = .ok (.value v) w' ∧ (D i).ok v w' ∧ R L w w' ∧ J (upd L i) w') : LStep P ops Q R D J a0 i := by
  intro o' ho' L a w c
  rw [ho] at ho'
  obtain rfl := Option.some.inj ho'
  rw [if_pos (hw L a w c)]
  obtain ⟨v, w', hr, hv, hj⟩ := h L a w c
  unfold Oper.wp
  rw [hr]
  exact ⟨v, rfl, hv, hj⟩
end
def AppJ (W : World) (row : Option Nat) (ia : Nat) (L : Nat → Bool) (w : World) : Prop := W.grownBy w row ∧ (L ia = false → W.grownBy w none)
def AppR (row : Option Nat) (ia : Nat) (L : Nat → Bool) (w w' : World) : Prop := w.grownBy w' row ∧ (L ia = true → w.grownBy w' none)
theorem AppR.refl (row : Option Nat) (ia : Nat) (L : Nat → Bool) (w : World) : AppR row ia L w w := ⟨World.grownBy.refl w _, fun _ => World.grownBy.refl w _⟩
theorem AppJ.pure {W : World} {row : Option Nat} {ia i : Nat} (h : i ≠ ia) (L : Nat → Bool) (w : World) (hj : AppJ W row ia L w) : AppJ W row ia (upd L i) w :=
  ⟨hj.1, fun e => hj.2 (by unfold upd at e; rw [if_neg (fun e' => h e'.symm)] at e; exact e)⟩
theorem AppJ.start (W : World) (row : Option Nat) (ia : Nat) : AppJ W row ia (fun _ => false) W.drew := ⟨⟨rfl, rfl, rfl, Nat.le_refl _, fun _ _ _ => rfl⟩, fun _ => ⟨rfl, rfl, rfl, Nat.le_refl _, fun _ _ _ => rfl⟩⟩
def Built1 (W : World) (u : Value) (v : Value) (w : World) : Prop := ∃ g c2, v = .slice (some ⟨g, 0, none⟩) 1 c2 ∧ w.cell? ⟨g, 0, none⟩ = some u ∧ W.heap.size ≤ g
end Nac
namespace Go.Proofs.Ytgeffkdobnipgaa
open Go.RowKit Nac
def Apped (W : World) (E : TypeId) (A : Option Addr) (n : Nat) (xs : List Value) (u : Value) (v : Value) (w : World) : Prop := ∃ A' c', v = .slice A' (n + 1) c' ∧ Row w E 1 A' c' (n + 1) (xs ++ [u]) ∧ NewB W A A'
theorem grown_cell {w w' : World} {row : Option Nat} {b k : Nat} (hg : w.grownBy w' row) (hb : b < w.heap.size) (hne : some b ≠ row) : w'.cell? ⟨b, k, none⟩ = w.cell? ⟨b, k, none⟩ := by
  unfold World.cell?
  rw [hg.block b hb hne]
theorem cell_lt {w : World} {b k : Nat} {v : Value} (h : w.cell? ⟨b, k, none⟩ = some v) : b < w.heap.size := by
  apply Classical.byContradiction
  intro hb
  unfold World.cell? at h
  rw [Array.getElem?_eq_none (Nat.le_of_not_lt hb)] at h
  simp at h
section
variable {W : World} {row : Option Nat} {ia : Nat}
theorem keep_built (i : Nat) (u : Value) (hrow : ∀ k, row = some k → k < W.heap.size) : LD.keeps (AppR row ia) i (.pr (Built1 W u)) := by
  rintro L v w w' _ ⟨g, c2, rfl, hc, hg⟩ hr
  exact ⟨g, c2, rfl, (grown_cell hr.1 (cell_lt hc) (fun e => by have := hrow g e.symm; omega)).trans hc, hg⟩
theorem keep_apped (E : TypeId) (A : Option Addr) (n : Nat) (xs : List Value) (u : Value) : LD.keeps (AppR row ia) ia (.pr (Apped W E A n xs u)) := by
  rintro L v w w' hl ⟨A', c', rfl, hrow, hn⟩ hr
  refine ⟨A', c', rfl, hrow.kept (hr.2 hl) ?_, hn⟩
  cases A' with
  | none => exact .inl rfl
  | some a => exact .inr (by simp)
end
section
variable {ops : Array Oper} {Q : Exit → Act → World → Prop} {D : Nat → LD} {a0 : Act} {i ia : Nat} {o : Oper} {W : World} {row : Option Nat}
/-- a row of one cell -/
theorem lstep_build1 {T E : TypeId} (hi : i ≠ ia) (ho : ops[i]? = some o) (hw : ∀ L a w, LCtx ops (AppR row ia) D (AppJ W row ia) a0 i L a w → Region.wanted o (yielded ops a.tmps) = true)
    (x : Tmp) (hop : o.op = .buildSlice T 1 #[(0, .tmp x)]) (u : Value)
    (hr : ∀ w, (Instr.buildSlice T 1 #[(0, u)]).run Try.prog w = .ok (.slice (some ⟨w.heap.size, 0, none⟩) 1 1) (w.alloc (.cells #[u] E)))
    (hx : ∀ L a w, LCtx ops (AppR row ia) D (AppJ W row ia) a0 i L a w → a.tmps.getD x undef = u) (hD : D i = .pr (Built1 W u)) : LStep Try.prog ops Q (AppR row ia) D (AppJ W row ia) a0 i := by
  refine lstep_gen ho hw fun L a w c => ⟨.slice (some ⟨w.heap.size, 0, none⟩) 1 1, w.alloc (.cells #[u] E), ?_, ?_, ?_, ?_⟩
  · have e := hx L a w c
    unfold execOp
    simp only [hop, List.map_toArray, List.map_cons, List.map_nil, Act.eval, e, Sem.run_bind, hr, Result.andThen_ok, Sem.run_pure]
  · rw [hD]
    exact ⟨w.heap.size, 1, rfl, by rw [World.cell?_alloc_at _ _ _ _ rfl]; rfl, c.world.1.size⟩
  · exact ⟨World.grownBy_alloc w _ _, fun _ => World.grownBy_alloc w _ _⟩
  · exact AppJ.pure hi L _ ⟨c.world.1.trans (World.grownBy_alloc w _ _), fun e => (c.world.2 e).trans (World.grownBy_alloc w _ _)⟩
/-- append of it -/
theorem lstep_app1 {T E : TypeId} {z : Value} {bytes : Nat} (hT : Try.prog.underlying T = some (.slice E)) (hinfo : (Try.prog.info? E).map (fun i => (i.zero, i.size, i.bytes)) = some (some z, 1, bytes)) (hz1 : z.cells.size = 1) (hby : bytes ≤ 8)
    (ho : ops[ia]? = some o) (hw : ∀ L a w, LCtx ops (AppR row ia) D (AppJ W row ia) a0 ia L a w → Region.wanted o (yielded ops a.tmps) = true) (s x : Tmp)
    (hop : o.op = .call { callee := .builtin .append, args := #[.tmp s, .tmp x], argTypes := #[T, T] })
    (A : Option Addr) (c n : Nat) (xs : List Value) (u : Value) (hrA : row = A.map (·.block)) (hown : Row W E 1 A c n xs) (hu1 : u.oneCell' = true) (hlen : n ≤ 1000000)
    (hs : ∀ L a w, LCtx ops (AppR row ia) D (AppJ W row ia) a0 ia L a w → a.tmps.getD s undef = .slice A n c)
    (hx : ∀ L a w, LCtx ops (AppR row ia) D (AppJ W row ia) a0 ia L a w → Built1 W u (a.tmps.getD x undef) w) (hD : D ia = .pr (Apped W E A n xs u)) : LStep Try.prog ops Q (AppR row ia) D (AppJ W row ia) a0 ia := by
  subst hrA
  obtain ⟨ti, hi, hz, hs1, hb1⟩ := info_parts hinfo
  refine lstep_gen ho hw fun L a w cc => ?_
  have eb : Value.ownBlock (.slice A n c) = A.map (·.block) := by cases A <;> rfl
  have hmul : (n + 1) * bytes ≤ (n + 1) * 8 := Nat.mul_le_mul_left _ hby
  obtain ⟨g, c2, hxv, hsrc, hg⟩ := hx L a w cc
  have hgn := cc.world.2 cc.fresh
  have hown2 : Row w E 1 A c n xs := hown.kept hgn (by
    cases A with
    | none => exact .inl rfl
    | some a => exact .inr (by simp))
  obtain ⟨v', w', hr, h2, h3, _, h5⟩ := run_append_own_at (P := Try.prog) w 0 T o.type E ti z 1 bytes hT hi hz hs1 hb1 hz1 (by decide) _ n xs hown2 ⟨g, 0, none⟩ 1 c2 [u] rfl
    (fun j v hv => by
      have hj : j = 0 := by have := (List.getElem?_eq_some_iff.1 hv).1; simpa using this
      subst hj
      simp at hv
      subst hv
      simpa [Addr.add] using hsrc) (fun v hv => by simp at hv; subst hv; exact hu1) (by unfold maxLen; omega) (by omega) (Nat.zero_le _)
  obtain ⟨A', c', rfl⟩ := own_formI h2
  have eb' : Value.ownBlock (.slice A' (n + 1) c') = A'.map (·.block) := by cases A' <;> rfl
  rw [eb] at h3 h5
  rw [eb'] at h5
  have e1 := hs L a w cc
  refine ⟨.slice A' (n + 1) c', w', ?_, ?_, ?_, ?_⟩
  · unfold execOp
    simp only [hop, resolve, invoke, builtin, Sem.run_bind, Sem.run_pure, Result.andThen_ok, List.map_toArray, List.map_cons, List.map_nil, Act.eval, e1, hxv, hr]
  · rw [hD]
    refine ⟨A', c', rfl, h2, ?_⟩
    rcases h5 with h5 | h5
    · exact .inl h5
    · exact .inr fun g hg => by rw [h5] at hg; injection hg with hg; have := hgn.size; omega
  · exact ⟨h3, fun e => by rw [cc.fresh] at e; cases e⟩
  · exact ⟨(grown_none hgn).trans h3, fun e => by simp [upd] at e⟩
end
end Go.Proofs.Ytgeffkdobnipgaa
/- procs: release and wait. -/
namespace Go.Proofs.Ytgeffkdobnipgaa
open Go.RowKit Nac Nac.Procs
section
variable {w0 w w' : World} {S : Nat} {P : PSet} {A0 A A' : Nat → Option Addr} {c c' : Nat → Nat}
theorem s3Out : (Try.prog.info? 37).map (·.size) = some 3 := by kernel_rfl
/-- a store of the last outcome of a process -/
theorem wpList_storeLast {ops : Array Oper} {rest : List Oper} {o : Oper} {a : Act} {Q : Exit → Act → World → Prop} (hg : o.guard = none) (x y : Operand) (hop : o.op = .store 37 x y)
    (H : Hid (SetM w S P A c)) (HF : Hid (FrS S A0 w0 A w)) {p g : Nat} (u : Out) (hp : p < P.ps.length) (hA : Hid (A 0 = some ⟨g, 0, none⟩))
    (hx : a.eval x = .pointer (some ⟨g, p * 8 + 2, none⟩)) (hy : a.eval y = .agg #[.int .i64 u.code, .int .i64 u.value, .bool u.waits])
    (h : ∀ w', Hid (SetM w' S (P.setP p { P.proc p with last := u }) A c) → Hid (FrS S A0 w0 A w') → wpList Try.prog ops Q rest (a.put o.dst undef) w') : wpList Try.prog ops Q (o :: rest) a w := by
  have ht : w.there g (p * 8 + 2) 3 := fun j hj => by
    obtain ⟨v, hv⟩ := pcells_get (P.proc p) (f := 2 + j) (by omega)
    have := H.out.pget hp hA.out hv
    rw [show p * 8 + 2 + j = p * 8 + (2 + j) by omega]
    exact ⟨by rw [this]; rfl, H.out.pfree hp hA.out _⟩
  refine wpList_store_mid hg 37 x y hop g (p * 8 + 2) #[.int .i64 u.code, .int .i64 u.value, .bool u.waits] hx hy ht s3Out (by simp [Value.oneCell']) ?_
  have h1 := H.out.storeP hp (f := 2) (by decide) (.int .i64 u.code) { P.proc p with last := ⟨u.code, (P.proc p).last.value, (P.proc p).last.waits⟩ } rfl hA.out
  have h2 := h1.storeP (p := p) (f := 3) (by rw [ps_setP]; exact hp) (by decide) (.int .i64 u.value) { P.proc p with last := ⟨u.code, u.value, (P.proc p).last.waits⟩ } (by rw [proc_setP hp]; rfl) hA.out
  rw [setP_setP] at h2
  have h3 := h2.storeP (p := p) (f := 4) (by rw [ps_setP]; exact hp) (by decide) (.bool u.waits) { P.proc p with last := u } (by rw [proc_setP hp]; rfl) hA.out
  rw [setP_setP] at h3
  have hf : FrS S A w A (w.setCells g (p * 8 + 2) [.int .i64 u.code, .int .i64 u.value, .bool u.waits]) := FrS.grown (grown_setCells g _ _ _) fun k e => .inl (by injection e with e; rw [← e]; exact H.out.footP hA.out)
  exact h _ (Lib.hid h3) (Lib.hid (HF.out.trans hf))
end
theorem FrS.cells {S : Nat} {A A' : Nat → Option Addr} {w w' : World} {b : Nat} {cs : List Value} (h : FrS S A w A' w') (hb : Blk w b cs) (hf : ¬ Foot S A b) : Blk w' b cs := h.blk hb hf
theorem SetM.notFoot {w : World} {S : Nat} {P : PSet} {A : Nat → Option Addr} {c : Nat → Nat} (h : SetM w S P A c) {b : Nat} (hb : w.heap.size ≤ b) : ¬ Foot S A b := by
  rintro (rfl | ⟨j, hj⟩)
  · have := h.blk.lt; omega
  · have := h.lt j b hj; omega
theorem FrS.of {S : Nat} {A A' : Nat → Option Addr} {w0 w w' : World} (hb : Below w0.heap.size w0 w) (h : FrS S A w A' w') : FrS S A w0 A' w' := (FrS.below hb).trans h
theorem release_calls (w : World) (S : Nat) (P : PSet) (A : Nat → Option Addr) (c : Nat → Nat) (h : SetM w S P A c) (hw : Wf P 999) (p : Nat) (hp : p < P.ps.length) (oc ov : Int) (ow : Bool) :
    Calls Try.prog 31 #[.pointer (some ⟨S, 0, none⟩), .int .i64 (p : Int), .agg #[.int .i64 oc, .int .i64 ov, .bool ow]] w (RetSet w S A (.tuple #[]) (release P p ⟨oc, ov, ow⟩)) := by
  have hb1 : Below w.heap.size w (w.alloc (.cells #[.int .i64 oc, .int .i64 ov, .bool ow] 37)) := (Below.refl _ _).alloc (Nat.le_refl _) _
  have H1 := Lib.hid (h.below hb1)
  have HF1 : Hid (FrS S A w A (w.alloc (.cells #[.int .i64 oc, .int .i64 ov, .bool ow] 37))) := Lib.hid (FrS.below hb1)
  obtain ⟨b, hb⟩ : ∃ b, b = w.heap.size := ⟨_, rfl⟩
  have BX1 : Hid (Blk (w.alloc (.cells #[.int .i64 oc, .int .i64 ov, .bool ow] 37)) b [.int .i64 oc, .int .i64 ov, .bool ow]) := Lib.hid (by rw [hb]; exact Blk.new w [.int .i64 oc, .int .i64 ov, .bool ow] 37)
  have HNF : Hid (¬ Foot S A b) := Lib.hid (h.notFoot (by rw [hb]; exact Nat.le_refl _))
  have HW := Lib.hid hw
  have HP := Lib.hid hp
  have HBE := Lib.hid hb
  clear h hw hp hb hb1
  go_enter Try.func31, Try.ntmps31
  go_wp2_with fail
  rw [← HBE.out]
  refine (leave_calls _ S P A c H1.out ⟨HW.out.n, HW.out.m, by have := HW.out.rd; omega, fun r => by have := HW.out.q r; omega, HW.out.res⟩ p HP.out).mono ?_
  rintro e w2 ⟨rfl, A1, c1, h2, hf2⟩
  have HF2 := Lib.hid (HF1.out.trans hf2)
  have BX2 := Lib.hid (hf2.blk BX1.out HNF.out)
  have hp2 : p < (leave P p).ps.length := by rw [leave_n]; exact HP.out
  obtain ⟨g, hA, _⟩ := h2.pcell hp2
  obtain ⟨n, hn⟩ : ∃ n, n = (leave P p).ps.length := ⟨_, rfl⟩
  have C0 : Hid (∀ w', Below w2.drew.heap.size w2.drew w' → w'.cell? ⟨S, 0, none⟩ = some (.slice (some ⟨g, 0, none⟩) n (c1 0))) := Lib.hid fun w' hb' => (h2.drew.below hb').head0 hA hn
  have BX : Hid (∀ w', Below w2.drew.heap.size w2.drew w' → w'.cell? ⟨b, 0, none⟩ = some (.int .i64 oc) ∧ w'.cell? ⟨b, 1, none⟩ = some (.int .i64 ov) ∧ w'.cell? ⟨b, 2, none⟩ = some (.bool ow)) := Lib.hid fun w' hb' => by
    have := BX2.out.drew.below hb' BX2.out.lt
    exact ⟨this.cell rfl, this.cell rfl, this.cell rfl⟩
  have HP2 := Lib.hid hp2
  have hpn : p < n := by rw [hn]; exact hp2
  have hn8 : n ≤ 1000 := by rw [hn, leave_n]; exact HW.out.n
  have H2 := Lib.hid h2
  have HA := Lib.hid hA
  clear h2 hf2 hA hn hp2 HF1 H1 BX1 BX2 HNF
  go_wp2_with fail
  refine region_tails 8 (fun ix9 => ([.is (.pointer (some ⟨S, 0, none⟩)), .is (.pointer (some ⟨S, 0, none⟩)), .is (.pointer (some ⟨S, 0, none⟩)), .is (.slice (some ⟨g, 0, none⟩) n (c1 0)), .is (.int .i64 (p : Int)), .is (.agg #[.int .i64 oc, .int .i64 ov, .bool ow]), .is (.pointer (some ⟨g, p * 8, none⟩)), .is (.pointer (some ⟨g, p * 8 + 2, none⟩))] : List VD).getD ix9 (.is undef)) [some 9, some 10, some 11, some 12, some 13, some 14, some 15, some 16] (by kernel_rfl) (by kernel_rfl) (by kernel_rfl) (by kernel_rfl) rfl (fun ii hii => ?_) ?_
  · match ii, hii with
    | 0, _ => exact mstep_first rfl (mwant_none rfl) 0 (Or.inl rfl) (by kernel_rfl) (fun _ _ => rfl)
    | 1, _ => exact mstep_pure rfl (mwant_none rfl) (fun aa ww cc => ⟨.pointer (some ⟨S, 0, none⟩), by have e0 : aa.tmps.getD 9 undef = .pointer (some ⟨S, 0, none⟩) := cc.slot 0 9 (by kernel_rfl) rfl; simp only [execOp, Act.eval, e0]; go_simp, rfl⟩)
    | 2, _ => exact mstep_pure rfl (mwant_none rfl) (fun aa ww cc => ⟨.pointer (some ⟨S, 0, none⟩), by have e0 : aa.tmps.getD 10 undef = .pointer (some ⟨S, 0, none⟩) := cc.slot 1 10 (by kernel_rfl) rfl; simp only [execOp, Act.eval, e0]; go_simp, rfl⟩)
    | 3, _ => exact mstep_pure rfl (mwant_none rfl) (fun aa ww cc => ⟨.slice (some ⟨g, 0, none⟩) n (c1 0), by have e0 : aa.tmps.getD 11 undef = .pointer (some ⟨S, 0, none⟩) := cc.slot 2 11 (by kernel_rfl) rfl; have q := C0.out _ cc.below; simp only [execOp, Act.eval, e0]; go_simp, rfl⟩)
    | 4, _ => exact mstep_first rfl (mwant_none rfl) 1 (Or.inl rfl) (by kernel_rfl) (fun _ _ => rfl)
    | 5, _ => exact mstep_pure rfl (mwant_none rfl) (fun aa ww cc => ⟨.agg #[.int .i64 oc, .int .i64 ov, .bool ow], by have e0 : aa.tmps.getD 5 undef = .pointer (some ⟨b, 0, none⟩) := (cc.orig 5 (by kernel_rfl)).trans rfl; obtain ⟨q0, q1, q2⟩ := BX.out _ cc.below; simp only [execOp, Act.eval, e0]; go_simp, rfl⟩)
    | 6, _ => exact mstep_pure rfl (mwant_none rfl) (fun aa ww cc => ⟨.pointer (some ⟨g, p * 8, none⟩), by have e0 : aa.tmps.getD 12 undef = .slice (some ⟨g, 0, none⟩) n (c1 0) := cc.slot 3 12 (by kernel_rfl) rfl; have e1 : aa.tmps.getD 13 undef = .int .i64 (p : Int) := cc.slot 4 13 (by kernel_rfl) rfl; simp only [execOp, Act.eval, e0, e1]; go_simp, rfl⟩)
    | 7, _ => exact mstep_pure rfl (mwant_none rfl) (fun aa ww cc => ⟨.pointer (some ⟨g, p * 8 + 2, none⟩), by have e0 : aa.tmps.getD 15 undef = .pointer (some ⟨g, p * 8, none⟩) := cc.slot 6 15 (by kernel_rfl) rfl; simp only [execOp, Act.eval, e0]; go_simp, rfl⟩)
    | n + 8, h => exact absurd h (by show ¬ (n + 8 < 8); omega)
  · intro VV w5 hlen hb5 hok
    match VV, hlen with
    | [v0, v1, v2, v3, v4, v5, v6, v7], _ =>
      obtain rfl : v0 = .pointer (some ⟨S, 0, none⟩) := hok 0 9 rfl
      obtain rfl : v1 = .pointer (some ⟨S, 0, none⟩) := hok 1 10 rfl
      obtain rfl : v2 = .pointer (some ⟨S, 0, none⟩) := hok 2 11 rfl
      obtain rfl : v3 = .slice (some ⟨g, 0, none⟩) n (c1 0) := hok 3 12 rfl
      obtain rfl : v4 = .int .i64 (p : Int) := hok 4 13 rfl
      obtain rfl : v5 = .agg #[.int .i64 oc, .int .i64 ov, .bool ow] := hok 5 14 rfl
      obtain rfl : v6 = .pointer (some ⟨g, p * 8, none⟩) := hok 6 15 rfl
      obtain rfl : v7 = .pointer (some ⟨g, p * 8 + 2, none⟩) := hok 7 16 rfl
      have H3 : Hid (SetM w5 S (leave P p) A1 c1) := Lib.hid (H2.out.below hb5)
      have HF3 : Hid (FrS S A w A1 w5) := Lib.hid (HF2.out.trans (FrS.below hb5))
      clear H2 HF2 C0 BX hok
      simp only [List.zip_cons_cons, List.zip_nil_right, putsL]
      go_simp
      go_wp2_with ((with_reducible show wpList _ _ _ (Oper.mk _ (Op.store _ _ _) _ _ _ _ :: _) _ _); refine wpList_storeLast rfl _ _ rfl H3 HF3 ⟨oc, ov, ow⟩ HP2.out HA rfl rfl ?_)
      intro w6 H4 HF4
      clear H3 HF3
      go_wp2_with fail
      refine (wake_calls w6 S _ A1 c1 H4.out (by rw [ps_setP, leave_n]; exact HW.out.n) (by show (leave P p).ready.length ≤ 1000; rw [leave_ready]; have := without_le P.ready p; have := HW.out.rd; omega) p (by rw [ps_setP]; exact HP2.out)).mono ?_
      rintro e w7 ⟨rfl, A2, c2, h7, hf7⟩
      have H7 := Lib.hid h7
      have HF7 := Lib.hid (HF4.out.trans hf7)
      clear h7 hf7
      go_wp2
      exact bodyPost_ret (v := .tuple #[]) (by simp [results, Try.results31, go_sem]) rfl ⟨rfl, A2, c2, H7.out, HF7.out⟩
end Go.Proofs.Ytgeffkdobnipgaa
/- Structs of any size: loads, stores, new ones; in a region that draws its order, too. -/
namespace Go.Proofs.Ytgeffkdobnipgaa
open Go.RowKit Nac
structure SInfo (T : TypeId) (n : Nat) : Prop where
  info : (Try.prog.info? T).map (·.size) = some n
  row : ∃ d, Try.prog.underlying T = some d ∧ d.isRow = true
section
variable {w : World} {ops : Array Oper} {rest : List Oper} {o : Oper} {a : Act} {Q : Exit → Act → World → Prop} {T : TypeId} {n : Nat}
theorem run_loadS (hS : SInfo T n) (b : Nat) (cs : List Value) (hb : Blk w b cs) (hl : cs.length = n) : (loadVar T ⟨b, 0, none⟩).run Try.prog w = .ok (.agg cs.toArray) w := by
  obtain ⟨d, hu, hd⟩ := hS.row
  exact run_loadVar_mid w b 0 T cs d (hb.range 0 cs ⟨[], [], by simp, rfl⟩) hu hd (by rw [hS.info, hl])
theorem wpList_loadS (hS : SInfo T n) (hg : o.guard = none) (x : Operand) (hop : o.op = .load T x) (b : Nat) (cs : List Value) (hx : a.eval x = .pointer (some ⟨b, 0, none⟩)) (hb : Blk w b cs) (hl : cs.length = n)
    (h : wpList Try.prog ops Q rest (a.put o.dst (.agg cs.toArray)) w) : wpList Try.prog ops Q (o :: rest) a w := by
  obtain ⟨d, hu, hd⟩ := hS.row
  exact wpList_load_mid hg T x hop b 0 hx cs d (hb.range 0 cs ⟨[], [], by simp, rfl⟩) hu hd (by rw [hS.info, hl]) h
theorem wpList_storeS (hS : SInfo T n) (hg : o.guard = none) (x y : Operand) (hop : o.op = .store T x y) (b : Nat) (cs0 cs : List Value) (hx : a.eval x = .pointer (some ⟨b, 0, none⟩)) (hy : a.eval y = .agg cs.toArray) (hb : Blk w b cs0) (hl0 : cs0.length = n) (hl : cs.length = n) (h1 : ∀ v ∈ cs, v.oneCell' = true)
    (h : ∀ w', Blk w' b cs → w.grownBy w' (some b) → wpList Try.prog ops Q rest (a.put o.dst undef) w') : wpList Try.prog ops Q (o :: rest) a w :=
  wpList_store_mid hg T x y hop b 0 cs.toArray hx hy (hb.there 0 _ (by simp [hl0, hl])) (by rw [hS.info]; simp [hl]) (all_oneCell_toArray h1)
    (h _ (by have := hb.setCells cs 0 (by omega); rw [List.take_zero, List.nil_append, List.drop_eq_nil_of_le (by omega), List.append_nil] at this; exact this) (by simpa using grown_setCells b cs 0 w))
theorem run_storeS (hS : SInfo T n) (b : Nat) (cs0 cs : List Value) (hb : Blk w b cs0) (hl0 : cs0.length = n) (hl : cs.length = n) (h1 : ∀ v ∈ cs, v.oneCell' = true) :
    ∃ w', (Instr.storeAt T (.pointer (some ⟨b, 0, none⟩)) (.agg cs.toArray)).run Try.prog w = .ok () w' ∧ Blk w' b cs ∧ w.grownBy w' (some b) :=
  ⟨_, run_storeAt_mid w b 0 T cs.toArray (hb.there 0 _ (by simp [hl0, hl])) (by rw [hS.info]; simp [hl]) (all_oneCell_toArray h1),
    by have := hb.setCells cs 0 (by omega); rw [List.take_zero, List.nil_append, List.drop_eq_nil_of_le (by omega), List.append_nil] at this; exact this, by simpa using grown_setCells b cs 0 w⟩
theorem wpList_binV (hw : Region.wanted o (yielded ops a.tmps) = true) (op : BinOp) (T T' : TypeId) (x y : Operand) (hop : o.op = .binOp op T x y T') (v : Value)
    (hv : (do eqGuard op T x y (a.eval x) (a.eval y); binOp op T (a.eval x) (a.eval y) : Sem Value).run Try.prog w = .ok v w) (h : wpList Try.prog ops Q rest (a.put o.dst v) w) : wpList Try.prog ops Q (o :: rest) a w := by
  unfold wpList
  rw [if_pos hw]
  refine Or.inl ?_
  unfold Oper.wp
  have e : (execOp a.eval o).run Try.prog w = .ok (.value v) w := by
    simp only [execOp, hop]
    rw [Sem.run_bind] at hv
    rw [Sem.run_bind, Sem.run_bind, hv]
    rfl
  rw [e]
  exact h
theorem wpList_boxS (hg : o.guard = none) (x : Operand) (hop : o.op = .box T x) (cs : List Value) (hx : a.eval x = .agg cs.toArray)
    (h : ∀ w', Blk w' w.heap.size cs → w.grownBy w' none → w'.heap.size = w.heap.size + 1 → wpList Try.prog ops Q rest (a.put o.dst (.pointer (some ⟨w.heap.size, 0, none⟩))) w') : wpList Try.prog ops Q (o :: rest) a w := by
  refine wpList_plain hg fun K hK => ?_
  unfold Oper.wp execOp
  simp only [hop, Sem.run_bind, Instr.box, newVar, newRow, run_newObj_alloc, Sem.run_pure, Result.andThen_ok, hx, Value.cells]
  exact hK _ _ (h _ (Blk.new w cs T) (World.grownBy_alloc w _ none) (by simp))
theorem wpList_allocS (cs : List Value) (hz : ((Try.prog.info? T).bind (·.zero)) = some (.agg cs.toArray)) (hg : o.guard = none) (hop : o.op = .alloc T)
    (h : ∀ w', Blk w' w.heap.size cs → w.grownBy w' none → w'.heap.size = w.heap.size + 1 → wpList Try.prog ops Q rest (a.put o.dst (.pointer (some ⟨w.heap.size, 0, none⟩))) w') : wpList Try.prog ops Q (o :: rest) a w := by
  refine wpList_plain hg fun K hK => ?_
  have hz : (zeroValue T).run Try.prog w = .ok (.agg cs.toArray) w := by
    cases hi : Try.prog.info? T with
    | none => simp [hi] at hz
    | some i =>
      simp [hi] at hz
      simp [zeroValue, typeInfo, hi, hz]
  have hr : (Instr.alloc T true (.tuple #[])).run Try.prog w = .ok (.pointer (some ⟨w.heap.size, 0, none⟩)) (w.alloc (.cells cs.toArray T)) := by
    simp [Instr.alloc, hz, newVar, newRow, Value.cells]
  unfold Oper.wp execOp
  simp only [hop, Sem.run_bind, hr, Result.andThen_ok]
  exact hK _ _ (h _ (Blk.new w cs T) (World.grownBy_alloc w _ none) (by simp))
end
section
variable {ops : Array Oper} {Q : Exit → Act → World → Prop} {D : Nat → Value → Prop} {J : (Nat → Bool) → World → Prop} {a0 : Act} {i : Nat} {o : Oper} {T : TypeId} {n : Nat}
theorem vstep_loadS (hS : SInfo T n) (ho : ops[i]? = some o) (hw : ∀ L a w, VCtx ops D J a0 i L a w → Region.wanted o (yielded ops a.tmps) = true) (hJ : ∀ L w, J L w → J (upd L i) w) (x : Tmp) (hop : o.op = .load T (.tmp x)) (b : Nat) (cs : List Value) (hl : cs.length = n)
    (hx : ∀ L a w, VCtx ops D J a0 i L a w → a.tmps.getD x undef = .pointer (some ⟨b, 0, none⟩)) (hb : ∀ L w, J L w → Blk w b cs) (hD : D i (.agg cs.toArray)) : VStep Try.prog ops Q D J a0 i := by
  obtain ⟨d, hu, hd⟩ := hS.row
  refine vstep_pure ho hw hJ fun L a w c => ⟨.agg cs.toArray, ?_, hD⟩
  have e := hx L a w c
  unfold execOp
  simp only [hop, Act.eval, e, Instr.loadAt, Instr.sureAddr, Sem.run_bind, Sem.run_pure, Result.andThen_ok, run_loadS hS b cs (hb L w c.world) hl]
theorem vstep_storeS (hS : SInfo T n) (ho : ops[i]? = some o) (hw : ∀ L a w, VCtx ops D J a0 i L a w → Region.wanted o (yielded ops a.tmps) = true) (x y : Tmp) (hop : o.op = .store T (.tmp x) (.tmp y)) (b : Nat) (cs : List Value) (hl : cs.length = n) (h1 : ∀ v ∈ cs, v.oneCell' = true)
    (hx : ∀ L a w, VCtx ops D J a0 i L a w → a.tmps.getD x undef = .pointer (some ⟨b, 0, none⟩)) (hy : ∀ L a w, VCtx ops D J a0 i L a w → a.tmps.getD y undef = .agg cs.toArray) (hb : ∀ L w, J L w → ∃ cs0, cs0.length = n ∧ Blk w b cs0) (hD : D i undef)
    (hJ : ∀ L w w', J L w → Blk w' b cs → w.grownBy w' (some b) → J (upd L i) w') : VStep Try.prog ops Q D J a0 i := by
  intro o' ho' L a w c
  rw [ho] at ho'
  obtain rfl := Option.some.inj ho'
  rw [if_pos (hw L a w c)]
  obtain ⟨cs0, hl0, hb0⟩ := hb L w c.world
  obtain ⟨w', hr, hb', hg⟩ := run_storeS hS b cs0 cs hb0 hl0 hl h1
  have e1 := hx L a w c
  have e2 := hy L a w c
  have hr2 : (execOp a.eval o).run Try.prog w = .ok .skip w' := by
    unfold execOp
    simp only [hop, Act.eval, e1, e2, Sem.run_bind, hr, Result.andThen_ok, Sem.run_pure]
  unfold Oper.wp
  rw [hr2]
  exact ⟨undef, rfl, hD, hJ L w w' c.world hb' hg⟩
end
end Go.Proofs.Ytgeffkdobnipgaa
