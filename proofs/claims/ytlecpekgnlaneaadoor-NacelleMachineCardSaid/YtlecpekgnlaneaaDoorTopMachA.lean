/- As XTailM, where some of the first operations (F: pure, each of a known value) may also come between or behind the last ones ('late stores'). Over whatever program. -/
import Derived.Test.YtlecpekgnlaneaaDoorTailM
import Derived.Test.YtlecpekgnlaneaaDoorTopDec
import Derived.Test.YtlecpekgnlaneaaDoorStoreB
import Derived.Test.YtlecpekgnlaneaaDoorTopAlike
import Derived.Test.YtlecpekgnlaneaaDoorPvmRest
import Derived.Test.YtlecpekgnlaneaaDoorPvmRun
import Derived.Test.YtlecpekgnlaneaaDoorPvmFits
import Derived.Deep.DeepCutAuto
namespace Nac
open Go Go.RowKit
/-- what the last operations read -/
def readsOf (o : Oper) : Option (List Tmp) := match o.op with
  | .store _ (.tmp x) (.tmp y) => some [x, y]
  | .assign (.tmp x) => some [x]
  | .move (.tmp x) => some [x]
  | _ => none
def lateReads (ops : Array Oper) (F : List Nat) (i : Nat) : Bool := match ops[i]? with
  | none => false
  | some o => o.guard.isNone && match readsOf o with
    | none => false
    | some rs => F.all fun f => (closOf ops i (depsOf ops i)).contains f || rs.all fun x => dstOf ops f != some x
/-- each operation from p on comes behind all that stand ahead of it but F, and reads of F's slots only those that it must follow -/
def lateB (ops : Array Oper) (p : Nat) (F : List Nat) : Bool := decide (p ≤ ops.size) && F.all (fun f => decide (f < p)) && (List.range ops.size).all fun i => decide (i < p) || ((List.range i).all (fun j => F.contains j || (closOf ops i (depsOf ops i)).contains j) && lateReads ops F i)
/-- operation o, run in frame a', gives v -/
def DoesOp (P : Program) (o : Oper) (a : Act) (w : World) (v : Value) (w' : World) : Prop := (execOp a.eval o).run P w = .ok (.value v) w' ∨ (v = undef ∧ (execOp a.eval o).run P w = .ok .skip w')
/-- the last operations, one by one from a known frame; each does what it does whatever else the frame holds -/
def TailOK (P : Program) (Q : Exit → Act → World → Prop) : List Oper → Act → World → Prop
  | [], a, w => Q .normal a w
  | o :: l, a, w => ∃ v w', (∀ a' : Act, (∀ rs, readsOf o = some rs → ∀ x ∈ rs, a'.tmps.getD x undef = a.tmps.getD x undef) → DoesOp P o a' w v w') ∧ TailOK P Q l (a.put o.dst v) w'
def FStep (P : Program) (ops : Array Oper) (D : Nat → VD) (a0 : Act) (W0 : World) (i : Nat) : Prop :=
  ∀ o, ops[i]? = some o → o.guard = none ∧ ∃ v, D i = .is v ∧ ∀ a w, MCtx ops D a0 W0 i a w → ∀ w2, (execOp a.eval o).run P w2 = .ok (.value v) w2
/-- a slot of which nothing is said -/
def VD.any : VD := .pr (fun _ _ => True) (fun _ _ _ _ _ => trivial)
section
variable {P : Program} {ops : Array Oper} {Q : Exit → Act → World → Prop} {D : Nat → VD} {a0 : Act} {W0 : World}
theorem put_get (a : Act) (d : Option Tmp) (v : Value) (t : Nat) (h : ∀ d', d = some d' → d' < a.tmps.size) : (a.put d v).tmps.getD t undef = if d = some t then v else a.tmps.getD t undef := by
  cases d with
  | none => simp [Act.put]
  | some d' =>
    simp only [Act.put]
    rw [getD_put _ _ _ _ (h d' rfl)]
    simp
theorem dist_of {n : Nat} (hd : distinctB ops n = true) : ∀ x y d, x < ops.size → y < ops.size → dstOf ops x = some d → d < n ∧ (dstOf ops y = some d → x = y) := by
  intro x y d hx hy hxd
  unfold distinctB at hd
  rw [List.all_eq_true] at hd
  have h1 := hd x (by simpa using hx)
  rw [Bool.and_eq_true, List.all_eq_true] at h1
  obtain ⟨h1, h2⟩ := h1
  have h2 := h2 y (by simpa using hy)
  rw [hxd] at h1 h2
  refine ⟨by simpa using h1, fun hyd => ?_⟩
  rw [hyd] at h2
  simpa using h2
theorem dst_in {k d : Nat} (hk : dstOf ops k = some d) : k < ops.size := by
  rcases Nat.lt_or_ge k ops.size with h | h
  · exact h
  · simp [dstOf, Array.getElem?_eq_none h] at hk
theorem deps_listed {listed : Array Bool} {i : Nat} {o : Oper} (hc : ∀ i o, ops[i]? = some o → listed.getD i false = true → ∀ e ∈ o.after, Region.binds .any e = true → listed.getD e.on false = true) (ho : ops[i]? = some o)
    (hr : ∀ e ∈ o.after, Region.binds .any e = true → listed.getD e.on false = true) : ∀ j, (closOf ops i (depsOf ops i)).contains j = true → listed.getD j false = true := by
  intro j hj
  refine clos_listed hc i _ ?_ j (by simpa using hj)
  intro x hx
  unfold depsOf at hx
  simp only [ho, List.mem_map, List.mem_filter, Array.mem_toList_iff] at hx
  obtain ⟨e, ⟨he, hb⟩, rfl⟩ := hx
  exact hr e he hb
theorem mctx_of {listed : Array Bool} {a : Act} {w : World} {i : Nat} {o : Oper} (hI : MInv ops D a0 W0 listed a w) (ho : ops[i]? = some o) (h2 : listed.getD i false = false)
    (hready : ∀ e ∈ o.after, Region.binds .any e = true → listed.getD e.on false = true) : MCtx ops D a0 W0 i a w := by
  have hpc := preds_closed hI.closed 3 i (fun o' ho' => by rw [ho] at ho'; obtain rfl := Option.some.inj ho'; exact hready)
  refine ⟨hI.below, hI.tsize, fun k d hk hkd => hI.done k d (hpc k hk) hkd, fun t ht => hI.rest t fun k hl hkd => ?_⟩
  unfold origB at ht
  rw [List.all_eq_true] at ht
  have h3 := ht k (by simpa using dst_in hkd)
  rw [hkd] at h3
  simp only [bne_self_eq_false, Bool.false_or, List.contains_iff_mem] at h3
  have := preds_closed hI.closed 3 k (fun o' ho' e he hb' => hI.closed k o' ho' hl e he hb') i h3
  rw [h2] at this
  cases this
theorem wpOp_ok {x : Nat} {o : Oper} (ho : ops[x]? = some o) (hg : o.guard = none) {K : Act → World → Prop} {a : Act} {w w' : World} {v : Value} (hr : (execOp a.eval o).run P w = .ok (.value v) w') (hK : K (a.put o.dst v) w') : wpOp P ops Q x K a w := by
  unfold wpOp
  rw [ho]
  simp only
  have hw : Region.wanted o (yielded ops a.tmps) = true := by simp [Region.wanted, hg]
  rw [if_pos hw]
  refine Or.inl ?_
  unfold Oper.wp
  rw [hr]
  exact hK
theorem wpOp_does {x : Nat} {o : Oper} (ho : ops[x]? = some o) (hg : o.guard = none) {K : Act → World → Prop} {a : Act} {w w' : World} {v : Value} (hr : DoesOp P o a w v w') (hK : K (a.put o.dst v) w') : wpOp P ops Q x K a w := by
  rcases hr with hr | ⟨rfl, hr⟩
  · exact wpOp_ok ho hg hr hK
  unfold wpOp
  rw [ho]
  simp only
  have hw : Region.wanted o (yielded ops a.tmps) = true := by simp [Region.wanted, hg]
  rw [if_pos hw]
  refine Or.inl ?_
  unfold Oper.wp
  rw [hr]
  exact hK
structure LateB (ops : Array Oper) (p : Nat) (F : List Nat) : Prop where
  le : p ≤ ops.size
  small : ∀ f ∈ F, f < p
  chain : ∀ i, i < ops.size → p ≤ i → ∀ j, j < i → j ∉ F → (closOf ops i (depsOf ops i)).contains j = true
  reads : ∀ i o, ops[i]? = some o → p ≤ i → o.guard = none ∧ ∃ rs, readsOf o = some rs ∧ ∀ f ∈ F, (closOf ops i (depsOf ops i)).contains f = true ∨ ∀ x ∈ rs, dstOf ops f ≠ some x
theorem lateB_of {p : Nat} {F : List Nat} (h : lateB ops p F = true) : LateB ops p F := by
  unfold lateB at h
  rw [Bool.and_eq_true, Bool.and_eq_true, List.all_eq_true, List.all_eq_true] at h
  obtain ⟨⟨h1, h2⟩, h3⟩ := h
  refine ⟨by simpa using h1, fun f hf => by simpa using h2 f hf, fun i hi hp j hj hF => ?_, fun i o ho hp => ?_⟩
  · have h4 := h3 i (by simpa using hi)
    rw [show decide (i < p) = false by simpa using hp, Bool.false_or, Bool.and_eq_true, List.all_eq_true] at h4
    have h5 := h4.1 j (by simpa using hj)
    rw [show F.contains j = false by simpa using hF, Bool.false_or] at h5
    exact h5
  · have hi : i < ops.size := (Array.getElem?_eq_some_iff.1 ho).1
    have h4 := h3 i (by simpa using hi)
    rw [show decide (i < p) = false by simpa using hp, Bool.false_or, Bool.and_eq_true] at h4
    have h5 := h4.2
    unfold lateReads at h5
    rw [ho] at h5
    simp only [Bool.and_eq_true] at h5
    refine ⟨by simpa using h5.1, ?_⟩
    have h6 := h5.2
    cases hrs : readsOf o with
    | none => rw [hrs] at h6; cases h6
    | some rs =>
      rw [hrs] at h6
      refine ⟨rs, rfl, fun f hf => ?_⟩
      simp only [List.all_eq_true] at h6
      have h7 := h6 f hf
      rw [Bool.or_eq_true] at h7
      rcases h7 with h7 | h7
      · exact .inl h7
      · rw [List.all_eq_true] at h7
        exact .inr fun x hx e => by simpa [e] using h7 x hx
theorem act_eq {a b : Act} (h1 : a.defers = b.defers) (h2 : a.tmps.size = b.tmps.size) (h3 : ∀ t, a.tmps.getD t undef = b.tmps.getD t undef) : a = b := by
  obtain ⟨tm, df⟩ := a
  obtain ⟨tm', df'⟩ := b
  simp only at h1 h2 h3
  subst h1
  congr 1
  apply Array.ext h2
  intro i g1 g2
  have := h3 i
  rw [Array.getD_eq_getD_getElem?, Array.getD_eq_getD_getElem?, Array.getElem?_eq_getElem g1, Array.getElem?_eq_getElem g2] at this
  exact this
theorem late_B {p : Nat} {F : List Nat} (hL : LateB ops p F) (hd : distinctB ops a0.tmps.size = true) (hbk : backB ops = true) (hDp : ∀ i, p ≤ i → ∀ v w, (D i).ok v w) (fstep : ∀ f ∈ F, FStep P ops D a0 W0 f) (wB : World) :
    ∀ (fuel : Nat) (listed : Array Bool) (a b : Act) (w : World) (i : Nat), falses listed ≤ fuel → MInv ops D a0 W0 listed a wB → p ≤ i → i ≤ ops.size → (∀ j, p ≤ j → j < i → listed.getD j false = true) → (∀ j, i ≤ j → listed.getD j false = false) → (∀ j, j < p → j ∉ F → listed.getD j false = true) →
      b.defers = a0.defers → b.tmps.size = a0.tmps.size → (∀ t, (∀ f ∈ F, listed.getD f false = false → dstOf ops f ≠ some t) → a.tmps.getD t undef = b.tmps.getD t undef) → (∀ f ∈ F, ∀ d v, dstOf ops f = some d → D f = .is v → b.tmps.getD d undef = v) →
      TailOK P Q (ops.toList.drop i) b w → wpAny P .any ops Q fuel listed a w := by
  have hend : ∀ (listed : Array Bool) (a b : Act) (w : World) (i : Nat), MInv ops D a0 W0 listed a wB → i ≤ ops.size → p ≤ i → (∀ j, i ≤ j → listed.getD j false = false) → b.defers = a0.defers → b.tmps.size = a0.tmps.size → (∀ t, (∀ f ∈ F, listed.getD f false = false → dstOf ops f ≠ some t) → a.tmps.getD t undef = b.tmps.getD t undef) →
      TailOK P Q (ops.toList.drop i) b w → (∀ j, j < ops.size → listed.getD j false = true) → Q .normal a w := by
    intro listed a b w i hI hi hp hz hbd hbs hab h hl
    have hin : i = ops.size := by
      rcases Nat.lt_or_ge i ops.size with h1 | h1
      · have := hl i h1; rw [hz i (Nat.le_refl _)] at this; cases this
      · omega
    rw [hin, List.drop_eq_nil_of_le (by simp)] at h
    have e : a = b := act_eq (hI.defers.trans hbd.symm) (hI.tsize.trans hbs.symm) fun t => hab t fun f hf hl' => by
      have := hl f (by have := hL.small f hf; have := hL.le; omega)
      rw [this] at hl'; cases hl'
    rw [e]
    exact h
  intro fuel
  induction fuel with
  | zero =>
    intro listed a b w i hf hI hp hi h1 hz hA hbd hbs hab hbv h
    have hl : ∀ j, j < ops.size → listed.getD j false = true := fun j hj => falses_zero listed (by omega) j (by rw [hI.size]; exact hj)
    refine ⟨?_, hend listed a b w i hI hi hp hz hbd hbs hab h hl⟩
    apply List.eq_nil_iff_forall_not_mem.2
    intro x hx
    obtain ⟨g1, g2, _⟩ := ready_of hx hI.size
    rw [hl x g1] at g2
    cases g2
  | succ fuel ih =>
    intro listed a b w i hf hI hp hi h1 hz hA hbd hbs hab hbv h
    refine ⟨fun hr => hend listed a b w i hI hi hp hz hbd hbs hab h fun j hj => ?_, fun x hx => ?_⟩
    · cases hb : listed.getD j false
      · exact absurd hr (ready_ex hbk hI.size j hj hb)
      · rfl
    obtain ⟨g1, g2, o, ho, hready⟩ := ready_of hx hI.size
    have hls : x < listed.size := by rw [hI.size]; exact g1
    have hfl : falses (listed.setIfInBounds x true) ≤ fuel := by
      have := falses_set listed x hls g2
      omega
    have hdo : dstOf ops x = o.dst := by simp [dstOf, ho]
    have hlt : ∀ (a' : Act), a'.tmps.size = a0.tmps.size → ∀ d', o.dst = some d' → d' < a'.tmps.size := fun a' hs d' hd' => by
      rw [hs]; exact (dist_of hd x x d' g1 g1 (by rw [hdo, hd'])).1
    rcases Nat.lt_or_ge x p with hxp | hxp
    · have hxF : x ∈ F := by
        apply Classical.byContradiction
        intro hn
        rw [hA x hxp hn] at g2
        cases g2
      obtain ⟨hg, v, hDv, hex⟩ := fstep x hxF o ho
      refine wpOp_ok ho hg (hex a wB (mctx_of hI ho g2 hready) w) ?_
      refine ih _ _ b w i hfl (mono_put hI g1 ho hd hready (by rw [hDv]; rfl) (Below.refl _ _)) hp hi (fun j hj1 hj2 => ?_) (fun j hj => ?_) (fun j hj1 hj2 => ?_) hbd hbs (fun t ht => ?_) hbv h
      · rw [getD_setIf _ _ _ hls, if_neg (by omega)]; exact h1 j hj1 hj2
      · rw [getD_setIf _ _ _ hls, if_neg (by omega)]; exact hz j hj
      · rw [getD_setIf _ _ _ hls, if_neg (fun e => hj2 (by rw [← e]; exact hxF))]; exact hA j hj1 hj2
      · rw [put_get _ _ _ _ (hlt a hI.tsize)]
        by_cases hdt : o.dst = some t
        · rw [if_pos hdt]
          exact (hbv x hxF t v (by rw [hdo]; exact hdt) hDv).symm
        · rw [if_neg hdt]
          refine hab t fun f hf hl' => ?_
          by_cases hfx : f = x
          · rw [hfx, hdo]; exact hdt
          · exact ht f hf (by rw [getD_setIf _ _ _ hls, if_neg (fun e => hfx e.symm)]; exact hl')
    · have hall : ∀ j, j < x → j ∉ F → listed.getD j false = true := fun j hj hF => deps_listed hI.closed ho hready j (hL.chain x g1 hxp j hj hF)
      have hxi : x = i := by
        rcases Nat.lt_or_ge x i with h2 | h2
        · rw [h1 x hxp h2] at g2; cases g2
        rcases Nat.lt_or_ge i x with h3 | h3
        · have := hall i h3 (fun hF => by have := hL.small i hF; omega)
          rw [hz i (Nat.le_refl _)] at this; cases this
        · omega
      subst hxi
      have hdr : ops.toList.drop x = o :: ops.toList.drop (x + 1) := by
        rw [List.drop_eq_getElem_cons (by simpa using g1)]
        congr 1
        have := Array.getElem?_eq_getElem g1
        rw [this] at ho
        simpa using Option.some.inj ho
      rw [hdr] at h
      obtain ⟨v, w', hex, hrest⟩ := h
      obtain ⟨hg, rs, hrs, hfr⟩ := hL.reads x o ho hxp
      refine wpOp_does ho hg (hex a fun rs' hrs' y hy => hab y fun f hf hl' => ?_) ?_
      · rw [hrs] at hrs'
        obtain rfl := Option.some.inj hrs'
        rcases hfr f hf with h2 | h2
        · rw [deps_listed hI.closed ho hready f h2] at hl'; cases hl'
        · exact h2 y hy
      refine ih _ _ (b.put o.dst v) w' (x + 1) hfl (mono_put hI g1 ho hd hready (hDp x hxp v wB) (Below.refl _ _)) (by omega) g1 (fun j hj1 hj2 => ?_) (fun j hj => ?_) (fun j hj1 hj2 => ?_) (by rw [put_defers]; exact hbd) (by rw [put_size]; exact hbs) (fun t ht => ?_) (fun f hf d u hfd hDf => ?_) hrest
      · rw [getD_setIf _ _ _ hls]
        split
        · rfl
        · exact h1 j hj1 (by omega)
      · rw [getD_setIf _ _ _ hls, if_neg (by omega)]; exact hz j (by omega)
      · rw [getD_setIf _ _ _ hls, if_neg (by omega)]; exact hA j hj1 hj2
      · rw [put_get _ _ _ _ (hlt a hI.tsize), put_get _ _ _ _ (hlt b hbs)]
        split
        · rfl
        · refine hab t fun f hf hl' => ht f hf ?_
          rw [getD_setIf _ _ _ hls, if_neg (by have := hL.small f hf; omega)]
          exact hl'
      · rw [put_get _ _ _ _ (hlt b hbs), if_neg]
        · exact hbv f hf d u hfd hDf
        · intro e
          have hfs := hL.small f hf
          have := (dist_of hd x f d g1 (by omega) (by rw [hdo]; exact e)).2 hfd
          omega
theorem late_A {p : Nat} {F : List Nat} (hL : LateB ops p F) (hd : distinctB ops a0.tmps.size = true) (hbk : backB ops = true) (hDp : ∀ i, p ≤ i → ∀ v w, (D i).ok v w) (fstep : ∀ f ∈ F, FStep P ops D a0 W0 f)
    (step : ∀ i, i < p → i ∉ F → MStep P ops Q D a0 W0 i)
    (fin : ∀ listed a w, MInv ops D a0 W0 listed a w → (∀ j, p ≤ j → listed.getD j false = false) → (∀ j, j < p → j ∉ F → listed.getD j false = true) →
      ∃ b : Act, b.defers = a0.defers ∧ b.tmps.size = a0.tmps.size ∧ (∀ t, (∀ f ∈ F, listed.getD f false = false → dstOf ops f ≠ some t) → a.tmps.getD t undef = b.tmps.getD t undef) ∧ (∀ f ∈ F, ∀ d v, dstOf ops f = some d → D f = .is v → b.tmps.getD d undef = v) ∧ TailOK P Q (ops.toList.drop p) b w) :
    ∀ (fuel : Nat) (listed : Array Bool) (a : Act) (w : World), falses listed ≤ fuel → (∀ j, p ≤ j → listed.getD j false = false) → MInv ops D a0 W0 listed a w → wpAny P .any ops Q fuel listed a w := by
  have hall : ∀ (fuel : Nat) (listed : Array Bool) (a : Act) (w : World), falses listed ≤ fuel → (∀ j, p ≤ j → listed.getD j false = false) → MInv ops D a0 W0 listed a w → (∀ j, j < p → j ∉ F → listed.getD j false = true) → wpAny P .any ops Q fuel listed a w := by
    intro fuel listed a w hf hz hI hl
    obtain ⟨b, hb1, hb2, hb3, hb4, hb5⟩ := fin listed a w hI hz hl
    exact late_B hL hd hbk hDp fstep w fuel listed a b w p hf hI (Nat.le_refl _) hL.le (fun j h1 h2 => by omega) hz hl hb1 hb2 hb3 hb4 hb5
  intro fuel
  induction fuel with
  | zero =>
    intro listed a w hf hz hI
    exact hall 0 listed a w hf hz hI fun i hi _ => falses_zero listed (by omega) i (by rw [hI.size]; have := hL.le; omega)
  | succ fuel ih =>
    intro listed a w hf hz hI
    by_cases hdone : ∀ j, j < p → j ∉ F → listed.getD j false = true
    · exact hall _ listed a w hf hz hI hdone
    have hnd : ∃ j, j < p ∧ j ∉ F ∧ listed.getD j false = false := by
      apply Classical.byContradiction
      intro h
      refine hdone fun j hj hF => ?_
      cases hb : listed.getD j false
      · exact absurd ⟨j, hj, hF, hb⟩ h
      · rfl
    obtain ⟨j0, hj0, hF0, hl0⟩ := hnd
    refine ⟨fun hr => absurd hr (ready_ex hbk hI.size j0 (by have := hL.le; omega) hl0), fun i hi => ?_⟩
    obtain ⟨h1, h2, o, ho, hready⟩ := ready_of hi hI.size
    have hip : i < p := by
      rcases Nat.lt_or_ge i p with h | h
      · exact h
      · have := deps_listed hI.closed ho hready j0 (hL.chain i h1 h j0 (by omega) hF0)
        rw [hl0] at this
        cases this
    have hctx := mctx_of hI ho h2 hready
    have hfl : falses (listed.setIfInBounds i true) ≤ fuel := by
      have := falses_set listed i (by rw [hI.size]; exact h1) h2
      omega
    have hz' : ∀ j, p ≤ j → (listed.setIfInBounds i true).getD j false = false := fun j hj => by
      rw [getD_setIf _ _ _ (by rw [hI.size]; exact h1), if_neg (by omega)]
      exact hz j hj
    by_cases hiF : i ∈ F
    · obtain ⟨hg, v, hDv, hex⟩ := fstep i hiF o ho
      exact wpOp_ok ho hg (hex a w hctx w) (ih _ _ _ hfl hz' (mono_put hI h1 ho hd hready (by rw [hDv]; rfl) (Below.refl _ _)))
    have hs := step i hip hiF o ho a w hctx
    unfold wpOp
    rw [ho]
    simp only
    split
    · rename_i hw
      rw [if_pos hw] at hs
      refine Or.inl (Oper.wp_mono ?_ hs)
      rintro a' w' ⟨v, rfl, hv, hb⟩
      exact ih _ _ _ hfl hz' (mono_put hI h1 ho hd hready hv hb)
    · rename_i hw
      rw [if_neg hw] at hs
      exact ih _ _ _ hfl hz' (mono_put hI h1 ho hd hready hs (Below.refl _ _))
/-- THE LAW -/
theorem region_late {id : Nat} {a0 : Act} {w0 : World} (p : Nat) (F : List Nat) (D : Nat → VD) (ds : List (Option Tmp)) (hm : P.follows .mixedOrders = true) (hd : distinctB ops a0.tmps.size = true) (hbk : backB ops = true)
    (hch : lateB ops p F = true) (hds : (ops.toList.take p).map (·.dst) = ds) (hDp : ∀ i, p ≤ i → ∀ v w, (D i).ok v w)
    (fstep : ∀ f ∈ F, FStep P ops D a0 w0.drew f)
    (step : ∀ i, i < p → i ∉ F → MStep P ops Q D a0 w0.drew i)
    (fin : ∀ V w, V.length = ds.length → Below w0.heap.size w0 w → (∀ i d, ds[i]? = some (some d) → (D i).ok (V.getD i undef) w) → TailOK P Q (ops.toList.drop p) (putsL (ds.zip V) a0) w) :
    (Code.region id ops true).wp P Q a0 w0 := by
  refine wp_region_any hm ?_
  have hL := lateB_of hch
  have hg : ∀ i, (Array.replicate ops.size false).getD i false = false := by
    intro i
    rw [Array.getD_eq_getD_getElem?, Array.getElem?_replicate]
    split <;> rfl
  refine late_A (D := D) (a0 := a0) (W0 := w0.drew) hL hd hbk hDp fstep step (fun listed a w hI hz hA => ?_) _ _ _ _ ?_ (fun j _ => hg j) ⟨by simp, Below.refl _ _, rfl, rfl, fun i o _ h => (by rw [hg] at h; cases h), fun i d h => (by rw [hg] at h; cases h), fun _ _ => rfl⟩
  · have hb : Below w0.heap.size w0 w := ⟨hI.below.os, hI.below.tape, hI.below.output, hI.below.size, hI.below.block⟩
    have hdsl : ds.length = p := by
      rw [← hds, List.length_map, List.length_take]
      have := hL.le
      simp
      omega
    have hdi : ∀ i, i < p → ds[i]? = some (dstOf ops i) := by
      intro i hi
      have hio : i < ops.size := by have := hL.le; omega
      rw [← hds, List.getElem?_map, List.getElem?_take_of_lt hi, Array.getElem?_toList]
      unfold dstOf
      rw [Array.getElem?_eq_getElem hio]
      rfl
    let vF : Nat → Value := fun i => match D i with | .is v => v | .pr _ _ => undef
    let V : List Value := (List.range p).map fun i => match dstOf ops i with
      | none => undef
      | some d => if listed.getD i false = true then a.tmps.getD d undef else vF i
    have hVl : V.length = ds.length := by simp [V, hdsl]
    have hV : ∀ i d, i < p → dstOf ops i = some d → V[i]? = some (if listed.getD i false = true then a.tmps.getD d undef else vF i) := by
      intro i d hi hid
      simp only [V, List.getElem?_map, List.getElem?_range hi, Option.map_some, hid]
    have hVF : ∀ i d, i < p → dstOf ops i = some d → listed.getD i false = false → ∃ v, D i = .is v ∧ vF i = v := by
      intro i d hi hid hl
      have hiF : i ∈ F := by
        apply Classical.byContradiction
        intro hn
        rw [hA i hi hn] at hl; cases hl
      have hio : i < ops.size := by have := hL.le; omega
      obtain ⟨_, v, hDv, _⟩ := fstep i hiF _ (Array.getElem?_eq_getElem hio)
      exact ⟨v, hDv, by simp only [vF, hDv]⟩
    have hget : ∀ i d, i < p → dstOf ops i = some d → (putsL (ds.zip V) a0).tmps.getD d undef = if listed.getD i false = true then a.tmps.getD d undef else vF i := by
      intro i d hi hid
      have hio : i < ops.size := by have := hL.le; omega
      refine putsL_get d _ _ a0 (dist_of hd i i d hio hio hid).1 (fun x hx hxd => ?_) (fun hn => ?_)
      · obtain ⟨k, hk⟩ := List.mem_iff_getElem?.1 hx
        obtain ⟨k1, k2⟩ := List.getElem?_zip_eq_some.1 hk
        have hkp : k < p := by have := (List.getElem?_eq_some_iff.1 k1).1; omega
        rw [hdi k hkp] at k1
        injection k1 with k1
        rw [hxd] at k1
        have hik := (dist_of hd i k d hio (by have := hL.le; omega) hid).2 k1
        subst hik
        rw [hV i d hi hid] at k2
        exact Option.some.inj k2
      · exact absurd rfl (hn (some d, _) (List.mem_iff_getElem?.2 ⟨i, List.getElem?_zip_eq_some.2 ⟨by rw [hdi i hi, hid], hV i d hi hid⟩⟩))
    refine ⟨putsL (ds.zip V) a0, putsL_defers _ _, putsL_size _ _, fun t ht => ?_, fun f hf d v hfd hDf => ?_, fin V w hVl hb fun i d hid => ?_⟩
    · by_cases hex : ∃ i, i < p ∧ dstOf ops i = some t
      · obtain ⟨i, hi, hit⟩ := hex
        rw [hget i t hi hit]
        cases hl : listed.getD i false with
        | true => rw [if_pos rfl]
        | false =>
          by_cases hiF : i ∈ F
          · exact absurd hit (ht i hiF hl)
          · rw [hA i hi hiF] at hl; cases hl
      · have h1 : a.tmps.getD t undef = a0.tmps.getD t undef := hI.rest t fun i hl hit => by
          rcases Nat.lt_or_ge i p with h | h
          · exact hex ⟨i, h, hit⟩
          · rw [hz i h] at hl; cases hl
        rw [h1]
        by_cases hts : t < a0.tmps.size
        · refine (putsL_get t _ _ a0 hts (fun x hx hxt => ?_) (fun _ => rfl)).symm
          obtain ⟨k, hk⟩ := List.mem_iff_getElem?.1 hx
          obtain ⟨k1, k2⟩ := List.getElem?_zip_eq_some.1 hk
          have hkp : k < p := by have := (List.getElem?_eq_some_iff.1 k1).1; omega
          rw [hdi k hkp] at k1
          injection k1 with k1
          exact absurd ⟨k, hkp, by rw [k1]; exact hxt⟩ hex
        · have e1 : a0.tmps.getD t undef = undef := by rw [Array.getD_eq_getD_getElem?, Array.getElem?_eq_none (Nat.le_of_not_lt hts)]; rfl
          have e2 : (putsL (ds.zip V) a0).tmps.getD t undef = undef := by rw [Array.getD_eq_getD_getElem?, Array.getElem?_eq_none (by rw [putsL_size]; exact Nat.le_of_not_lt hts)]; rfl
          rw [e1, e2]
    · have hfp := hL.small f hf
      rw [hget f d hfp hfd]
      cases hl : listed.getD f false with
      | true =>
        rw [if_pos rfl]
        have := hI.done f d hl hfd
        rw [hDf] at this
        exact this
      | false =>
        rw [if_neg (by simp)]
        simp only [vF, hDf]
    · have hip : i < p := by have := (List.getElem?_eq_some_iff.1 hid).1; omega
      rw [hdi i hip] at hid
      injection hid with hid
      rw [List.getD_eq_getElem?_getD, hV i d hip hid, Option.getD_some]
      cases hl : listed.getD i false with
      | true => rw [if_pos rfl]; exact hI.done i d hl hid
      | false =>
        rw [if_neg (by simp)]
        obtain ⟨v, h1, h2⟩ := hVF i d hip hid hl
        rw [h1, h2]
        rfl
  · unfold falses
    simp
theorem getD_any (l : List VD) (i : Nat) (h : l.length ≤ i) : ∀ v w, (l.getD i VD.any).ok v w := fun v w => by
  rw [List.getD_eq_getElem?_getD, List.getElem?_eq_none h]; trivial
theorem fstep_of {i : Nat} {o : Oper} (ho : ops[i]? = some o) (hg : o.guard = none) (v : Value) (hD : D i = .is v) (h : ∀ a w, MCtx ops D a0 W0 i a w → ∀ w2, (execOp a.eval o).run P w2 = .ok (.value v) w2) : FStep P ops D a0 W0 i := by
  intro o' ho'
  rw [ho] at ho'
  obtain rfl := Option.some.inj ho'
  exact ⟨hg, v, hD, h⟩
theorem tailok_copy {o : Oper} {l : List Oper} {a : Act} {w : World} (x : Tmp) (hop : o.op = .assign (.tmp x) ∨ o.op = .move (.tmp x)) (v : Value) (hx : a.tmps.getD x undef = v) (h : TailOK P Q l (a.put o.dst v) w) : TailOK P Q (o :: l) a w := by
  refine ⟨v, w, fun a' hr => .inl ?_, h⟩
  have e : a'.tmps.getD x undef = v := by
    rw [← hx]
    rcases hop with hop | hop <;> exact hr [x] (by unfold readsOf; rw [hop]) x (by simp)
  rcases hop with hop | hop <;> simp [execOp, hop, Act.eval, e]
end
end Nac
/- Encode: bytes out of instructions. -/
namespace Go.Proofs.YtlecpekgnlaneaaDoor
open Go.RowKit Nac Nac.Pvm
theorem sIns : SInfo 41 4 := ⟨by kernel_rfl, _, Tryd.underlying41, rfl⟩
theorem bv_of (x : Nat) (h : x < 256) : bv (UInt8.ofNat x) = .int .u8 (x : Int) := by
  unfold bv
  have : (UInt8.ofNat x).toNat = x := by simp [Nat.mod_eq_of_lt h]
  rw [this]
theorem insB_cells (i : Ins) (h : i.fits) : (insB i).map bv = icells i := by
  unfold insB icells
  simp only [List.map_cons, List.map_nil]
  rw [bv_of _ h.op, bv_of _ h.a, bv_of _ h.b, bv_of _ h.c]
theorem encI_snoc (l : List Ins) (k : Nat) (hk : k < l.length) : encI (l.take (k + 1)) = encI (l.take k) ++ insB l[k] := by
  unfold encI
  rw [List.take_succ_eq_append_getElem hk, List.map_append, List.flatten_append]
  simp
theorem encI_len (l : List Ins) : (encI l).length = 4 * l.length := by
  unfold encI
  induction l with
  | nil => rfl
  | cons i l ih => simp only [List.map_cons, List.flatten_cons, List.length_append, ih, List.length_cons]; show 4 + _ = _; omega
theorem rin_range {w : World} {b o k : Nat} {i : Ins} (h0 : w.cell? ⟨b, o + k * 4, none⟩ = some (.int .u8 i.op)) (h1 : w.cell? ⟨b, o + k * 4 + 1, none⟩ = some (.int .u8 i.a)) (h2 : w.cell? ⟨b, o + k * 4 + 2, none⟩ = some (.int .u8 i.b)) (h3 : w.cell? ⟨b, o + k * 4 + 3, none⟩ = some (.int .u8 i.c)) : w.rangeAt b (o + k * 4) (icells i) := fun j v hj => by
  match j, hj with
  | 0, hj => injection hj with hj; subst hj; exact h0
  | 1, hj => injection hj with hj; subst hj; exact h1
  | 2, hj => injection hj with hj; subst hj; exact h2
  | 3, hj => injection hj with hj; subst hj; exact h3
theorem wpList_build4 {w : World} {ops : Array Oper} {rest : List Oper} {o : Oper} {a : Act} {Q : Exit → Act → World → Prop} (hg : o.guard = none) (p0 p1 p2 p3 : Operand) (ho : o.op = .buildSlice 22 4 #[(0, p0), (1, p1), (2, p2), (3, p3)]) (x : Ins)
    (e0 : a.eval p0 = .int .u8 x.op) (e1 : a.eval p1 = .int .u8 x.a) (e2 : a.eval p2 = .int .u8 x.b) (e3 : a.eval p3 = .int .u8 x.c)
    (h : ∀ w', Blk w' w.heap.size (icells x) → w.grownBy w' none → wpList Tryd.prog ops Q rest (a.put o.dst (.slice (some ⟨w.heap.size, 0, none⟩) 4 4)) w') : wpList Tryd.prog ops Q (o :: rest) a w := by
  obtain ⟨ti, hi, hz, hs1, hb1⟩ := info_parts Tryd.infoByte
  refine wpList_buildSlice hg _ 5 4 _ ho (icells x).toArray ti (.int .u8 0) Tryd.underlying22 hi hz (by rw [hs1]; decide) (by rw [hs1]; decide) ?_ (h _ (Blk.new w (icells x) _) (World.grownBy_alloc w _ none))
  rw [hs1]
  simp only [List.map_toArray, List.map_cons, List.map_nil, e0, e1, e2, e3]
  unfold icells
  kernel_rfl
theorem rb_ins {w : World} {b : Nat} {x : Ins} (h : Blk w b (icells x)) (hf : x.fits) : RB w w.heap.size (some ⟨b, 0, none⟩) (insB x) := fun _ => by
  refine ⟨b, 0, rfl, h.lt, fun j hj => ?_⟩
  have : (icells x)[j]? = some (bv (insB x)[j]) := by rw [← insB_cells x hf]; simp [hj]
  rw [Nat.zero_add]
  exact h.cell this
theorem ob_grown0 {w w' : World} {base : Nat} {A : Option Addr} {c : Nat} {l : List UInt8} (h : OB w base A c l) (hg : w.grownBy w' none) : OB w' base A c l :=
  h.kept hg (by cases A <;> simp)
theorem ob_grown1 {w w' : World} {base b : Nat} {A : Option Addr} {c : Nat} {l : List UInt8} (h : OB w base A c l) (hg : w.grownBy w' (some b)) (hb : ∀ k, A.map (·.block) = some k → k ≠ b) : OB w' base A c l :=
  h.kept hg (by
    cases A with
    | none => exact .inl rfl
    | some a => exact .inr fun e => hb a.block rfl (by injection e))
def RetByc (w : World) (L : List UInt8) (e : Ending) (w' : World) : Prop := ∃ A c, e = .returned (.slice A L.length c) ∧ RB w' w'.heap.size A L ∧ Below w.heap.size w w'
def EcRel (w0 : World) (l : List Ins) (s3 s12 : Value) (w : World) : Prop :=
  ∃ (i : Nat) (A : Option Addr) (c : Nat) (L : List UInt8), i ≤ l.length ∧ s12 = .int .i64 (i : Int) ∧ s3 = .slice A L.length c ∧ L = encI (l.take i) ∧ OB w w0.heap.size A c L ∧ Below w0.heap.size w0 w
set_option maxHeartbeats 2000000 in
theorem Encode_calls (w : World) (Ai : Option Addr) (c : Nat) (l : List Ins) (h : RIn w w.heap.size Ai l) (h8 : l.length ≤ 1000000) : Calls Tryd.prog 13 #[.slice Ai l.length c] w (RetByc w (encI l)) := by
  have HR := Lib.hid h
  obtain ⟨n, hn⟩ : ∃ n, n = l.length := ⟨_, rfl⟩
  have HN := Lib.hid hn
  rw [← hn] at h8 ⊢
  clear h hn
  have eqm : (4 : Int) * (n : Int) = ((4 * n : Nat) : Int) := by omega
  obtain ⟨n4, hn4⟩ : ∃ n4, n4 = 4 * n := ⟨_, rfl⟩
  have hn46 : n4 ≤ 4000000 := by omega
  have eqw : wrap64 (n4 : Int) = (n4 : Int) := by unfold wrap64; omega
  rw [← hn4] at eqm
  clear hn4
  go_enter Tryd.func13, Tryd.ntmps13
  go_wp2_with ((with_reducible show wpList _ _ _ (Oper.mk _ (Op.makeSlice _ _ _) _ _ _ _ :: _) _ _); refine wpList_make0_bytes _ rfl _ _ rfl w.heap.size _ _ _ n4 rfl rfl rfl (by omega) (Nat.le_refl _) ?_)
  intro w1 hob hg1
  have HOB := Lib.hid hob
  have HBEL1 : Hid (Below w.heap.size w w1) := Lib.hid (gbelow hg1)
  obtain ⟨B4, hB4⟩ : ∃ B4, B4 = w.heap.size := ⟨_, rfl⟩
  have HOB' : Hid (OB w1 w.heap.size (some ⟨B4, 0, none⟩) n4 []) := Lib.hid (by rw [hB4]; exact HOB.out)
  rw [← hB4]
  clear hob hg1 hB4 HOB
  go_wp2_with fail
  go_loopw [3, 12] (fun s3 s12 wr => EcRel w l s3 s12 wr) (fun _ s12 _ => n - (intOf s12).toNat)
  case atStart => exact ⟨0, some ⟨B4, 0, none⟩, n4, [], Nat.zero_le _, rfl, rfl, rfl, HOB'.out, HBEL1.out⟩
  case round =>
    obtain ⟨i, A9, c9, L9, hi, rfl, rfl, hL, hob, hbel⟩ := hrel
    have HI := Lib.hid hi
    have HL := Lib.hid hL
    have HOB := Lib.hid hob
    have HBEL := Lib.hid hbel
    obtain ⟨m9, hm9⟩ : ∃ m9, m9 = L9.length := ⟨_, rfl⟩
    have HM9 := Lib.hid hm9
    rw [← hm9]
    clear hi hL hob hbel HOB' HBEL1 hm9
    by_cases hlt : i < n
    · have hkl : i < l.length := by rw [← HN.out]; exact hlt
      obtain ⟨b, o, hA, hb, h0', h1', h2', h3', hfit⟩ := HR.out.get hkl
      subst hA
      obtain ⟨x, hx⟩ : ∃ x, x = l[i] := ⟨_, rfl⟩
      rw [← hx] at h0' h1' h2' h3' hfit
      have HRG : Hid (wr.rangeAt b (o + i * 4) (icells x)) := Lib.hid (rin_range ((HBEL.out.cell (p := ⟨b, _, none⟩) hb).trans h0') ((HBEL.out.cell (p := ⟨b, _, none⟩) hb).trans h1') ((HBEL.out.cell (p := ⟨b, _, none⟩) hb).trans h2') ((HBEL.out.cell (p := ⟨b, _, none⟩) hb).trans h3'))
      have HF := Lib.hid hfit
      have HX := Lib.hid hx
      have HSN : Hid (encI (l.take (i + 1)) = L9 ++ insB x) := Lib.hid (by rw [encI_snoc l i hkl, HL.out, HX.out])
      clear HX
      clear h0' h1' h2' h3' hfit hx hkl hb
      go_wp2_with (first
        | ((with_reducible show wpList _ _ _ (Oper.mk _ (Op.load 41 _) _ _ _ _ :: _) _ _); refine wpList_load_mid rfl 41 _ rfl b (o + i * 4) rfl (icells x) _ HRG.out Tryd.underlying41 rfl (by kernel_rfl) ?_)
        | ((with_reducible show wpList _ _ _ (Oper.mk _ (Op.alloc _) _ _ _ _ :: _) _ _); refine wpList_allocS [.int .u8 0, .int .u8 0, .int .u8 0, .int .u8 0] (by kernel_rfl) rfl rfl ?_))
      intro w2 hb2 hg2 hs2
      obtain ⟨B5, hB5⟩ : ∃ B5, B5 = wr.heap.size := ⟨_, rfl⟩
      rw [← hB5] at hb2 ⊢
      have HB2 := Lib.hid hb2
      have HG2 := Lib.hid hg2
      have HB5 := Lib.hid hB5
      clear hb2 hg2 hB5 hs2
      go_wp2_with ((with_reducible show wpList _ _ _ (Oper.mk _ (Op.store _ _ _) _ _ _ _ :: _) _ _); refine wpList_storeS sIns rfl _ _ rfl B5 [.int .u8 0, .int .u8 0, .int .u8 0, .int .u8 0] (icells x) rfl rfl HB2.out rfl rfl (fun v hv => by simp only [icells, List.mem_cons, List.not_mem_nil, or_false] at hv; rcases hv with rfl | rfl | rfl | rfl <;> rfl) ?_)
      intro w3 hb3 hg3
      have c0 : w3.cell? ⟨B5, 0, none⟩ = some (.int .u8 x.op) := hb3.cell rfl
      have c1 : w3.cell? ⟨B5, 1, none⟩ = some (.int .u8 x.a) := hb3.cell rfl
      have c2 : w3.cell? ⟨B5, 2, none⟩ = some (.int .u8 x.b) := hb3.cell rfl
      have c3 : w3.cell? ⟨B5, 3, none⟩ = some (.int .u8 x.c) := hb3.cell rfl
      have HG3 := Lib.hid hg3
      have HB3 := Lib.hid hb3
      clear hg3 hb3
      have HOB3 : Hid (OB w3 w.heap.size A9 c9 L9) := Lib.hid (ob_grown1 (ob_grown0 HOB.out HG2.out) HG3.out (fun k hk => by have := (HOB.out.lt k hk).2; have := HB5.out; omega))
      have HBE3 : Hid (Below w.heap.size w w3) := Lib.hid ((HBEL.out.grown HG2.out HBEL.out.size (fun j e => by cases e)).grown HG3.out (HBEL.out.grown HG2.out HBEL.out.size (fun j e => by cases e)).size (fun j e => by
        injection e with e
        have := HBEL.out.size; have := HB5.out; omega))
      clear HOB HBEL HB2 HG2 HG3
      go_wp2_with ((with_reducible show wpList _ _ _ (Oper.mk _ (Op.buildSlice _ _ _) _ _ _ _ :: _) _ _); refine wpList_build4 rfl _ _ _ _ rfl x rfl rfl rfl rfl ?_)
      intro w4 hb4 hg4
      obtain ⟨B6, hB6⟩ : ∃ B6, B6 = w3.heap.size := ⟨_, rfl⟩
      rw [← hB6] at hb4 ⊢
      have HRB4 : Hid (RB w4 w4.heap.size (some ⟨B6, 0, none⟩) (insB x)) := Lib.hid (rb_ins hb4 HF.out)
      have HOB4 : Hid (OB w4 w.heap.size A9 c9 L9) := Lib.hid (ob_grown0 HOB3.out hg4)
      have HBE4 : Hid (Below w.heap.size w w4) := Lib.hid (HBE3.out.grown hg4 HBE3.out.size (fun j e => by cases e))
      have HLL : Hid (L9.length + (insB x).length ≤ 140737488355328) := Lib.hid (by
        rw [HL.out, encI_len, List.length_take]
        show 4 * _ + 4 ≤ _
        have := HN.out
        omega)
      clear hb4 hg4 hB6 HOB3 HBE3 c0 c1 c2 c3 HB3
      go_wp2_with ((with_reducible show wpList _ _ _ (Oper.mk _ (Op.call _) _ _ _ _ :: _) _ _); refine wpList_app_bytes w4 rfl _ _ rfl w.heap.size A9 c9 L9 m9 rfl HM9.out HOB4.out (some ⟨B6, 0, none⟩) 4 (insB x) 4 rfl rfl HRB4.out HLL.out HBE4.out.size ?_)
      intro A2 c2 L2 w5 hL2 hob5 hg5 hn5
      have HF5 : Hid (EcRel w l (.slice A2 L2.length c2) (.int .i64 ((i + 1 : Nat) : Int)) w5) := Lib.hid (by
        refine ⟨i + 1, A2, c2, L2, by rw [← HN.out]; omega, rfl, rfl, by rw [hL2.out, HSN.out], hob5, ?_⟩
        exact HBE4.out.grown hg5 HBE4.out.size (fun j e => (HOB4.out.lt j e).1))
      clear hL2 hob5 hg5 hn5 HOB4 HBE4 HRB4 HLL HSN HL
      go_wp2
      go_roundw
      case rel => first | exact HF5.out | (have e5 : ((i : Int) + 1) = ((i + 1 : Nat) : Int) := by omega
                                           rw [e5]; exact HF5.out)
      case measure => simp [intOf]; omega
    · have hin : i = n := by have := HI.out; have := HN.out; omega
      have hLe : Hid (L9 = encI l) := Lib.hid (by rw [HL.out, List.take_of_length_le (by rw [← HN.out]; omega)])
      clear HL
      go_wp2
      go_ret
      exact ⟨A9, c9, by rw [HM9.out, hLe.out]; rfl, by rw [← hLe.out]; exact HOB.out.rb, HBEL.out⟩
end Go.Proofs.YtlecpekgnlaneaaDoor
/- NacelleMachine: the walk. -/
namespace Go.Proofs.YtlecpekgnlaneaaDoor
open Go.RowKit Nac Nac.Pvm
theorem rin_two (w : World) (i j : Ins) (hi : i.fits) (hj : j.fits) : RIn (w.alloc (.cells #[.int .u8 i.op, .int .u8 i.a, .int .u8 i.b, .int .u8 i.c, .int .u8 j.op, .int .u8 j.a, .int .u8 j.b, .int .u8 j.c] 41)) (w.heap.size + 1) (some ⟨w.heap.size, 0, none⟩) [i, j] := fun _ => by
  refine ⟨w.heap.size, 0, rfl, Nat.lt_succ_self _, fun k hk => ?_⟩
  have hb : Blk (w.alloc (.cells #[.int .u8 i.op, .int .u8 i.a, .int .u8 i.b, .int .u8 i.c, .int .u8 j.op, .int .u8 j.a, .int .u8 j.b, .int .u8 j.c] 41)) w.heap.size [.int .u8 i.op, .int .u8 i.a, .int .u8 i.b, .int .u8 i.c, .int .u8 j.op, .int .u8 j.a, .int .u8 j.b, .int .u8 j.c] := Blk.new w _ _
  match k, hk with
  | 0, _ => exact ⟨hb.cell rfl, hb.cell rfl, hb.cell rfl, hb.cell rfl, hi⟩
  | 1, _ => exact ⟨hb.cell rfl, hb.cell rfl, hb.cell rfl, hb.cell rfl, hj⟩
theorem room_le (z : Int) : room z ≤ 64 := by
  unfold room
  split
  · omega
  split <;> omega
theorem kept_new {l : List Ins} (hg : Nac.Pvm.Good l) {k : Nat} (hk : k ≤ 64) : Kept l (newM k) := by
  have hp := hg.pos
  have h0 : W64 0 := (w64_iff 0).2 (by omega)
  refine ⟨by show (0 : Int) ≤ 0; omega, by show (0 : Int) < _; omega, rfl, by show (List.replicate k (0 : Int)).length ≤ 64; rw [List.length_replicate]; exact hk, ⟨fun z hz => ?_, fun z hz => ?_⟩, ?_⟩
  · have : z = 0 := by simpa [newM] using hz
    rw [this]; exact h0
  · have : z = 0 := by
      have := List.eq_of_mem_replicate (show z ∈ List.replicate k (0 : Int) from hz)
      exact this
    rw [this]; exact h0
  · exact may_of (by show (0 : Int) ≤ 0; omega) (by show (0 : Int) ≤ 65535; omega) (by show (List.replicate k (0 : Int)).length ≤ 64; rw [List.length_replicate]; exact hk) (.inl ⟨.inl rfl, rfl⟩)
theorem OW.down {w : World} {base base' : Nat} {A : Option Addr} {c : Nat} {l : List Int} (h : OW w base A c l) (hb : base' ≤ base) : OW w base' A c l := by
  refine ⟨h.1, ?_⟩
  rcases h.2 with h | ⟨g, cap, cur, hv, hbb, rest⟩
  · exact .inl h
  · exact .inr ⟨g, cap, cur, hv, by omega, rest⟩
theorem mach9 (k : Nat) : ∃ p e1 e2 n, runM [⟨1, 1, 3, 0⟩, ⟨0, 0, 0, 0⟩] (9 : Int).toNat (newM k, 0, 0) = ((⟨p, [0, 3, 0, 0, 0, 0, 0, 0], List.replicate k 0, 1, 0⟩, e1, e2), n) := ⟨1, 2, 0, 2, by kernel_rfl⟩
theorem DecV.below {l : List UInt8} {v v2 : Value} {w w' : World} (h : DecV l v v2 w) (hb : Below w.heap.size w w') : DecV l v v2 w' := by
  rcases h with ⟨h1, h2, g, h3, h4⟩ | ⟨h1, h2, h3, A, c, h4, h5⟩ | ⟨h1, c, k, h2, h3, g, g2, h4, h5, h6⟩
  · exact .inl ⟨h1, h2, g, h3, h4.below hb h4.lt⟩
  · exact .inr (.inl ⟨h1, h2, h3, A, c, h4, (h5.below hb).mono hb.size⟩)
  · exact .inr (.inr ⟨h1, c, k, h2, h3, g, g2, h4, h5.below hb h5.lt, h6.below hb h6.lt⟩)
section
variable {ops : Array Oper} {Q : Exit → Act → World → Prop} {D : Nat → VD} {a0 : Act} {W0 : World} {i : Nat} {o : Oper} {T : TypeId} {n : Nat}
theorem mstep_loadS (hS : SInfo T n) (ho : ops[i]? = some o) (hw : ∀ a w, MCtx ops D a0 W0 i a w → Region.wanted o (yielded ops a.tmps) = true) (x : Tmp) (hop : o.op = .load T (.tmp x)) (b : Nat) (cs : List Value) (hl : cs.length = n)
    (hx : ∀ a w, MCtx ops D a0 W0 i a w → a.tmps.getD x undef = .pointer (some ⟨b, 0, none⟩)) (hb : ∀ w, Below W0.heap.size W0 w → Blk w b cs) (hD : D i = .is (.agg cs.toArray)) : MStep Tryd.prog ops Q D a0 W0 i :=
  mstep_pure ho hw fun a w c => ⟨.agg cs.toArray, by
    have e := hx a w c
    unfold execOp
    simp only [hop, Act.eval, e, Instr.loadAt, Instr.sureAddr, Sem.run_bind, Sem.run_pure, Result.andThen_ok, run_loadS hS b cs (hb w c.below) hl], by rw [hD]; rfl⟩
/-- a new block, from B on -/
def alVD (T : TypeId) (cs : List Value) (B : Nat) : VD := .pr (fun v w => ∃ b, v = .pointer (some ⟨b, 0, none⟩) ∧ B ≤ b ∧ w.heap[b]? = some (.cells cs.toArray T (0, 0))) (fun _ _ _ ⟨b, h1, h2, h3⟩ hb => ⟨b, h1, h2, (hb.block b (Array.getElem?_eq_some_iff.1 h3).1).trans h3⟩)
theorem mstep_allocT (cs : List Value) (hz : ((Tryd.prog.info? T).bind (·.zero)) = some (.agg cs.toArray)) (ho : ops[i]? = some o) (hw : ∀ a w, MCtx ops D a0 W0 i a w → Region.wanted o (yielded ops a.tmps) = true) (hop : o.op = .alloc T) (B : Nat) (hB : B ≤ W0.heap.size) (hD : D i = alVD T cs B) : MStep Tryd.prog ops Q D a0 W0 i := by
  have hzv : ∀ w, (zeroValue T).run Tryd.prog w = .ok (.agg cs.toArray) w := fun w => by
    cases hi : Tryd.prog.info? T with
    | none => simp [hi] at hz
    | some i =>
      simp [hi] at hz
      simp [zeroValue, typeInfo, hi, hz]
  refine mstep_val ho hw fun a w c => ?_
  have hr : (Instr.alloc T true (.tuple #[])).run Tryd.prog w = .ok (.pointer (some ⟨w.heap.size, 0, none⟩)) (w.alloc (.cells cs.toArray T)) := by
    simp [Instr.alloc, hzv, newVar, newRow, Value.cells]
  refine ⟨_, _, by unfold execOp; simp only [hop, Sem.run_bind, hr, Result.andThen_ok]; rfl, ?_, (Below.refl _ _).alloc (Nat.le_refl _) _⟩
  rw [hD]
  exact ⟨w.heap.size, rfl, Nat.le_trans hB c.below.size, heap_alloc_new w _⟩
theorem tailok_storeS {l : List Oper} {a : Act} {w : World} (hS : SInfo T n) (x y : Tmp) (hop : o.op = .store T (.tmp x) (.tmp y)) (b : Nat) (cs0 cs : List Value) (hx : a.tmps.getD x undef = .pointer (some ⟨b, 0, none⟩)) (hy : a.tmps.getD y undef = .agg cs.toArray) (hb : Blk w b cs0) (hl0 : cs0.length = n) (hl : cs.length = n) (h1 : ∀ v ∈ cs, v.oneCell' = true)
    (h : ∀ w', Blk w' b cs → w.grownBy w' (some b) → TailOK Tryd.prog Q l (a.put o.dst undef) w') : TailOK Tryd.prog Q (o :: l) a w := by
  obtain ⟨w', hr, hb', hg⟩ := run_storeS hS b cs0 cs hb hl0 hl h1
  refine ⟨undef, w', fun a' hrd => .inr ⟨rfl, ?_⟩, h w' hb' hg⟩
  have e1 : a'.tmps.getD x undef = .pointer (some ⟨b, 0, none⟩) := (hrd [x, y] (by unfold readsOf; rw [hop]) x (by simp)).trans hx
  have e2 : a'.tmps.getD y undef = .agg cs.toArray := (hrd [x, y] (by unfold readsOf; rw [hop]) y (by simp)).trans hy
  unfold execOp
  simp only [hop, Act.eval, e1, e2, Sem.run_bind, hr, Result.andThen_ok, Sem.run_pure]
theorem wpList_loadSw {w : World} {rest : List Oper} {a : Act} (hS : SInfo T n) (hw : Region.wanted o (yielded ops a.tmps) = true) (x : Operand) (hop : o.op = .load T x) (b : Nat) (cs : List Value) (hx : a.eval x = .pointer (some ⟨b, 0, none⟩)) (hb : Blk w b cs) (hl : cs.length = n)
    (h : wpList Tryd.prog ops Q rest (a.put o.dst (.agg cs.toArray)) w) : wpList Tryd.prog ops Q (o :: rest) a w := by
  unfold wpList
  rw [if_pos hw]
  refine Or.inl ?_
  unfold Oper.wp
  have e : (execOp a.eval o).run Tryd.prog w = .ok (.value (.agg cs.toArray)) w := by
    unfold execOp
    simp only [hop, hx, Instr.loadAt, Instr.sureAddr, Sem.run_bind, Sem.run_pure, Result.andThen_ok, run_loadS hS b cs hb hl]
  rw [e]
  exact h
/-- what Run gives -/
def runVD (m : Mach) (k z : Int) (j : Nat) (B : Nat) : VD := .pr (fun v w => ∃ A c, v = .tuple #[mv m A c, evv k z, .int .i64 (j : Int)] ∧ OW w B A c m.mem) (fun _ _ _ ⟨A, c, h1, h2⟩ hb => ⟨A, c, h1, h2.below hb (Nat.le_refl _)⟩)
def macVD (m : Mach) (B : Nat) : VD := .pr (fun v w => ∃ A c, v = mv m A c ∧ OW w B A c m.mem) (fun _ _ _ ⟨A, c, h1, h2⟩ hb => ⟨A, c, h1, h2.below hb (Nat.le_refl _)⟩)
/-- words lie in another block than a struct of another type -/
theorem ow_apart {w : World} {base : Nat} {A : Option Addr} {c : Nat} {l : List Int} (h : OW w base A c l) {b : Nat} {cs : Array Value} {t : TypeId} (hb : w.heap[b]? = some (.cells cs t (0, 0))) (ht : t ≠ 2) : A.map (·.block) ≠ some b := fun e => by
  rcases h.2 with ⟨hv, _⟩ | ⟨g, cap, cur, hv, _, hg, _⟩
  · injection hv with h1 h2 h3
    subst h1
    cases e
  · injection hv with h1 h2 h3
    subst h1
    injection e with e
    have e' : g = b := e
    subst e'
    rw [hg] at hb
    injection hb with hb
    injection hb with h4 h5
    exact ht h5.symm
end
/-- the two machines between two rounds -/
structure MPair (w0 : World) (I : List Ins) (B16 B17 : Nat) (m : Mach) (Ax : Option Addr) (cx : Nat) (Ay : Option Addr) (cy : Nat) (w : World) : Prop where
  b16 : Blk w B16 (mcs m Ax cx)
  b17 : Blk w B17 (mcs m Ay cy)
  ox : OW w 0 Ax cx m.mem
  oy : OW w 0 Ay cy m.mem
  nx : Ax.map (·.block) ≠ some B16 ∧ Ax.map (·.block) ≠ some B17
  ny : Ay.map (·.block) ≠ some B16 ∧ Ay.map (·.block) ≠ some B17
  ne : B16 ≠ B17
  old : w0.heap.size ≤ B16 ∧ w0.heap.size ≤ B17
  kept : Kept I m
  bel : Below w0.heap.size w0 w
theorem MPair.below {w0 w w' : World} {I : List Ins} {B16 B17 cx cy : Nat} {m : Mach} {Ax Ay : Option Addr} (h : MPair w0 I B16 B17 m Ax cx Ay cy w) (hb : Below w.heap.size w w') : MPair w0 I B16 B17 m Ax cx Ay cy w' :=
  ⟨h.b16.below hb h.b16.lt, h.b17.below hb h.b17.lt, h.ox.below hb (Nat.le_refl _), h.oy.below hb (Nat.le_refl _), h.nx, h.ny, h.ne, h.old, h.kept, h.bel.trans (hb.mono h.bel.size)⟩
def MLRel (w0 : World) (I : List Ins) (B16 B17 : Nat) (s18 : Value) (w : World) : Prop :=
  ∃ (i : Nat) (m : Mach) (Ax : Option Addr) (cx : Nat) (Ay : Option Addr) (cy : Nat), i ≤ 20 ∧ s18 = .int .i64 (i : Int) ∧ MPair w0 I B16 B17 m Ax cx Ay cy w
theorem ne_of_lt_own {w : World} {base : Nat} {A : Option Addr} {c : Nat} {l : List Int} (h : OW w base A c l) {b : Nat} (hb : w.heap.size ≤ b ∨ b < base) : A.map (·.block) ≠ some b := fun e => by
  have := h.lt b e
  omega
theorem ow_grown {w w' : World} {base : Nat} {A : Option Addr} {c : Nat} {l : List Int} (h : OW w base A c l) {b : Nat} (hg : w.grownBy w' (some b)) (hn : A.map (·.block) ≠ some b) : OW w' base A c l := h.kept hg (.inr hn)
set_option maxRecDepth 100000 in
set_option maxHeartbeats 1500000 in
theorem NacelleMachine_calls (w : World) (hd : Hdl w) (A0 : Option Addr) (c0 : Nat) (l0 : List UInt8) (h0 : RB w w.heap.size A0 l0) (h0c : l0.length ≤ c0) (h08 : l0.length ≤ 140737488351232) (words : Int)
    (A2 : Option Addr) (c2 : Nat) (l2 : List UInt8) (h2 : RB w w.heap.size A2 l2) (h28 : l2.length ≤ 140737488351232) :
    Calls Tryd.prog 3 #[.slice A0 l0.length c0, .int .i64 words, .slice A2 l2.length c2] w (RetTrue w) := by
  have HD := Lib.hid hd
  have HRB0 := Lib.hid h0
  have HRB2 := Lib.hid h2
  have HC0 := Lib.hid h0c
  obtain ⟨n0, hn0⟩ : ∃ n0, n0 = l0.length := ⟨_, rfl⟩
  obtain ⟨n2, hn2⟩ : ∃ n2, n2 = l2.length := ⟨_, rfl⟩
  have HN0 := Lib.hid hn0
  have HN2 := Lib.hid hn2
  rw [← hn0] at h08 ⊢
  rw [← hn2] at h28 ⊢
  clear hd h0 h2 h0c hn0 hn2
  go_enter Tryd.func3, Tryd.ntmps3
  go_upto_if 29 with (fail)
  go_cut [0] (fun s0 wx => ∃ A c L n, s0 = .slice A n c ∧ Hid (n = L.length) ∧ Hid (L.length ≤ c) ∧ n ≤ 560 ∧ Hid (RB wx wx.heap.size A L) ∧ w = wx)
  case first =>
    by_cases hlt : 560 < n0
    · have hlt2 : (560 : Int) < n0 := by omega
      go_wp2_with ((with_reducible show wpList _ _ _ (Oper.mk _ (Op.slice _ _ _ _ _) _ _ _ _ :: _) _ _); (refine wpList_cut w (Or.inl rfl) _ _ _ rfl w.heap.size A0 n0 c0 l0 HN0.out rfl HRB0.out HC0.out 0 560 (Or.inl ⟨rfl, rfl⟩) (Or.inr rfl) (by omega) (by omega) ?_))
      intro A6 m6 L6 hL6 hm6 hm6' hr6
      rw [← hm6']
      have h7 : m6 ≤ 560 := by rw [hm6.out]; omega
      have h8 : Hid (m6 = L6.length) := Lib.hid hm6'
      have h9 : Hid (RB w w.heap.size A6 L6) := Lib.hid hr6
      have h10 : Hid (L6.length ≤ c0) := Lib.hid (by rw [← hm6', hm6.out]; have := HC0.out; have := HN0.out; omega)
      clear hL6 hm6 hm6' hr6
      go_wp2_with fail
      go_meet
      case rel => exact ⟨A6, c0, L6, m6, rfl, h8, h10, h7, h9, rfl⟩
    · have hlt2 : ¬ (560 : Int) < n0 := by omega
      go_wp2_with fail
      go_meet
      case rel => exact ⟨A0, c0, l0, n0, rfl, HN0, HC0, by omega, HRB0, rfl⟩
  case rest =>
    obtain ⟨A, c, L, n, rfl, HN, HC, hn5, HRB, rfl⟩ := hcut
    have hdc := Decode_calls w A c L HRB.out HC.out (by rw [← HN.out]; omega) HD.out
    rw [← HN.out] at hdc
    have HDC := Lib.hid hdc
    clear hdc
    go_wp2_with fail
    refine HDC.out.mono ?_
    rintro e w1 ⟨⟨v7, v8, rfl, hv⟩, hb1⟩
    have HB1 := Lib.hid hb1
    have HV1 := Lib.hid hv
    have hls := List_calls w1 A c L ((HRB.out.below hb1).mono hb1.size) (by rw [← HN.out]; omega)
    rw [← HN.out] at hls
    have HLS := Lib.hid hls
    clear hls hb1 hv HDC
    go_wp2_with fail
    refine HLS.out.mono ?_
    rintro e w2 ⟨A9, c9, rfl, hr9, hb2⟩
    have HB2 : Hid (Below w.heap.size w w2) := Lib.hid (HB1.out.trans (hb2.mono HB1.out.size))
    have HV2 := Lib.hid (HV1.out.below hb2)
    have HR9 := Lib.hid hr9
    have hrc := rcheck_calls w2 A9 c9 (insOf L) hr9 (by rw [insOf_len, ← HN.out]; omega)
    obtain ⟨n9, hn9⟩ : ∃ n9, n9 = (insOf L).length := ⟨_, rfl⟩
    have HN9 := Lib.hid hn9
    rw [← hn9] at hrc ⊢
    have HRC := Lib.hid hrc
    clear hrc hb2 hr9 HB1 HV1 HLS hn9
    go_wp2_with fail
    refine HRC.out.mono ?_
    rintro e w3 ⟨rfl, hb3⟩
    have HB3 : Hid (Below w.heap.size w w3) := Lib.hid (HB2.out.trans (hb3.mono HB2.out.size))
    have HV3 := Lib.hid (HV2.out.below hb3)
    have HR9' := Lib.hid ((HR9.out.below hb3).mono hb3.size)
    obtain ⟨k1, hk1⟩ : ∃ k, k = (chk2 (insOf L)).1 := ⟨_, rfl⟩
    obtain ⟨k2, hk2⟩ : ∃ k, k = (chk2 (insOf L)).2 := ⟨_, rfl⟩
    have HK1 := Lib.hid hk1
    have HK2 := Lib.hid hk2
    rw [← hk1, ← hk2]
    clear hb3 HB2 HV2 HR9 HRC hk1 hk2
    go_wp2_with fail
    obtain ⟨u3, hu3⟩ : ∃ u3, u3 = w3.alloc (.cells #[.int .u8 1, .int .u8 1, .int .u8 3, .int .u8 0, .int .u8 0, .int .u8 0, .int .u8 0, .int .u8 0] 41) := ⟨_, rfl⟩
    have hbu : Below w3.heap.size w3 u3 := by rw [hu3]; exact (Below.refl _ _).alloc (Nat.le_refl _) _
    have hri : RIn u3 u3.heap.size (some ⟨w3.heap.size, 0, none⟩) [⟨1, 1, 3, 0⟩, ⟨0, 0, 0, 0⟩] := by
      have := rin_two w3 ⟨1, 1, 3, 0⟩ ⟨0, 0, 0, 0⟩ ⟨by decide, by decide, by decide, by decide⟩ ⟨by decide, by decide, by decide, by decide⟩
      rw [hu3]; simpa using this
    rw [← hu3]
    obtain ⟨ib3, hib⟩ : ∃ ib, ib = w3.heap.size := ⟨_, rfl⟩
    rw [← hib] at hri ⊢
    have HI3 := Lib.hid hri
    have HC3 : Hid (Below w.heap.size w u3) := Lib.hid (HB3.out.trans (hbu.mono HB3.out.size))
    have HV4 := Lib.hid (HV3.out.below hbu)
    have HR10 := Lib.hid ((HR9'.out.below hbu).mono hbu.size)
    clear hu3 hib hri hbu HV3 HR9' HB3
    refine (New_calls u3 words).mono ?_
    rintro e v3 ⟨A3, c3, rfl, hl3, ho3, hb3⟩
    have HO3 := Lib.hid ho3
    have HE3 : Hid (Below w.heap.size w v3) := Lib.hid (HC3.out.trans (hb3.mono HC3.out.size))
    have HV5 := Lib.hid (HV4.out.below hb3)
    have HR11 := Lib.hid ((HR10.out.below hb3).mono hb3.size)
    have HI4 := Lib.hid ((HI3.out.below hb3).mono hb3.size)
    have HNL : Hid ((newM (room words)).mem.length ≤ 17592186044415) := Lib.hid (by have := room_le words; unfold newM; simp only [List.length_replicate]; omega)
    clear hb3 ho3 hl3 HV4 HR10 HC3 HI3
    go_wp2_with fail
    refine (Run_calls v3 (HD.out.below HE3.out HD.out.lt) A3 c3 (newM (room words)) rfl HO3.out.rw HNL.out (some ⟨ib3, 0, none⟩) 2 [⟨1, 1, 3, 0⟩, ⟨0, 0, 0, 0⟩] HI4.out (by decide) 9 (by decide)).mono ?_
    rintro e s3 ⟨X3, x3, rfl, hl3, ho3, hs3⟩
    have HF3 : Hid (Below w.heap.size w s3) := Lib.hid (HE3.out.trans (hs3.mono HE3.out.size))
    have HV6 := Lib.hid (HV5.out.below hs3)
    have HR12 := Lib.hid ((HR11.out.below hs3).mono hs3.size)
    clear hs3 ho3 hl3 HO3 HI4 HE3 HV5 HR11
    obtain ⟨p9, e1, e2, n99, hm9⟩ := mach9 (room words)
    rw [hm9]
    clear hm9
    obtain ⟨rm, hrm⟩ : ∃ rm, rm = room words := ⟨_, rfl⟩
    have HRM := Lib.hid hrm
    rw [← hrm]
    clear hrm
    go_wp2_with ((with_reducible show wpList _ _ _ (Oper.mk _ (Op.alloc 35) _ _ _ _ :: _) _ _); refine wpList_allocS _ zMach rfl rfl ?_)
    intro a3 hba hga hsa
    have HBA := Lib.hid hba
    have HS1 : Hid (Below s3.heap.size s3 a3) := Lib.hid (gbelow hga)
    obtain ⟨ma3, hma⟩ : ∃ ma, ma = s3.heap.size := ⟨_, rfl⟩
    have HMA := Lib.hid hma
    rw [← hma] at HBA hsa ⊢
    clear hba hga hsa hma
    go_wp2_with ((with_reducible show wpList _ _ _ (Oper.mk _ (Op.alloc 37) _ _ _ _ :: _) _ _); refine wpList_allocS _ zEv rfl rfl ?_)
    intro b3 hbb hgb hsb
    have HBB := Lib.hid hbb
    have HGB := Lib.hid (gbelow hgb)
    have HBA2 := Lib.hid (HBA.out.below HGB.out HBA.out.lt)
    have HS2 : Hid (Below s3.heap.size s3 b3) := Lib.hid (HS1.out.trans (HGB.out.mono HS1.out.size))
    obtain ⟨ea3, hea⟩ : ∃ ea, ea = a3.heap.size := ⟨_, rfl⟩
    rw [← hea] at HBB hsb ⊢
    have HEA : Hid (ma3 < ea3) := Lib.hid (by rw [hea]; exact HBA.out.lt)
    clear hbb hgb hsb HGB hea HBA HS1
    go_wp2_with ((with_reducible show wpList _ _ _ (Oper.mk _ (Op.store 35 _ _) _ _ _ _ :: _) _ _); refine wpList_storeS sMach rfl _ _ rfl ma3 (mcs zM none 0) (mcs ⟨p9, [0, 3, 0, 0, 0, 0, 0, 0], List.replicate rm 0, 1, 0⟩ X3 x3) rfl rfl HBA2.out rfl rfl (mcs_one _ _ _) ?_)
    intro d3 hbd hgd
    have HBD := Lib.hid hbd
    have HBB2 := Lib.hid (HBB.out.grown hgd (fun e => by injection e with e; have := HEA.out; omega))
    have HS3 : Hid (Below s3.heap.size s3 d3) := Lib.hid (HS2.out.grown hgd HS2.out.size (fun j e => by injection e with e; have := HMA.out; omega))
    clear hbd hgd HBB HBA2 HS2
    go_wp2_with ((with_reducible show wpList _ _ _ (Oper.mk _ (Op.store 37 _ _) _ _ _ _ :: _) _ _); refine wpList_storeS sEv rfl _ _ rfl ea3 (ecs 0 0) (ecs e1 e2) rfl rfl HBB2.out rfl rfl (ecs_one _ _) ?_)
    intro f3 hbf hgf
    have HM := Lib.hid (HBD.out.grown hgf (fun e => by injection e with e; have := HEA.out; omega))
    have HS4 : Hid (Below s3.heap.size s3 f3) := Lib.hid (HS3.out.grown hgf HS3.out.size (fun j e => by injection e with e; have := HMA.out; have := HEA.out; omega))
    have HB4 : Hid (Below w.heap.size w f3) := Lib.hid (HF3.out.trans (HS4.out.mono HF3.out.size))
    have HV := Lib.hid (HV6.out.below HS4.out)
    have HR := Lib.hid ((HR12.out.below HS4.out).mono HS4.out.size)
    have x2 : f3.cell? ⟨ma3, 2, none⟩ = some (.int .i64 3) := HM.out.cell rfl
    have x10 : f3.cell? ⟨ma3, 10, none⟩ = some (.int .i64 1) := HM.out.cell rfl
    clear hbf hgf HBD HBB2 HS3 HS4 HF3 HV6 HR12 HMA HEA
    have HD4 := Lib.hid (HD.out.below HB4.out HD.out.lt)
    have hvv := HV.out
    clear HV
    rcases hvv with ⟨h1, rfl, g, rfl, hx⟩ | ⟨h1, hck, rfl, A7, c7, rfl, hr7⟩ | ⟨h1, cc, k, hck, rfl, g, g2, rfl, hx2, hx1⟩
    · have eqb : ((n : Int) % 4 != 0) = true := by have := HN.out; simp; omega
      have HX := Lib.hid hx
      clear h1 hx
      unfold flt
      go_wp2_with fail
      refine (path_hit f3 g _ _ HD4.out HX.out).mono ?_
      rintro e w5 ⟨gp, cp, rfl, hcp, hgp, hb5⟩
      have HB5 : Hid (Below w.heap.size w w5) := Lib.hid (HB4.out.trans (hb5.mono HB4.out.size))
      clear x2 x10 HM hcp hgp hb5 HB4 HX HR HD4
      go_wp2
      go_ret
      exact ⟨rfl, HB5.out⟩
    · have HG7 : Hid (Nac.Pvm.Good (insOf L)) := Lib.hid (good_of _ hck)
      have hL4 : L.length % 4 = 0 := h1
      have HEN : Hid (encI (insOf L) = L) := Lib.hid (encI_insOf L hL4)
      have HR7 := Lib.hid hr7
      have HIF : Hid (∀ i ∈ insOf L, i.fits) := Lib.hid (insOf_fits L)
      obtain ⟨I, hI⟩ : ∃ I, I = insOf L := ⟨_, rfl⟩
      rw [← hI] at HR7 HR HN9 HG7 HEN HIF
      have HN9' : Hid (n9 ≤ 1000) := Lib.hid (by rw [HN9.out, hI, insOf_len, ← HN.out]; omega)
      have hvl : (Value.slice A7 (insOf L).length c7) = .slice A7 n9 c7 := by rw [← hI, HN9.out]
      rw [hvl]
      clear h1 hck hr7 hL4 hvl hI HK1 HK2
      go_wp2_with fail
      refine (New_calls f3 words).mono ?_
      rintro e w5 ⟨Ax, cx, rfl, hlx, hox, hb5⟩
      have HO5 := Lib.hid hox
      have HB5 : Hid (Below w.heap.size w w5) := Lib.hid (HB4.out.trans (hb5.mono HB4.out.size))
      have HR5 : Hid (RIn w5 w5.heap.size A9 I ∧ RIn w5 w5.heap.size A7 I) := Lib.hid ⟨(HR.out.below hb5).mono hb5.size, (HR7.out.below hb5).mono hb5.size⟩
      clear x2 x10 HM hb5 hox hlx HB4 HR HR7 HD4
      go_wp2_with fail
      refine (New_calls w5 words).mono ?_
      rintro e w6 ⟨Ay, cy, rfl, hly, hoy, hb6⟩
      have HOy := Lib.hid hoy
      have HOx : Hid (OW w6 0 Ax cx (newM (room words)).mem) := Lib.hid ((HO5.out.down (Nat.zero_le _)).below hb6 (Nat.le_refl _))
      have HB6 : Hid (Below w.heap.size w w6) := Lib.hid (HB5.out.trans (hb6.mono HB5.out.size))
      have HR6 : Hid (RIn w6 w6.heap.size A9 I ∧ RIn w6 w6.heap.size A7 I) := Lib.hid ⟨(HR5.out.1.below hb6).mono hb6.size, (HR5.out.2.below hb6).mono hb6.size⟩
      have HKM : Hid (Kept I (newM (room words))) := Lib.hid (kept_new HG7.out (room_le words))
      obtain ⟨m0, hm0⟩ : ∃ m0, m0 = newM (room words) := ⟨_, rfl⟩
      rw [← hm0] at HOx HOy HKM ⊢
      clear hb6 hoy hly HO5 HB5 HR5 hm0
      go_wp2_with ((with_reducible show wpList _ _ _ (Oper.mk _ (Op.alloc 35) _ _ _ _ :: _) _ _); refine wpList_allocS _ zMach rfl rfl ?_)
      intro w7 hb7 hg7 hs7
      obtain ⟨B16, hB16⟩ : ∃ B, B = w6.heap.size := ⟨_, rfl⟩
      rw [← hB16] at hb7 hs7 ⊢
      have HE16 := Lib.hid hB16
      have HS16 := Lib.hid hs7
      have HC7 := Lib.hid hb7
      have HG7b : Hid (Below w6.heap.size w6 w7) := Lib.hid (gbelow hg7)
      clear hb7 hg7 hs7 hB16
      go_wp2_with ((with_reducible show wpList _ _ _ (Oper.mk _ (Op.alloc 35) _ _ _ _ :: _) _ _); refine wpList_allocS _ zMach rfl rfl ?_)
      intro w8 hb8 hg8 hs8
      obtain ⟨B17, hB17⟩ : ∃ B, B = w7.heap.size := ⟨_, rfl⟩
      rw [← hB17] at hb8 hs8 ⊢
      have HNE : Hid (B16 < B17) := Lib.hid (by rw [hB17]; exact HC7.out.lt)
      have HC8 := Lib.hid hb8
      have HC78 := Lib.hid (HC7.out.below (gbelow hg8) HC7.out.lt)
      have HG8 : Hid (Below w6.heap.size w6 w8) := Lib.hid (HG7b.out.trans ((gbelow hg8).mono HG7b.out.size))
      clear hb8 hg8 hs8 hB17 HC7 HG7b
      have HLM0 : Hid (m0.r.length = 8) := Lib.hid HKM.out.len
      go_wp2_with ((with_reducible show wpList _ _ _ (Oper.mk _ (Op.store 35 _ _) _ _ _ _ :: _) _ _); refine wpList_storeS sMach rfl _ _ rfl B16 (mcs zM none 0) (mcs m0 Ax cx) rfl rfl HC78.out rfl (mcs_len HLM0.out) (mcs_one _ _ _) ?_)
      intro w9 hb9 hg9
      have HC9 := Lib.hid hb9
      have HD9 := Lib.hid (HC8.out.grown hg9 (fun e => by injection e with e; have := HNE.out; omega))
      have HG9 : Hid (Below w6.heap.size w6 w9) := Lib.hid (HG8.out.grown hg9 HG8.out.size (fun j e => by injection e with e; have := HE16.out; omega))
      clear hb9 hg9 HC8 HC78 HG8
      go_wp2_with ((with_reducible show wpList _ _ _ (Oper.mk _ (Op.store 35 _ _) _ _ _ _ :: _) _ _); refine wpList_storeS sMach rfl _ _ rfl B17 (mcs zM none 0) (mcs m0 Ay cy) rfl rfl HD9.out rfl (mcs_len HLM0.out) (mcs_one _ _ _) ?_)
      intro w10 hb10 hg10
      have HP : Hid (MPair w6 I B16 B17 m0 Ax cx Ay cy w10) := Lib.hid (by
        have hne := HNE.out
        have he := HE16.out
        have hg : Below w6.heap.size w6 w10 := HG9.out.grown hg10 HG9.out.size (fun j e => by injection e with e; omega)
        have h6 := HB6.out.size
        exact ⟨HC9.out.grown hg10 (fun e => by injection e with e; omega), hb10, HOx.out.below hg (Nat.le_refl _), (HOy.out.down (Nat.zero_le _)).below hg (Nat.le_refl _), ⟨ne_of_lt_own HOx.out (.inl (by omega)), ne_of_lt_own HOx.out (.inl (by omega))⟩, ⟨ne_of_lt_own HOy.out (.inl (by omega)), ne_of_lt_own HOy.out (.inl (by omega))⟩, by omega, ⟨by omega, by omega⟩, HKM.out, hg⟩)
      clear hb10 hg10 HC9 HD9 HG9 HE16 HS16 HNE HOx HOy HKM HLM0
      go_wp2_with fail
      go_loopw [18] (fun s18 wr => MLRel w6 I B16 B17 s18 wr) (fun s18 _ => 20 - (intOf s18).toNat)
      case atStart => exact ⟨0, m0, Ax, cx, Ay, cy, by omega, rfl, HP.out⟩
      case round =>
        obtain ⟨i, m, Ax, cx, Ay, cy, hi, rfl, hp⟩ := hrel
        have HP := Lib.hid hp
        clear hp
        by_cases hlt : i < n2 ∧ i < 20
        · have hlt2 : (i : Int) < n2 := by omega
          have hlt3 : (i : Int) < 20 := by omega
          have hil : i < l2.length := by rw [← HN2.out]; exact hlt.1
          obtain ⟨b2, o2, hA2, hb2, hc2⟩ := HRB2.out.get (k := i) hil
          subst hA2
          obtain ⟨x, hx⟩ : ∃ x, x = (l2[i]).toNat := ⟨_, rfl⟩
          have HX256 : Hid (x < 256) := Lib.hid (by rw [hx]; exact UInt8.toNat_lt _)
          have HWR : Hid (Below w.heap.size w wr) := Lib.hid (HB6.out.trans (HP.out.bel.mono HB6.out.size))
          have MC : Hid (∀ w', Below wr.drew.heap.size wr.drew w' → w'.cell? ⟨b2, o2 + i, none⟩ = some (.int .u8 (x : Int))) := Lib.hid fun w' hb => by
            rw [hx]
            have hbw : Below w.heap.size w w' := HWR.out.drew.trans (hb.mono HWR.out.size)
            exact (hbw.cell (p := ⟨b2, o2 + i, none⟩) hb2).trans hc2
          have HI20 := Lib.hid hlt2
          clear hc2 hx hil hb2 hlt
          go_wp2_with fail
          obtain ⟨BB, hBB⟩ : ∃ B, B = wr.heap.size := ⟨_, rfl⟩
          have HBB : Hid (BB ≤ wr.heap.size) := Lib.hid (by omega)
          have HBE := Lib.hid hBB
          clear hBB
          obtain ⟨m1, kk, zz, jj, hx⟩ : ∃ m1 kk zz jj, runM I ((x : Int) % 16).toNat (m, 0, 0) = ((m1, kk, zz), jj) := ⟨_, _, _, _, rfl⟩
          have HX := Lib.hid hx
          have HLM : Hid (m.r.length = 8) := Lib.hid HP.out.kept.len
          have HK1 : Hid (Kept I m1) := Lib.hid (by have := Kept.run HG7.out HIF.out ((x : Int) % 16).toNat (m, 0, 0) HP.out.kept; rw [hx] at this; exact this)
          have MC0 := MC
          have BK0 : Hid (∀ w', Below wr.drew.heap.size wr.drew w' → Blk w' B16 (mcs m Ax cx)) := Lib.hid fun w' hb => HP.out.b16.drew.below hb HP.out.b16.lt
          have RC0 : Hid (∀ w', Below wr.drew.heap.size wr.drew w' → Calls Tryd.prog 7 #[.slice A7 n9 c7, mv m Ax cx, .int .i64 ((x : Int) % 16)] w' fun e w'' => ∃ v, e = .returned v ∧ (runVD m1 kk zz jj BB).ok v w'' ∧ Below w'.heap.size w' w'') := Lib.hid fun w' hb => by
            have hw6 : Below w6.heap.size w6 w' := HP.out.bel.drew.trans (hb.mono HP.out.bel.size)
            have hww : Below w.heap.size w w' := HB6.out.trans (hw6.mono HB6.out.size)
            have := Run_calls w' (HD.out.below hww HD.out.lt) Ax cx m HLM.out (((HP.out.ox.drew).below hb (Nat.le_refl _)).rw) (by have := HP.out.kept.mem; omega) A7 c7 I ((HR6.out.2.below hw6).mono hw6.size) (by rw [← HN9.out]; have := HN9'.out; omega) ((x : Int) % 16) (by omega)
            rw [← HN9.out] at this
            refine this.mono ?_
            rintro e w'' ⟨Aq, cq, rfl, hl, ho, hb2⟩
            rw [HX.out] at ho ⊢
            exact ⟨_, rfl, ⟨Aq, cq, rfl, ho.down (by have h1 : BB = wr.heap.size := HBE.out; have h2 : wr.heap.size ≤ w'.heap.size := hb.size; omega)⟩, hb2⟩
          clear hx
          refine region_late 15 [11, 12] (fun ix9 => ([.is (.slice A7 n9 c7), .is (mv m Ax cx), .is (.slice (some ⟨b2, o2, none⟩) n2 c2), .is (.int .i64 (i : Int)), .is (.pointer (some ⟨b2, o2 + i, none⟩)), .is (.int .u8 (x : Int)), .is (.int .u8 ((x : Int) % 16)), .is (.int .i64 ((x : Int) % 16)), (runVD m1 kk zz jj BB), (runVD m1 kk zz jj BB), (macVD m1 BB), .is (evv kk zz), .is (.int .i64 (jj : Int)), (alVD 35 (mcs zM none 0) BB), (alVD 37 (ecs 0 0) BB)] : List VD).getD ix9 VD.any) [some 107, some 108, some 109, some 110, some 111, some 112, some 113, some 114, some 115, some 106, some 116, some 117, some 118, some 19, some 20] (by kernel_rfl) (by kernel_rfl) (by kernel_rfl) (by kernel_rfl) rfl (fun ii hii => getD_any _ ii hii) (fun ff hff => ?_) (fun ii hii hnF => ?_) ?_
          · simp only [List.mem_cons, List.not_mem_nil, or_false] at hff
            rcases hff with rfl | rfl
            · exact fstep_of rfl rfl _ rfl (fun aa ww cc w2 => by obtain ⟨Aq, cq, e0, hq⟩ := cc.slot 9 106 (by kernel_rfl) rfl; simp only [execOp, Act.eval, e0]; go_simp)
            · exact fstep_of rfl rfl _ rfl (fun aa ww cc w2 => by obtain ⟨Aq, cq, e0, hq⟩ := cc.slot 9 106 (by kernel_rfl) rfl; simp only [execOp, Act.eval, e0]; go_simp)
          · match ii, hii, hnF with
            | 0, _, _ => exact mstep_first rfl (mwant_none rfl) 7 (Or.inl rfl) (by kernel_rfl) (fun _ _ => rfl)
            | 1, _, _ => exact mstep_loadS sMach rfl (mwant_none rfl) 16 rfl B16 (mcs m Ax cx) (mcs_len HLM.out) (fun aa ww cc => (cc.orig 16 (by kernel_rfl)).trans rfl) (fun ww hb => BK0.out ww hb) rfl
            | 2, _, _ => exact mstep_first rfl (mwant_none rfl) 2 (Or.inl rfl) (by kernel_rfl) (fun _ _ => rfl)
            | 3, _, _ => exact mstep_first rfl (mwant_none rfl) 18 (Or.inl rfl) (by kernel_rfl) (fun _ _ => rfl)
            | 4, _, _ => exact mstep_pure rfl (mwant_none rfl) (fun aa ww cc => ⟨.pointer (some ⟨b2, o2 + i, none⟩), by have e0 : aa.tmps.getD 109 undef = .slice (some ⟨b2, o2, none⟩) n2 c2 := cc.slot 2 109 (by kernel_rfl) rfl; have e1 : aa.tmps.getD 110 undef = .int .i64 (i : Int) := cc.slot 3 110 (by kernel_rfl) rfl; have q1 := HI20.out; simp only [execOp, Act.eval, e0, e1]; go_simp, rfl⟩)
            | 5, _, _ => exact mstep_pure rfl (mwant_none rfl) (fun aa ww cc => ⟨.int .u8 (x : Int), by have e0 : aa.tmps.getD 111 undef = .pointer (some ⟨b2, o2 + i, none⟩) := cc.slot 4 111 (by kernel_rfl) rfl; have q1 := MC0.out _ cc.below; simp only [execOp, Act.eval, e0]; go_simp, rfl⟩)
            | 6, _, _ => exact mstep_pure rfl (mwant_none rfl) (fun aa ww cc => ⟨.int .u8 ((x : Int) % 16), by have e0 : aa.tmps.getD 112 undef = .int .u8 (x : Int) := cc.slot 5 112 (by kernel_rfl) rfl; have q1 : (x : Int).tmod 16 = (x : Int) % 16 := Int.tmod_eq_emod_of_nonneg (by omega); simp only [execOp, Act.eval, e0]; go_simp, rfl⟩)
            | 7, _, _ => exact mstep_pure rfl (mwant_none rfl) (fun aa ww cc => ⟨.int .i64 ((x : Int) % 16), by have e0 : aa.tmps.getD 113 undef = .int .u8 ((x : Int) % 16) := cc.slot 6 113 (by kernel_rfl) rfl; have q1 : IntKind.i64.wrap ((x : Int) % 16) = (x : Int) % 16 := Go.IntWalk.i64_in _ (by omega); simp only [execOp, Act.eval, e0]; go_simp, rfl⟩)
            | 8, _, _ => exact mstep_call rfl (mwant_none rfl) _ _ _ rfl (enters_of Tryd.func7 (by kernel_rfl) rfl) (fun aa ww cc => by have e0 : aa.tmps.getD 107 undef = .slice A7 n9 c7 := cc.slot 0 107 (by kernel_rfl) rfl; have e1 : aa.tmps.getD 108 undef = mv m Ax cx := cc.slot 1 108 (by kernel_rfl) rfl; have e2 : aa.tmps.getD 114 undef = .int .i64 ((x : Int) % 16) := cc.slot 7 114 (by kernel_rfl) rfl; simp only [List.map_toArray, List.map_cons, List.map_nil, Act.eval, e0, e1, e2]; exact RC0.out ww cc.below)
            | 9, _, _ => exact mstep_copy rfl (mwant_none rfl) 115 (Or.inl rfl) 8 (by kernel_rfl) rfl rfl
            | 10, _, _ => exact mstep_pure rfl (mwant_none rfl) (fun aa ww cc => by obtain ⟨Aq, cq, e0, hq⟩ := cc.slot 9 106 (by kernel_rfl) rfl; exact ⟨mv m1 Aq cq, by simp only [execOp, Act.eval, e0]; go_simp, ⟨Aq, cq, rfl, hq⟩⟩)
            | 11, _, hn => exact absurd (by decide) hn
            | 12, _, hn => exact absurd (by decide) hn
            | 13, _, _ => exact mstep_allocT _ zMach rfl (mwant_none rfl) rfl BB (by have := HBB.out; simpa using this) rfl
            | 14, _, _ => exact mstep_allocT _ zEv rfl (mwant_none rfl) rfl BB (by have := HBB.out; simpa using this) rfl
            | n + 15, h, _ => exact absurd h (by show ¬ (n + 15 < 15); omega)
          · intro VV w5 hlen hb5 hok
            match VV, hlen with
            | [v0, v1, v2, v3, v4, v5, v6, v7, v8, v9, v10, v11, v12, v13, v14], _ =>
              obtain rfl : v0 = .slice A7 n9 c7 := hok 0 107 rfl
              obtain rfl : v1 = mv m Ax cx := hok 1 108 rfl
              obtain rfl : v2 = .slice (some ⟨b2, o2, none⟩) n2 c2 := hok 2 109 rfl
              obtain rfl : v3 = .int .i64 (i : Int) := hok 3 110 rfl
              obtain rfl : v4 = .pointer (some ⟨b2, o2 + i, none⟩) := hok 4 111 rfl
              obtain rfl : v5 = .int .u8 (x : Int) := hok 5 112 rfl
              obtain rfl : v6 = .int .u8 ((x : Int) % 16) := hok 6 113 rfl
              obtain rfl : v7 = .int .i64 ((x : Int) % 16) := hok 7 114 rfl
              have p8 := hok 8 115 rfl
              have p9 := hok 9 106 rfl
              have p10 := hok 10 116 rfl
              obtain rfl : v11 = evv kk zz := hok 11 117 rfl
              obtain rfl : v12 = .int .i64 (jj : Int) := hok 12 118 rfl
              have p13 := hok 13 19 rfl
              have p14 := hok 14 20 rfl
              obtain ⟨Aa, ca, rfl, hoa⟩ := p10
              obtain ⟨b19, rfl, hb19, hh19⟩ := p13
              obtain ⟨b20, rfl, hb20, hh20⟩ := p14
              have HLM1 : Hid (m1.r.length = 8) := Lib.hid HK1.out.len
              have HNA19 : Hid (Aa.map (·.block) ≠ some b19 ∧ Aa.map (·.block) ≠ some b20) := Lib.hid ⟨ow_apart hoa hh19 (by decide), ow_apart hoa hh20 (by decide)⟩
              have HNE12 : Hid (b19 ≠ b20) := Lib.hid (fun e => by
                subst e
                rw [hh19] at hh20
                injection hh20 with h1
                injection h1 with h2 h3
                exact absurd h3 (by decide))
              clear p8 p9 hok hlen MC0 BK0 RC0
              simp only [List.zip_cons_cons, List.zip_nil_right, putsL]
              go_simp
              refine tailok_storeS (o := _) sMach 19 116 rfl b19 (mcs zM none 0) (mcs m1 Aa ca) (by rfl) (by rfl) ⟨_, hh19⟩ rfl (mcs_len HLM1.out) (mcs_one _ _ _) ?_
              intro w7 hb7 hg7
              refine tailok_storeS (o := _) sEv 20 117 rfl b20 (ecs 0 0) (ecs kk zz) (by rfl) (by rfl) ⟨_, (hg7.block b20 (Array.getElem?_eq_some_iff.1 hh20).1 (fun e => HNE12.out (by injection e with e; exact e.symm))).trans hh20⟩ rfl rfl (ecs_one _ _) ?_
              intro w8 hb8 hg8
              refine tailok_copy 118 (.inl rfl) (.int .i64 (jj : Int)) (by rfl) ?_
              have BBE : BB = wr.heap.size := HBE.out
              have hb57 : Below wr.heap.size wr w7 := hb5.grown hg7 hb5.size (fun j e => by injection e with e; omega)
              have hb58 : Below wr.heap.size wr w8 := hb57.grown hg8 hb57.size (fun j e => by injection e with e; omega)
              have HP8 := Lib.hid (HP.out.below hb58)
              have M19 := Lib.hid (hb7.grown hg8 (fun e => HNE12.out (by injection e with e; exact e.symm)))
              have E20 := Lib.hid hb8
              have OA8 : Hid (OW w8 BB Aa ca m1.mem) := Lib.hid (ow_grown (ow_grown hoa hg7 HNA19.out.1) hg8 HNA19.out.2)
              have HNA16 : Hid (Aa.map (·.block) ≠ some B16 ∧ Aa.map (·.block) ≠ some B17) := Lib.hid ⟨ne_of_lt_own hoa (.inr (by have := HP.out.b16.lt; omega)), ne_of_lt_own hoa (.inr (by have := HP.out.b17.lt; omega))⟩
              have HGE : Hid (B16 < b19 ∧ B17 < b19 ∧ B16 < b20 ∧ B17 < b20) := Lib.hid (by have := HP.out.b16.lt; have := HP.out.b17.lt; omega)
              have MC8 : Hid (∀ w', Below w8.drew.heap.size w8.drew w' → w'.cell? ⟨b2, o2 + i, none⟩ = some (.int .u8 (x : Int))) := Lib.hid fun w' hb => MC.out w' (by
                have h := (hb58.drew).trans (hb.mono hb58.size)
                exact ⟨h.os, h.tape, h.output, h.size, h.block⟩)
              clear hb57 hb58 hg7 hg8 hb7 hb8 hoa hb5 hb19 hb20 hh19 hh20 HP HNE12 HNA19 BBE MC HWR HBB
              unfold TailOK
              refine (by assumption : ∀ (a : Act) (w : World), Code.wp _ _ _ a w → _) _ _ ?_
              go_wp2_with fail
              obtain ⟨BC, hBC⟩ : ∃ B, B = w8.heap.size := ⟨_, rfl⟩
              have HBC : Hid (BC ≤ w8.heap.size) := Lib.hid (by omega)
              have HCE := Lib.hid hBC
              clear hBC
              have MC13 := MC8
              have BK13 : Hid (∀ w', Below w8.drew.heap.size w8.drew w' → Blk w' B17 (mcs m Ay cy)) := Lib.hid fun w' hb => HP8.out.b17.drew.below hb HP8.out.b17.lt
              have RC13 : Hid (∀ w', Below w8.drew.heap.size w8.drew w' → Calls Tryd.prog 7 #[.slice A9 n9 c9, mv m Ay cy, .int .i64 ((x : Int) % 16)] w' fun e w'' => ∃ v, e = .returned v ∧ (runVD m1 kk zz jj BC).ok v w'' ∧ Below w'.heap.size w' w'') := Lib.hid fun w' hb => by
                have hw6 : Below w6.heap.size w6 w' := HP8.out.bel.drew.trans (hb.mono HP8.out.bel.size)
                have hww : Below w.heap.size w w' := HB6.out.trans (hw6.mono HB6.out.size)
                have := Run_calls w' (HD.out.below hww HD.out.lt) Ay cy m HLM.out (((HP8.out.oy.drew).below hb (Nat.le_refl _)).rw) (by have := HP8.out.kept.mem; omega) A9 c9 I ((HR6.out.1.below hw6).mono hw6.size) (by rw [← HN9.out]; have := HN9'.out; omega) ((x : Int) % 16) (by omega)
                rw [← HN9.out] at this
                refine this.mono ?_
                rintro e w'' ⟨Aq, cq, rfl, hl, ho, hb2⟩
                rw [HX.out] at ho ⊢
                exact ⟨_, rfl, ⟨Aq, cq, rfl, ho.down (by have h1 : BC = w8.heap.size := HCE.out; have h2 : w8.heap.size ≤ w'.heap.size := hb.size; omega)⟩, hb2⟩
              refine region_late 15 [11, 12] (fun ix9 => ([.is (.slice A9 n9 c9), .is (mv m Ay cy), .is (.slice (some ⟨b2, o2, none⟩) n2 c2), .is (.int .i64 (i : Int)), .is (.pointer (some ⟨b2, o2 + i, none⟩)), .is (.int .u8 (x : Int)), .is (.int .u8 ((x : Int) % 16)), .is (.int .i64 ((x : Int) % 16)), (runVD m1 kk zz jj BC), (runVD m1 kk zz jj BC), (macVD m1 BC), .is (evv kk zz), .is (.int .i64 (jj : Int)), (alVD 35 (mcs zM none 0) BC), (alVD 37 (ecs 0 0) BC)] : List VD).getD ix9 VD.any) [some 120, some 121, some 122, some 123, some 124, some 125, some 126, some 127, some 128, some 119, some 129, some 130, some 131, some 22, some 23] (by kernel_rfl) (by kernel_rfl) (by kernel_rfl) (by kernel_rfl) rfl (fun ii hii => getD_any _ ii hii) (fun ff hff => ?_) (fun ii hii hnF => ?_) ?_
              · simp only [List.mem_cons, List.not_mem_nil, or_false] at hff
                rcases hff with rfl | rfl
                · exact fstep_of rfl rfl _ rfl (fun aa ww cc w2 => by obtain ⟨Aq, cq, e0, hq⟩ := cc.slot 9 119 (by kernel_rfl) rfl; simp only [execOp, Act.eval, e0]; go_simp)
                · exact fstep_of rfl rfl _ rfl (fun aa ww cc w2 => by obtain ⟨Aq, cq, e0, hq⟩ := cc.slot 9 119 (by kernel_rfl) rfl; simp only [execOp, Act.eval, e0]; go_simp)
              · match ii, hii, hnF with
                | 0, _, _ => exact mstep_first rfl (mwant_none rfl) 9 (Or.inl rfl) (by kernel_rfl) (fun _ _ => rfl)
                | 1, _, _ => exact mstep_loadS sMach rfl (mwant_none rfl) 17 rfl B17 (mcs m Ay cy) (mcs_len HLM.out) (fun aa ww cc => (cc.orig 17 (by kernel_rfl)).trans rfl) (fun ww hb => BK13.out ww hb) rfl
                | 2, _, _ => exact mstep_first rfl (mwant_none rfl) 2 (Or.inl rfl) (by kernel_rfl) (fun _ _ => rfl)
                | 3, _, _ => exact mstep_first rfl (mwant_none rfl) 18 (Or.inl rfl) (by kernel_rfl) (fun _ _ => rfl)
                | 4, _, _ => exact mstep_pure rfl (mwant_none rfl) (fun aa ww cc => ⟨.pointer (some ⟨b2, o2 + i, none⟩), by have e0 : aa.tmps.getD 122 undef = .slice (some ⟨b2, o2, none⟩) n2 c2 := cc.slot 2 122 (by kernel_rfl) rfl; have e1 : aa.tmps.getD 123 undef = .int .i64 (i : Int) := cc.slot 3 123 (by kernel_rfl) rfl; have q1 := HI20.out; simp only [execOp, Act.eval, e0, e1]; go_simp, rfl⟩)
                | 5, _, _ => exact mstep_pure rfl (mwant_none rfl) (fun aa ww cc => ⟨.int .u8 (x : Int), by have e0 : aa.tmps.getD 124 undef = .pointer (some ⟨b2, o2 + i, none⟩) := cc.slot 4 124 (by kernel_rfl) rfl; have q1 := MC13.out _ cc.below; simp only [execOp, Act.eval, e0]; go_simp, rfl⟩)
                | 6, _, _ => exact mstep_pure rfl (mwant_none rfl) (fun aa ww cc => ⟨.int .u8 ((x : Int) % 16), by have e0 : aa.tmps.getD 125 undef = .int .u8 (x : Int) := cc.slot 5 125 (by kernel_rfl) rfl; have q1 : (x : Int).tmod 16 = (x : Int) % 16 := Int.tmod_eq_emod_of_nonneg (by omega); simp only [execOp, Act.eval, e0]; go_simp, rfl⟩)
                | 7, _, _ => exact mstep_pure rfl (mwant_none rfl) (fun aa ww cc => ⟨.int .i64 ((x : Int) % 16), by have e0 : aa.tmps.getD 126 undef = .int .u8 ((x : Int) % 16) := cc.slot 6 126 (by kernel_rfl) rfl; have q1 : IntKind.i64.wrap ((x : Int) % 16) = (x : Int) % 16 := Go.IntWalk.i64_in _ (by omega); simp only [execOp, Act.eval, e0]; go_simp, rfl⟩)
                | 8, _, _ => exact mstep_call rfl (mwant_none rfl) _ _ _ rfl (enters_of Tryd.func7 (by kernel_rfl) rfl) (fun aa ww cc => by have e0 : aa.tmps.getD 120 undef = .slice A9 n9 c9 := cc.slot 0 120 (by kernel_rfl) rfl; have e1 : aa.tmps.getD 121 undef = mv m Ay cy := cc.slot 1 121 (by kernel_rfl) rfl; have e2 : aa.tmps.getD 127 undef = .int .i64 ((x : Int) % 16) := cc.slot 7 127 (by kernel_rfl) rfl; simp only [List.map_toArray, List.map_cons, List.map_nil, Act.eval, e0, e1, e2]; exact RC13.out ww cc.below)
                | 9, _, _ => exact mstep_copy rfl (mwant_none rfl) 128 (Or.inl rfl) 8 (by kernel_rfl) rfl rfl
                | 10, _, _ => exact mstep_pure rfl (mwant_none rfl) (fun aa ww cc => by obtain ⟨Aq, cq, e0, hq⟩ := cc.slot 9 119 (by kernel_rfl) rfl; exact ⟨mv m1 Aq cq, by simp only [execOp, Act.eval, e0]; go_simp, ⟨Aq, cq, rfl, hq⟩⟩)
                | 11, _, hn => exact absurd (by decide) hn
                | 12, _, hn => exact absurd (by decide) hn
                | 13, _, _ => exact mstep_allocT _ zMach rfl (mwant_none rfl) rfl BC (by have := HBC.out; simpa using this) rfl
                | 14, _, _ => exact mstep_allocT _ zEv rfl (mwant_none rfl) rfl BC (by have := HBC.out; simpa using this) rfl
                | n + 15, h, _ => exact absurd h (by show ¬ (n + 15 < 15); omega)
              · intro VV w5 hlen hb5 hok
                match VV, hlen with
                | [v0, v1, v2, v3, v4, v5, v6, v7, v8, v9, v10, v11, v12, v13, v14], _ =>
                  obtain rfl : v0 = .slice A9 n9 c9 := hok 0 120 rfl
                  obtain rfl : v1 = mv m Ay cy := hok 1 121 rfl
                  obtain rfl : v2 = .slice (some ⟨b2, o2, none⟩) n2 c2 := hok 2 122 rfl
                  obtain rfl : v3 = .int .i64 (i : Int) := hok 3 123 rfl
                  obtain rfl : v4 = .pointer (some ⟨b2, o2 + i, none⟩) := hok 4 124 rfl
                  obtain rfl : v5 = .int .u8 (x : Int) := hok 5 125 rfl
                  obtain rfl : v6 = .int .u8 ((x : Int) % 16) := hok 6 126 rfl
                  obtain rfl : v7 = .int .i64 ((x : Int) % 16) := hok 7 127 rfl
                  have p8 := hok 8 128 rfl
                  have p9 := hok 9 119 rfl
                  have p10 := hok 10 129 rfl
                  obtain rfl : v11 = evv kk zz := hok 11 130 rfl
                  obtain rfl : v12 = .int .i64 (jj : Int) := hok 12 131 rfl
                  have p13 := hok 13 22 rfl
                  have p14 := hok 14 23 rfl
                  obtain ⟨Ab, cb, rfl, hob⟩ := p10
                  obtain ⟨b22, rfl, hb22, hh22⟩ := p13
                  obtain ⟨b23, rfl, hb23, hh23⟩ := p14
                  have HNB : Hid (Ab.map (·.block) ≠ some b22 ∧ Ab.map (·.block) ≠ some b23) := Lib.hid ⟨ow_apart hob hh22 (by decide), ow_apart hob hh23 (by decide)⟩
                  have HNE12 : Hid (b22 ≠ b23) := Lib.hid (fun e => by
                    subst e
                    rw [hh22] at hh23
                    injection hh23 with h1
                    injection h1 with h2 h3
                    exact absurd h3 (by decide))
                  clear p8 p9 hok hlen MC13 MC8 BK13 RC13
                  simp only [List.zip_cons_cons, List.zip_nil_right, putsL]
                  go_simp
                  refine tailok_storeS (o := _) sMach 22 129 rfl b22 (mcs zM none 0) (mcs m1 Ab cb) (by rfl) (by rfl) ⟨_, hh22⟩ rfl (mcs_len HLM1.out) (mcs_one _ _ _) ?_
                  intro w10 hb10 hg10
                  refine tailok_storeS (o := _) sEv 23 130 rfl b23 (ecs 0 0) (ecs kk zz) (by rfl) (by rfl) ⟨_, (hg10.block b23 (Array.getElem?_eq_some_iff.1 hh23).1 (fun e => HNE12.out (by injection e with e; exact e.symm))).trans hh23⟩ rfl rfl (ecs_one _ _) ?_
                  intro w11 hb11 hg11
                  refine tailok_copy 131 (.inl rfl) (.int .i64 (jj : Int)) (by rfl) ?_
                  have BCE : BC = w8.heap.size := HCE.out
                  have hc1 : Below w8.heap.size w8 w10 := hb5.grown hg10 hb5.size (fun j e => by injection e with e; omega)
                  have hc2 : Below w8.heap.size w8 w11 := hc1.grown hg11 hc1.size (fun j e => by injection e with e; omega)
                  have HP9 := Lib.hid (HP8.out.below hc2)
                  have M19' := Lib.hid (M19.out.below hc2 M19.out.lt)
                  have E20' := Lib.hid (E20.out.below hc2 E20.out.lt)
                  have OA9 : Hid (OW w11 BB Aa ca m1.mem) := Lib.hid (OA8.out.below hc2 (Nat.le_refl _))
                  have M22 := Lib.hid (hb10.grown hg11 (fun e => HNE12.out (by injection e with e; exact e.symm)))
                  have E23 := Lib.hid hb11
                  have OB9 : Hid (OW w11 BC Ab cb m1.mem) := Lib.hid (ow_grown (ow_grown hob hg10 HNB.out.1) hg11 HNB.out.2)
                  have HGE2 : Hid (B16 < b22 ∧ B17 < b22 ∧ B16 < BC ∧ B17 < BC) := Lib.hid (by have := HP8.out.b16.lt; have := HP8.out.b17.lt; omega)
                  clear hc1 hc2 hg10 hg11 hb10 hb11 hob hb5 hb22 hb23 hh22 hh23 HP8 HNE12 HNB BCE HBC M19 E20 OA8
                  unfold TailOK
                  refine (by assumption : ∀ (a : Act) (w : World), Code.wp _ _ _ a w → _) _ _ ?_
                  have HNQ : Hid (∀ (p q : Operand) (ww : World), (do eqGuard .neq 37 p q (.agg #[.int .i64 kk, .int .i64 zz]) (.agg #[.int .i64 kk, .int .i64 zz]); binOp .neq 37 (.agg #[.int .i64 kk, .int .i64 zz]) (.agg #[.int .i64 kk, .int .i64 zz]) : Sem Value).run Tryd.prog ww = .ok (.bool false) ww) := Lib.hid fun p q ww => by go_simp
                  go_wp2_with (first
                    | ((with_reducible show wpList _ _ _ (Oper.mk _ (Op.load 35 (.tmp 19)) _ _ _ _ :: _) _ _); refine wpList_loadSw sMach (by rfl) _ rfl b19 _ rfl M19'.out (mcs_len HLM1.out) ?_)
                    | ((with_reducible show wpList _ _ _ (Oper.mk _ (Op.load 35 (.tmp 22)) _ _ _ _ :: _) _ _); refine wpList_loadSw sMach (by rfl) _ rfl b22 _ rfl M22.out (mcs_len HLM1.out) ?_)
                    | ((with_reducible show wpList _ _ _ (Oper.mk _ (Op.binOp BinOp.neq 37 _ _ _) _ _ _ _ :: _) _ _); refine wpList_binV (by rfl) _ _ _ _ _ rfl (.bool false) (HNQ.out _ _ _) ?_)
                    | ((with_reducible show wpList _ _ _ (Oper.mk _ (Op.load 37 (.tmp 20)) _ _ _ _ :: _) _ _); refine wpList_loadS sEv rfl _ rfl b20 [.int .i64 kk, .int .i64 zz] rfl E20'.out rfl ?_)
                    | ((with_reducible show wpList _ _ _ (Oper.mk _ (Op.load 37 (.tmp 23)) _ _ _ _ :: _) _ _); refine wpList_loadS sEv rfl _ rfl b23 [.int .i64 kk, .int .i64 zz] rfl E23.out rfl ?_))
                  refine (alike_calls w11 Aa Ab ca cb m1 HLM1.out OA9.out.rw OB9.out.rw (by have := HK1.out.mem; omega)).mono ?_
                  rintro e w12 ⟨rfl, hv12⟩
                  have HP12 := Lib.hid (HP9.out.below hv12)
                  have M19b := Lib.hid (M19'.out.below hv12 M19'.out.lt)
                  have OA12 : Hid (OW w12 BB Aa ca m1.mem) := Lib.hid (OA9.out.below hv12 (Nat.le_refl _))
                  have M22b := Lib.hid (M22.out.below hv12 M22.out.lt)
                  have OB12 : Hid (OW w12 BC Ab cb m1.mem) := Lib.hid (OB9.out.below hv12 (Nat.le_refl _))
                  clear hv12 HP9 M19' E20' OA9 M22 E23 OB9 HNQ
                  go_wp2_with (first
                    | ((with_reducible show wpList _ _ _ (Oper.mk _ (Op.load 35 (.tmp 19)) _ _ _ _ :: _) _ _); refine wpList_loadS sMach rfl _ rfl b19 _ rfl M19b.out (mcs_len HLM1.out) ?_)
                    | ((with_reducible show wpList _ _ _ (Oper.mk _ (Op.store 35 _ _) _ _ _ _ :: _) _ _); refine wpList_storeS sMach rfl _ _ rfl B16 (mcs m Ax cx) (mcs m1 Aa ca) rfl rfl HP12.out.b16 (mcs_len HLM.out) (mcs_len HLM1.out) (mcs_one _ _ _) ?_))
                  intro w13 hb13 hg13
                  have C16 := Lib.hid hb13
                  have C17 := Lib.hid (HP12.out.b17.grown hg13 (fun e => HP12.out.ne (by injection e)))
                  have M22c := Lib.hid (M22b.out.grown hg13 (fun e => by injection e with e; have := HGE2.out; omega))
                  have OA13 : Hid (OW w13 BB Aa ca m1.mem) := Lib.hid (ow_grown OA12.out hg13 HNA16.out.1)
                  have HNB16 : Hid (Ab.map (·.block) ≠ some B16) := Lib.hid (ne_of_lt_own OB12.out (.inr (by have := HGE2.out; omega)))
                  have OB13 : Hid (OW w13 BC Ab cb m1.mem) := Lib.hid (ow_grown OB12.out hg13 HNB16.out)
                  have BE13 : Hid (Below w6.heap.size w6 w13) := Lib.hid (HP12.out.bel.grown hg13 HP12.out.bel.size (fun j e => by injection e with e; rw [← e]; exact HP12.out.old.1))
                  have HOL := Lib.hid HP12.out.old
                  have HNE := Lib.hid HP12.out.ne
                  clear hb13 hg13 HP12 M19b OA12 M22b OB12 HNB16
                  go_wp2_with ((with_reducible show wpList _ _ _ (Oper.mk _ (Op.load 35 (.tmp 22)) _ _ _ _ :: _) _ _); refine wpList_loadS sMach rfl _ rfl b22 _ rfl M22c.out (mcs_len HLM1.out) ?_)
                  refine (Save_calls w13 Ab cb m1 HLM1.out OB13.out.rw HK1.out.may).mono ?_
                  rintro e w14 ⟨Es, es, rfl, hes, hv14⟩
                  have HES := Lib.hid hes
                  have D16 := Lib.hid (C16.out.below hv14 C16.out.lt)
                  have D17 := Lib.hid (C17.out.below hv14 C17.out.lt)
                  have OA14 : Hid (OW w14 BB Aa ca m1.mem) := Lib.hid (OA13.out.below hv14 (Nat.le_refl _))
                  have BE14 : Hid (Below w6.heap.size w6 w14) := Lib.hid (BE13.out.trans (hv14.mono BE13.out.size))
                  clear hes hv14 C16 C17 M22c OA13 OB13 BE13
                  go_wp2_with fail
                  refine (Restore_calls w14 Es es m1 HLM1.out HK1.out.may HK1.out.fit.r HK1.out.fit.mem HES.out.rb).mono ?_
                  rintro e w15 ⟨Ac, cc, rfl, hoc, hv15⟩
                  have OC15 := Lib.hid hoc
                  have HW14 : Hid (B16 < w14.heap.size ∧ B17 < w14.heap.size) := Lib.hid ⟨D16.out.lt, D17.out.lt⟩
                  have E16 := Lib.hid (D16.out.below hv15 D16.out.lt)
                  have E17 := Lib.hid (D17.out.below hv15 D17.out.lt)
                  have OA15 : Hid (OW w15 BB Aa ca m1.mem) := Lib.hid (OA14.out.below hv15 (Nat.le_refl _))
                  have BE15 : Hid (Below w6.heap.size w6 w15) := Lib.hid (BE14.out.trans (hv15.mono BE14.out.size))
                  clear hoc hv15 HES D16 D17 OA14 BE14
                  go_wp2_with ((with_reducible show wpList _ _ _ (Oper.mk _ (Op.alloc 35) _ _ _ _ :: _) _ _); refine wpList_allocS _ zMach rfl rfl ?_)
                  intro w16 hb16 hg16 hs16
                  obtain ⟨B25, hB25⟩ : ∃ B, B = w15.heap.size := ⟨_, rfl⟩
                  rw [← hB25] at hb16 hs16 ⊢
                  have HB25 := Lib.hid hB25
                  have F25 := Lib.hid hb16
                  have HG16 := Lib.hid (gbelow hg16)
                  clear hb16 hg16 hs16 hB25
                  go_wp2_with ((with_reducible show wpList _ _ _ (Oper.mk _ (Op.store 35 _ _) _ _ _ _ :: _) _ _); refine wpList_storeS sMach rfl _ _ rfl B25 (mcs zM none 0) (mcs m1 Ac cc) rfl rfl F25.out rfl (mcs_len HLM1.out) (mcs_one _ _ _) ?_)
                  intro w17 hb17 hg17
                  have HG17 : Hid (Below w15.heap.size w15 w17) := Lib.hid (HG16.out.grown hg17 HG16.out.size (fun j e => by injection e with e; have := HB25.out; omega))
                  have G25 := Lib.hid hb17
                  have G16 := Lib.hid (E16.out.below HG17.out E16.out.lt)
                  have G17 := Lib.hid (E17.out.below HG17.out E17.out.lt)
                  have OA17 : Hid (OW w17 BB Aa ca m1.mem) := Lib.hid (OA15.out.below HG17.out (Nat.le_refl _))
                  have OC17 := Lib.hid (OC15.out.below HG17.out (Nat.le_refl _))
                  have BE17 : Hid (Below w6.heap.size w6 w17) := Lib.hid (BE15.out.trans (HG17.out.mono BE15.out.size))
                  clear hb17 hg17 HG16 F25 E16 E17 OA15 OC15 BE15 HG17
                  go_wp2_with (first
                    | ((with_reducible show wpList _ _ _ (Oper.mk _ (Op.load 35 (.tmp 25)) _ _ _ _ :: _) _ _); refine wpList_loadS sMach rfl _ rfl B25 _ rfl G25.out (mcs_len HLM1.out) ?_)
                    | ((with_reducible show wpList _ _ _ (Oper.mk _ (Op.store 35 _ _) _ _ _ _ :: _) _ _); refine wpList_storeS sMach rfl _ _ rfl B17 (mcs m Ay cy) (mcs m1 Ac cc) rfl rfl G17.out (mcs_len HLM.out) (mcs_len HLM1.out) (mcs_one _ _ _) ?_))
                  intro w18 hb18 hg18
                  have HNC : Hid (Ac.map (·.block) ≠ some B16 ∧ Ac.map (·.block) ≠ some B17) := Lib.hid ⟨ne_of_lt_own OC17.out (.inr HW14.out.1), ne_of_lt_own OC17.out (.inr HW14.out.2)⟩
                  have HF : Hid (MLRel w6 I B16 B17 (.int .i64 ((i + 1 : Nat) : Int)) w18) := Lib.hid ⟨i + 1, m1, Aa, ca, Ac, cc, by omega, rfl,
                    ⟨G16.out.grown hg18 (fun e => HNE.out (by injection e with e; exact e.symm)), hb18, (ow_grown OA17.out hg18 HNA16.out.2).down (Nat.zero_le _), (ow_grown OC17.out hg18 HNC.out.2).down (Nat.zero_le _), HNA16.out, HNC.out, HNE.out, HOL.out, HK1.out, BE17.out.grown hg18 BE17.out.size (fun j e => by injection e with e; rw [← e]; exact HOL.out.2)⟩⟩
                  clear hb18 hg18 HNC G16 G17 G25 OA17 OC17 BE17 HNE HOL HW14 HB25 HK1 HLM HLM1 HX HGE HGE2 HNA16 HBE HCE HI20 HX256
                  go_wp2
                  go_roundw
                  case rel => first | exact HF.out | (have e5 : ((i : Int) + 1) = ((i + 1 : Nat) : Int) := by omega
                                                      rw [e5]; exact HF.out)
                  case measure => simp [intOf]; omega
        · have HLM : Hid (m.r.length = 8) := Lib.hid HP.out.kept.len
          have BK : Hid (∀ w', Below wr.drew.heap.size wr.drew w' → Blk w' B16 (mcs m Ax cx)) := Lib.hid fun w' hb => HP.out.b16.drew.below hb HP.out.b16.lt
          have BK2 : Hid (∀ w', Below wr.drew.heap.size wr.drew w' → Blk w' B17 (mcs m Ay cy)) := Lib.hid fun w' hb => HP.out.b17.drew.below hb HP.out.b17.lt
          have AC : Hid (∀ w', Below wr.drew.heap.size wr.drew w' → Calls Tryd.prog 10 #[mv m Ax cx, mv m Ay cy] w' fun e w'' => ∃ v, e = .returned v ∧ (VD.is (.bool true)).ok v w'' ∧ Below w'.heap.size w' w'') := Lib.hid fun w' hb => by
            refine (alike_calls w' Ax Ay cx cy m HLM.out ((HP.out.ox.drew.below hb (Nat.le_refl _)).rw) ((HP.out.oy.drew.below hb (Nat.le_refl _)).rw) (by have := HP.out.kept.mem; omega)).mono ?_
            rintro e w'' ⟨rfl, hb2⟩
            exact ⟨_, rfl, rfl, hb2⟩
          have EC : Hid (∀ w', Below wr.drew.heap.size wr.drew w' → Calls Tryd.prog 13 #[.slice A7 n9 c7] w' fun e w'' => ∃ v, e = .returned v ∧ (byt L).ok v w'' ∧ Below w'.heap.size w' w'') := Lib.hid fun w' hb => by
            have hw6 : Below w6.heap.size w6 w' := HP.out.bel.drew.trans (hb.mono HP.out.bel.size)
            have := Encode_calls w' A7 c7 I ((HR6.out.2.below hw6).mono hw6.size) (by rw [← HN9.out]; have := HN9'.out; omega)
            rw [← HN9.out, HEN.out] at this
            refine this.mono ?_
            rintro e w'' ⟨Aq, cq, rfl, hr, hb2⟩
            exact ⟨_, rfl, ⟨Aq, cq, rfl, hr⟩, hb2⟩
          have F0 : Hid (∀ w', Below wr.drew.heap.size wr.drew w' → RBy L (.slice A n c) w') := Lib.hid fun w' hb => by
            have hw6 : Below w6.heap.size w6 w' := HP.out.bel.drew.trans (hb.mono HP.out.bel.size)
            have hww : Below w.heap.size w w' := HB6.out.trans (hw6.mono HB6.out.size)
            exact ⟨A, c, by rw [HN.out], (HRB.out.below hww).mono hww.size⟩
          have HWR : Hid (Below w.heap.size w wr) := Lib.hid (HB6.out.trans (HP.out.bel.mono HB6.out.size))
          clear HP
          have hcase : (¬ (i : Int) < n2) ∨ ((i : Int) < n2 ∧ ¬ (i : Int) < 20) := by omega
          clear hlt
          rcases hcase with hq1 | ⟨hq1, hq2⟩
          all_goals
            go_wp2_with fail
            refine region_monos (fun ix9 => ([.is (mv m Ax cx), .is (mv m Ay cy), .is (.bool true), .is (.bool true), .is (.slice A7 n9 c7), (byt L), .is (.string (strB L)), (byt L), .is (.string (strB L)), .is (.bool true), .is (.bool true), .is (.bool true)] : List VD).getD ix9 (.is undef)) [some 156, some 157, some 158, some 159, some 160, some 161, some 162, some 163, some 164, some 165, some 166, some 6] (by kernel_rfl) (by kernel_rfl) (by kernel_rfl) rfl (fun ii hii => ?_) ?_
            · match ii, hii with
              | 0, _ => exact mstep_loadS sMach rfl (mwant_none rfl) 16 rfl B16 (mcs m Ax cx) (mcs_len HLM.out) (fun aa ww cc => (cc.orig 16 (by kernel_rfl)).trans rfl) (fun ww hb => BK.out ww hb) rfl
              | 1, _ => exact mstep_loadS sMach rfl (mwant_none rfl) 17 rfl B17 (mcs m Ay cy) (mcs_len HLM.out) (fun aa ww cc => (cc.orig 17 (by kernel_rfl)).trans rfl) (fun ww hb => BK2.out ww hb) rfl
              | 2, _ => exact mstep_call rfl (mwant_none rfl) _ _ _ rfl (enters_of Tryd.func10 (by kernel_rfl) rfl) (fun aa ww cc => by have e0 : aa.tmps.getD 156 undef = mv m Ax cx := cc.slot 0 156 (by kernel_rfl) rfl; have e1 : aa.tmps.getD 157 undef = mv m Ay cy := cc.slot 1 157 (by kernel_rfl) rfl; simp only [List.map_toArray, List.map_cons, List.map_nil, Act.eval, e0, e1]; exact AC.out ww cc.below)
              | 3, _ => exact mstep_copy rfl (mwant_none rfl) 158 (Or.inl rfl) 2 (by kernel_rfl) rfl rfl
              | 4, _ => exact mstep_first rfl (mwant 3 true 159 rfl (by kernel_rfl) rfl rfl (by kernel_rfl)) 7 (Or.inl rfl) (by kernel_rfl) (fun _ _ => rfl)
              | 5, _ => exact mstep_call rfl (mwant 3 true 159 rfl (by kernel_rfl) rfl rfl (by kernel_rfl)) _ _ _ rfl (enters_of Tryd.func13 (by kernel_rfl) rfl) (fun aa ww cc => by have e0 : aa.tmps.getD 160 undef = .slice A7 n9 c7 := cc.slot 4 160 (by kernel_rfl) rfl; simp only [List.map_toArray, List.map_cons, List.map_nil, Act.eval, e0]; exact EC.out ww cc.below)
              | 6, _ => exact mstep_conv rfl (mwant 3 true 159 rfl (by kernel_rfl) rfl rfl (by kernel_rfl)) 161 rfl 5 (by kernel_rfl) rfl _ rfl rfl
              | 7, _ => exact mstep_first rfl (mwant 3 true 159 rfl (by kernel_rfl) rfl rfl (by kernel_rfl)) 0 (Or.inl rfl) (by kernel_rfl) (fun ww hb => F0.out ww hb)
              | 8, _ => exact mstep_conv rfl (mwant 3 true 159 rfl (by kernel_rfl) rfl rfl (by kernel_rfl)) 163 rfl 7 (by kernel_rfl) rfl _ rfl rfl
              | 9, _ => exact mstep_pure rfl (mwant 3 true 159 rfl (by kernel_rfl) rfl rfl (by kernel_rfl)) (fun aa ww cc => ⟨.bool true, by have e0 : aa.tmps.getD 162 undef = .string (strB L) := cc.slot 6 162 (by kernel_rfl) rfl; have e1 : aa.tmps.getD 164 undef = .string (strB L) := cc.slot 8 164 (by kernel_rfl) rfl; simp only [execOp, Act.eval, e0, e1]; go_simp, rfl⟩)
              | 10, _ => exact mstep_pure rfl (mwant_none rfl) (fun aa ww cc => ⟨.bool true, by have e0 : aa.tmps.getD 159 undef = .bool true := cc.slot 3 159 (by kernel_rfl) rfl; have e1 : aa.tmps.getD 165 undef = .bool true := cc.slot 9 165 (by kernel_rfl) rfl; simp only [execOp, Act.eval, e0, e1]; go_simp, rfl⟩)
              | 11, _ => exact mstep_copy rfl (mwant_none rfl) 166 (Or.inr rfl) 10 (by kernel_rfl) rfl rfl
              | n + 12, h => exact absurd h (by show ¬ (n + 12 < 12); omega)
            · intro VV w5 hlen hb5 hok
              match VV, hlen with
              | [v0, v1, v2, v3, v4, v5, v6, v7, v8, v9, v10, v11], _ =>
                obtain rfl : v0 = mv m Ax cx := hok 0 156 rfl
                obtain rfl : v1 = mv m Ay cy := hok 1 157 rfl
                obtain rfl : v2 = .bool true := hok 2 158 rfl
                obtain rfl : v3 = .bool true := hok 3 159 rfl
                obtain rfl : v4 = .slice A7 n9 c7 := hok 4 160 rfl
                have p5 := hok 5 161 rfl
                obtain rfl : v6 = .string (strB L) := hok 6 162 rfl
                have p7 := hok 7 163 rfl
                obtain rfl : v8 = .string (strB L) := hok 8 164 rfl
                obtain rfl : v9 = .bool true := hok 9 165 rfl
                obtain rfl : v10 = .bool true := hok 10 166 rfl
                obtain rfl : v11 = .bool true := hok 11 6 rfl
                have HVL : Hid (Below w.heap.size w w5) := Lib.hid (HWR.out.trans (hb5.mono HWR.out.size))
                clear hok hb5 hlen BK BK2 AC EC F0 HWR
                refine (by assumption : ∀ (a : Act) (w : World), Code.wp _ _ _ a w → _) _ _ ?_
                simp only [List.zip_cons_cons, List.zip_nil_right, putsL]
                go_simp
                go_wp2
                go_ret
                exact ⟨rfl, HVL.out⟩
    · have eqb : ((n : Int) % 4 != 0) = false := by have := HN.out; simp; omega
      have hcl := (check_lt hck).2
      have e1 : k1 = cc := by rw [HK1.out]; unfold chk2; rw [hck]; rfl
      have e2 : k2 = k := by rw [HK2.out]; unfold chk2; rw [hck]; rfl
      subst e1
      subst e2
      have hk0 : ((k1 : Int) != 0) = true := by simp; omega
      have HX1 := Lib.hid hx1
      have HX2 := Lib.hid hx2
      clear h1 hx1 hx2 HK1 HK2 hck hcl
      unfold flt
      go_wp2_with fail
      refine (path2_calls f3 g2 g _ _ _ HD4.out HX2.out HX1.out).mono ?_
      rintro e w5 ⟨A5, c5, rfl, hr5, hb5⟩
      have HB5 : Hid (Below w.heap.size w w5) := Lib.hid (HB4.out.trans (hb5.mono HB4.out.size))
      obtain ⟨b5, o5, hA5, _, hc5⟩ := hr5.get (k := 1) (by simp)
      subst hA5
      have x1 : w5.cell? ⟨b5, o5 + 1, none⟩ = some (.int .i64 k2) := hc5
      clear x2 x10 HM hr5 hc5 hb5 HB4 HX1 HX2 HR HD4
      go_wp2
      go_ret
      exact ⟨rfl, HB5.out⟩
end Go.Proofs.YtlecpekgnlaneaaDoor
