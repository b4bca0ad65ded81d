/- A region that draws its order, of operations that only let memory grow (XMono): what it leaves, slot by slot. Over whatever program. -/
import Derived.Test.YtgeffkdobnipgaaVal
namespace Nac
open Go Go.RowKit
section
variable {P : Program} {ops : Array Oper} {Q : Exit → Act → World → Prop} {D : Nat → VD} {a0 : Act} {W0 : World}
theorem MCtx.slot {i : Nat} {a : Act} {w : World} (c : MCtx ops D a0 W0 i a w) (k x : Nat) (hk : (preds ops 3 i).contains k = true) (hx : dstOf ops k = some x) : (D k).ok (a.tmps.getD x undef) w :=
  c.pred k x (by simpa using hk) hx
/-- the slots' values, as the region leaves them -/
def slotsOf (t : Array Value) (ds : List (Option Tmp)) : List Value := ds.map fun d => match d with | none => undef | some d => t.getD d undef
theorem region_monos {id : Nat} {a0 : Act} {w0 : World} (D : Nat → VD) (ds : List (Option Tmp)) (hm : P.follows .mixedOrders = true) (hd : distinctB ops a0.tmps.size = true) (hbk : backB ops = true)
    (hds : ops.toList.map (·.dst) = ds)
    (step : ∀ i, i < ops.size → MStep P ops Q D a0 w0.drew i)
    (fin : ∀ V w, V.length = ds.length → Below w0.heap.size w0 w → (∀ i d, ds[i]? = some (some d) → (D i).ok (V.getD i undef) w) → Q .normal (putsL (ds.zip V) a0) w) :
    (Code.region id ops true).wp P Q a0 w0 := by
  refine region_mono D hm hd hbk step fun a w hb hde hts hs hr => ?_
  have hdi : ∀ i d, ds[i]? = some (some d) → dstOf ops i = some d := by
    intro i d h
    rw [← hds, List.getElem?_map, Array.getElem?_toList] at h
    unfold dstOf
    cases ho : ops[i]? with
    | none => rw [ho] at h; cases h
    | some o => rw [ho] at h; simpa using h
  have hdi' : ∀ i d, dstOf ops i = some d → ds[i]? = some (some d) := by
    intro i d h
    rw [← hds, List.getElem?_map, Array.getElem?_toList]
    unfold dstOf at h
    cases ho : ops[i]? with
    | none => rw [ho] at h; cases h
    | some o => rw [ho] at h; simpa using h
  have e := putsL_eq (a0 := a0) (a := a) (l := ds.zip (slotsOf a.tmps ds)) hde hts ?_ ?_
  · rw [e]
    refine fin _ w (by simp [slotsOf]) hb fun i d h => ?_
    have := hs i d (hdi i d h)
    have e2 : (slotsOf a.tmps ds).getD i undef = a.tmps.getD d undef := by
      unfold slotsOf
      rw [List.getD_eq_getElem?_getD, List.getElem?_map, h]
      rfl
    rw [e2]
    exact this
  · intro x hx t ht
    obtain ⟨i, hi⟩ := List.mem_iff_getElem?.1 hx
    obtain ⟨h1, h2⟩ := List.getElem?_zip_eq_some.1 hi
    unfold slotsOf at h2
    rw [List.getElem?_map, h1] at h2
    obtain ⟨d, v⟩ := x
    simp only at ht h1 h2
    subst ht
    simpa using h2
  · intro t ht
    refine hr t fun i hdt => ?_
    have h1 := hdi' i t hdt
    have h3 : (slotsOf a.tmps ds)[i]? = some (a.tmps.getD t undef) := by
      unfold slotsOf
      rw [List.getElem?_map, h1]
      rfl
    exact ht (some t, a.tmps.getD t undef) (List.mem_iff_getElem?.2 ⟨i, List.getElem?_zip_eq_some.2 ⟨h1, h3⟩⟩) rfl
end
end Nac
