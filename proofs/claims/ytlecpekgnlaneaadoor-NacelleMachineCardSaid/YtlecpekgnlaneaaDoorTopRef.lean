/- The document's answer for layer 7: Formed, Number, Check. -/
import Derived.Test.YtlecpekgnlaneaaDoorPvmRest
import Derived.Test.YtlecpekgnlaneaaDoorPvmFits
import Derived.RegionTactic
import Derived.Deep.QuietTactic
import Derived.BigQuiet
namespace Go.Proofs.YtlecpekgnlaneaaDoor
open Go.RowKit Nac Nac.Pvm
theorem rnumber_calls (w : World) (i : Ins) (h : i.fits) : Calls Tryd.prog 18 #[.agg #[.int .u8 i.op, .int .u8 i.a, .int .u8 i.b, .int .u8 i.c]] w (RetI w (num i)) := by
  obtain ⟨op, a, b, c⟩ := i
  obtain ⟨h0, h1, h2, h3⟩ := h
  simp only at h0 h1 h2 h3 ⊢
  by_cases h : op = 1
  · subst h
    by_cases hn : 32768 ≤ b + 256 * c
    · have hn' : 32768 ≤ (b : Int) + 256 * (c : Int) := by omega
      go_enter Tryd.func18, Tryd.ntmps18
      go_wp2
      go_ret
      refine retI ?_ ((Below.refl _ _).alloc (Nat.le_refl _) _)
      simp [num, hn]
    · have hn' : ¬ 32768 ≤ (b : Int) + 256 * (c : Int) := by omega
      go_enter Tryd.func18, Tryd.ntmps18
      go_wp2
      go_ret
      refine retI ?_ ((Below.refl _ _).alloc (Nat.le_refl _) _)
      simp [num, hn]
  · have hb : ((op : Int) == 1) = false := by simp; omega
    go_enter Tryd.func18, Tryd.ntmps18
    go_wp2
    go_ret
    refine retI ?_ ((Below.refl _ _).alloc (Nat.le_refl _) _)
    simp [num, h]
set_option maxRecDepth 100000 in
set_option maxHeartbeats 8000000 in
theorem formed_calls (w : World) (i : Ins) (h : i.fits) : Calls Tryd.prog 17 #[.agg #[.int .u8 i.op, .int .u8 i.a, .int .u8 i.b, .int .u8 i.c]] w (RetB w (wf i)) := by
  obtain ⟨op, a, b, c⟩ := i
  obtain ⟨h0, h1, h2, h3⟩ := h
  simp only at h0 h1 h2 h3 ⊢
  rcases (by omega : op = 0 ∨ op = 1 ∨ op = 2 ∨ op = 3 ∨ op = 4 ∨ op = 5 ∨ op = 6 ∨ op = 7 ∨ op = 8 ∨ op = 9 ∨ op = 10 ∨ op = 11 ∨ op = 12 ∨ op = 13 ∨ op = 14 ∨ op = 15 ∨ op = 16 ∨ op = 17 ∨ 17 < op) with rfl | rfl | rfl | rfl | rfl | rfl | rfl | rfl | rfl | rfl | rfl | rfl | rfl | rfl | rfl | rfl | rfl | rfl | h4
  all_goals
    go_enter Tryd.func17, Tryd.ntmps17
    go_wp2
    go_quiet (fail)
    go_wp2
    all_goals
      go_ret
      refine retB ?_ (below_drewN' ((Below.refl _ _).alloc (Nat.le_refl _) _) _)
      first
        | (unfold wf; simp_all; done)
        | (rw [Bool.eq_iff_iff]; unfold wf; simp_all; omega)
        | (rw [wf_big _ h4]; done)
        | (by_cases ha : a = 0 <;> simp [wf, ha]; done)
        | (by_cases hc : c = 0 <;> by_cases hb : b = 0 <;> by_cases ha : a < 16 <;> simp_all [wf]; done)
        | (by_cases hc : c = 0 <;> by_cases hb : b = 0 <;> by_cases ha : a < 16 <;> simp_all [wf] <;> omega)
end Go.Proofs.YtlecpekgnlaneaaDoor
