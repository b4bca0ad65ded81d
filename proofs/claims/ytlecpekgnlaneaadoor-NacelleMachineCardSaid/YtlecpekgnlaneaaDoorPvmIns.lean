/- code: wellFormed, leads, Number. -/
import Derived.Test.YtlecpekgnlaneaaDoorPvmPlain
import Derived.Test.YtlecpekgnlaneaaDoorBoxF
import Derived.Test.YtlecpekgnlaneaaDoorBlk
namespace Go.Proofs.YtlecpekgnlaneaaDoor
open Go.RowKit Nac Nac.Pvm
def icells (i : Ins) : List Value := [.int .u8 i.op, .int .u8 i.a, .int .u8 i.b, .int .u8 i.c]
def RetB (w : World) (b : Bool) (e : Ending) (w' : World) : Prop := e = .returned (.bool b) ∧ Below w.heap.size w w'
theorem retB {w w' : World} {b b' : Bool} (h : b' = b) (hb : Below w.heap.size w w') : RetB w b (.returned (.bool b')) w' := by subst h; exact ⟨rfl, hb⟩
theorem wf_big (i : Ins) (h : 17 < i.op) : wf i = false := by
  unfold wf
  rw [if_neg (by omega), if_neg (by omega), if_neg (by omega), if_neg (by omega), if_neg (by omega), if_neg (by omega), if_neg (by omega)]
set_option maxHeartbeats 4000000 in
theorem wf_calls (w : World) (i : Ins) (h : i.fits) : Calls Tryd.prog 28 #[.agg #[.int .u8 i.op, .int .u8 i.a, .int .u8 i.b, .int .u8 i.c]] w (RetB w (wf i)) := by
  obtain ⟨op, a, b, c⟩ := i
  obtain ⟨h0, h1, h2, h3⟩ := h
  simp only at h0 h1 h2 h3 ⊢
  have HB : Hid (Below w.heap.size w (w.alloc (.cells #[.int .u8 op, .int .u8 a, .int .u8 b, .int .u8 c] 41))) := Lib.hid ((Below.refl _ _).alloc (Nat.le_refl _) _)
  rcases (by omega : op = 0 ∨ op = 1 ∨ op = 2 ∨ op = 3 ∨ op = 4 ∨ op = 5 ∨ op = 6 ∨ op = 7 ∨ op = 8 ∨ op = 9 ∨ op = 10 ∨ op = 11 ∨ op = 12 ∨ op = 13 ∨ op = 14 ∨ op = 15 ∨ op = 16 ∨ op = 17 ∨ 17 < op) with rfl | rfl | rfl | rfl | rfl | rfl | rfl | rfl | rfl | rfl | rfl | rfl | rfl | rfl | rfl | rfl | rfl | rfl | h4
  all_goals
    go_enter Tryd.func28, Tryd.ntmps28
    go_wp2
    all_goals
      go_ret
      refine retB ?_ ((Below.refl _ _).alloc (Nat.le_refl _) _)
      clear HB
      first
        | (unfold wf; simp_all; done)
        | (rw [Bool.eq_iff_iff]; unfold wf; simp_all; omega)
        | (rw [wf_big _ h4]; done)
        | (by_cases ha : a = 0 <;> simp [wf, ha]; done)
        | (by_cases hc : c = 0 <;> by_cases hb : b = 0 <;> by_cases ha : a < 16 <;> simp_all [wf]; done)
        | (by_cases hc : c = 0 <;> by_cases hb : b = 0 <;> by_cases ha : a < 16 <;> simp_all [wf] <;> omega)
theorem leads_calls (w : World) (i : Ins) : Calls Tryd.prog 29 #[.agg #[.int .u8 i.op, .int .u8 i.a, .int .u8 i.b, .int .u8 i.c]] w (RetB w (leads i)) := by
  obtain ⟨op, a, b, c⟩ := i
  by_cases h : op = 15
  · subst h
    go_enter Tryd.func29, Tryd.ntmps29
    go_wp2
    go_ret
    exact retB rfl ((Below.refl _ _).alloc (Nat.le_refl _) _)
  · have hb : ((op : Int) == 15) = false := by simp; omega
    go_enter Tryd.func29, Tryd.ntmps29
    go_wp2
    go_ret
    refine retB ?_ ((Below.refl _ _).alloc (Nat.le_refl _) _)
    unfold leads
    rw [Bool.eq_iff_iff]
    simp
    omega
def RetI (w : World) (z : Int) (e : Ending) (w' : World) : Prop := e = .returned (.int .i64 z) ∧ Below w.heap.size w w'
theorem retI {w w' : World} {z z' : Int} (h : z' = z) (hb : Below w.heap.size w w') : RetI w z (.returned (.int .i64 z')) w' := by subst h; exact ⟨rfl, hb⟩
theorem number_calls' (w : World) (i : Ins) (h : i.fits) : Calls Tryd.prog 30 #[.agg #[.int .u8 i.op, .int .u8 i.a, .int .u8 i.b, .int .u8 i.c]] w (RetI w (num i)) := by
  obtain ⟨op, a, b, c⟩ := i
  obtain ⟨h0, h1, h2, h3⟩ := h
  simp only at h0 h1 h2 h3 ⊢
  by_cases h : op = 1
  · subst h
    by_cases hn : 32768 ≤ b + 256 * c
    · have hn' : 32768 ≤ (b : Int) + 256 * (c : Int) := by omega
      go_enter Tryd.func30, Tryd.ntmps30
      go_wp2
      go_ret
      refine retI ?_ ((Below.refl _ _).alloc (Nat.le_refl _) _)
      simp [num, hn]
    · have hn' : ¬ 32768 ≤ (b : Int) + 256 * (c : Int) := by omega
      go_enter Tryd.func30, Tryd.ntmps30
      go_wp2
      go_ret
      refine retI ?_ ((Below.refl _ _).alloc (Nat.le_refl _) _)
      simp [num, hn]
  · have hb : ((op : Int) == 1) = false := by simp; omega
    go_enter Tryd.func30, Tryd.ntmps30
    go_wp2
    go_ret
    refine retI ?_ ((Below.refl _ _).alloc (Nat.le_refl _) _)
    simp [num, h]
end Go.Proofs.YtlecpekgnlaneaaDoor
