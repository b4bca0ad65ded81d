/- Who sleeps: what becomes of it, tick by tick. No program in sight. -/
import Derived.Test.YtgeffkdobnipgaaMgLawHighest
namespace Nac.Procs
/-- p sleeps, l ticks are left -/
structure Slp (P : PSet) (p : Nat) (l : Int) : Prop where
  inv : Inv P
  lt : p < P.ps.length
  st : (P.proc p).st = 2
  res : (P.proc p).res = -1
  left : (P.proc p).left = l
variable {P : PSet} {p : Nat} {l : Int}
theorem slp_park (h : Inv P) (hp : p < P.ps.length) (t : Int) (h1 : 1 ≤ t) (h2 : t ≤ 1048576) : Slp (park P p (-1) t 0) p t := by
  have hn : (leave P p).ps.length = P.ps.length := leave_n p
  have e : (park P p (-1) t 0).proc p = { (leave P p).proc p with st := 2, res := -1, left := t, item := 0 } := by
    rw [park_time, proc_setP (by rw [hn]; exact hp)]
  refine ⟨park_time_inv h hp t 0 ⟨h1, h2⟩, by rw [park_time, ps_setP, hn]; exact hp, by rw [e], by rw [e], by rw [e]⟩
theorem tick1_other {q : Nat} (h : p ≠ q) : (tick1 P q).proc p = P.proc p := by
  unfold tick1
  split
  · split
    · exact proc_setP_ne h _
    · rw [release_proc_ne h, proc_setP_ne h]
  · rfl
theorem tickTo_before : ∀ k, k ≤ p → (tickTo P k).proc p = P.proc p
  | 0, _ => rfl
  | k + 1, hk => by rw [tickTo_succ, tick1_other (by omega), tickTo_before k (by omega)]
theorem tickTo_after (P : PSet) (p : Nat) : ∀ j, (tickTo P (p + 1 + j)).proc p = (tickTo P (p + 1)).proc p
  | 0 => rfl
  | j + 1 => by
    rw [show p + 1 + (j + 1) = (p + 1 + j) + 1 from rfl, tickTo_succ, tick1_other (by omega), tickTo_after P p j]
theorem tickS_proc (h : Inv P) (hp : p < P.ps.length) : (tickS P).proc p = (tick1 (tickTo P p) p).proc p := by
  unfold tickS
  obtain ⟨j, hj⟩ : ∃ j, P.ps.length = p + 1 + j := ⟨P.ps.length - (p + 1), by omega⟩
  rw [hj, tickTo_after, tickTo_succ]
theorem tick_slp (h : Slp P p l) (hl : 2 ≤ l) : Slp (tickS P) p (l - 1) := by
  have e0 := tickTo_before (P := P) p (Nat.le_refl p)
  have hn := (tickTo_inv h.inv p (by have := h.lt; omega)).2
  have e : (tickS P).proc p = { P.proc p with left := l - 1 } := by
    rw [tickS_proc h.inv h.lt]
    unfold tick1
    rw [e0, if_pos h.st, if_pos (by rw [h.left]; omega), proc_setP (by rw [hn]; exact h.lt), h.left]
  refine ⟨tick_inv h.inv, by have := (tickTo_inv h.inv P.ps.length (Nat.le_refl _)).2; unfold tickS; rw [this]; exact h.lt, by rw [e]; exact h.st, by rw [e]; exact h.res, by rw [e]⟩
theorem tick_up (h : Slp P p 1) : ((tickS P).proc p).st = 1 ∧ ((tickS P).proc p).last = ok := by
  have e0 := tickTo_before (P := P) p (Nat.le_refl p)
  have hn := (tickTo_inv h.inv p (by have := h.lt; omega)).2
  have e : (tickS P).proc p = (release ((tickTo P p).setP p { P.proc p with left := (P.proc p).left - 1 }) p ok).proc p := by
    rw [tickS_proc h.inv h.lt]
    unfold tick1
    rw [e0, if_pos h.st, if_neg (by rw [h.left]; omega), if_pos h.res]
  rw [e, release_proc (by rw [ps_setP, hn]; exact h.lt)]
  exact ⟨rfl, rfl⟩
theorem tickS_n (h : Inv P) : (tickS P).ps.length = P.ps.length := (tickTo_inv h P.ps.length (Nat.le_refl _)).2
theorem sleepS_some {P : PSet} {p : Nat} (hrun : runI P = p) {t : Int} (h1 : 1 ≤ t) (h2 : t ≤ 1048576) : sleepS P t = (waits, park P p (-1) t 0) := by
  unfold sleepS
  have hb : badT t = false := by unfold badT; simp; omega
  rw [hrun, if_neg (by omega), hb]
  simp
  omega
theorem sleepS_none {P : PSet} (hrun : runI P = -1) (t : Int) : sleepS P t = (errO 6, P) := by
  unfold sleepS
  rw [hrun, if_pos (by decide)]
end Nac.Procs
