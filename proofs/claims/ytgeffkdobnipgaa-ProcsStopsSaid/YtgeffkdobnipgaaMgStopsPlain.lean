/- Who is stopped. No program in sight. -/
import Derived.Test.YtgeffkdobnipgaaMgSleepPlain
namespace Nac.Procs
variable {P : PSet} {p : Nat}
theorem dorm_proc (hp : p < P.ps.length) : ((dorm P p).proc p).st = 0 := by
  unfold dorm
  rw [proc_setP (by rw [leave_n]; exact hp)]
theorem dorm_proc_ne {q : Nat} (h : q ≠ p) : (dorm P p).proc q = P.proc q := by
  unfold dorm
  rw [proc_setP_ne h, leave_proc_ne h]
theorem dorm_n (p : Nat) : (dorm P p).ps.length = P.ps.length := by unfold dorm; rw [ps_setP, leave_n]
theorem dorm_m (p : Nat) : (dorm P p).rs.length = P.rs.length := by unfold dorm PSet.setP; exact leave_m p
theorem stopS_off {p : Int} (h : p < 0 ∨ (P.ps.length : Int) ≤ p) : stopS P p = (4, P) := by
  unfold stopS isP
  rw [if_neg (by simp; omega)]
theorem stopS_dead (hp : p < P.ps.length) (h : (P.proc p).st = 0) : stopS P p = (6, P) := by
  unfold stopS isP
  simp [hp, h]
theorem stopS_on (hp : p < P.ps.length) (h : (P.proc p).st ≠ 0) : stopS P p = (0, dorm P p) := by
  unfold stopS isP
  simp [hp, h]
theorem startS_dead (hp : p < P.ps.length) (h : (P.proc p).st = 0) : startS P p = (0, wake P p) := by
  unfold startS isP
  simp [hp, h]
theorem startS_on (hp : p < P.ps.length) (h : (P.proc p).st ≠ 0) : startS P p = (1, P) := by
  unfold startS isP
  simp [hp, h]
theorem wake_proc (hp : p < P.ps.length) : ((wake P p).proc p).st = 1 := by
  unfold wake
  show ((P.setP p _).proc p).st = 1
  rw [proc_setP hp]
theorem wake_n (p : Nat) : (wake P p).ps.length = P.ps.length := by unfold wake; exact ps_setP p _
theorem dorm_out (h : Inv (dorm P p)) (hp : p < P.ps.length) (r : Nat) (hr : r < (dorm P p).rs.length) : p ∉ ((dorm P p).rsc r).q := fun hm => by
  have h1 := ((h.qin r hr p).1 hm).2.1
  rw [dorm_proc hp] at h1
  omega
end Nac.Procs
