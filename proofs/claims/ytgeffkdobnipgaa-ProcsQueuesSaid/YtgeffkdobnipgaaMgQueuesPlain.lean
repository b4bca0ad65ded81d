/- Who stands in rows, and how often. No program in sight. -/
import Derived.Test.YtgeffkdobnipgaaMgStopsPlain
namespace Nac.Procs
variable {P : PSet}
/-- how often x stands in the first r rows -/
def cqN (P : PSet) (r x : Nat) : Nat := ((List.range r).map fun k => (P.rsc k).q.count x).sum
theorem cqN_succ (P : PSet) (r x : Nat) : cqN P (r + 1) x = cqN P r x + (P.rsc r).q.count x := by
  unfold cqN
  rw [List.range_succ, List.map_append, List.sum_append]
  simp
theorem count_le_one {l : List Nat} (h : l.Nodup) (x : Nat) : l.count x ≤ 1 := List.nodup_iff_count.1 h x
theorem cqN_bound (h : Inv P) (x : Nat) : ∀ r, r ≤ P.rs.length → cqN P r x ≤ 1 ∧ (cqN P r x ≠ 0 → 0 ≤ (P.proc x).res ∧ (P.proc x).res < r)
  | 0, _ => ⟨by simp [cqN], fun e => absurd (by simp [cqN]) e⟩
  | r + 1, hr => by
    obtain ⟨h1, h2⟩ := cqN_bound h x r (by omega)
    rw [cqN_succ]
    by_cases hx : x ∈ (P.rsc r).q
    · have h3 := ((h.qin r (by omega) x).1 hx).2.2.1
      have h4 := count_le_one (h.qnd r (by omega)) x
      have h5 : cqN P r x = 0 := by
        apply Classical.byContradiction
        intro e
        have := h2 e
        omega
      rw [h5]
      exact ⟨by omega, fun _ => by rw [h3]; omega⟩
    · rw [List.count_eq_zero_of_not_mem hx]
      exact ⟨h1, fun e => by have := h2 e; omega⟩
theorem countI_nat {r : Nat} (hr : r < P.rs.length) : countI P r = (P.rsc r).count := by
  unfold countI isR
  simp [hr]
theorem count_take_succ {l : List Nat} {i : Nat} (h : i < l.length) (y : Nat) : (l.take (i + 1)).count y = (l.take i).count y + (if l[i] = y then 1 else 0) := by
  rw [List.take_succ_eq_append_getElem h, List.count_append, List.count_singleton]
  simp
end Nac.Procs
