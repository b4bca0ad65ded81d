/- Runs of a machine, in plain Lean. -/
import Derived.Test.YtlecpekgnlaneaaDoorPvmPlain
namespace Nac.Pvm
open Go Go.RowKit Go.IntWalk
def runM (l : List Ins) : Nat → Mach × Int × Int → (Mach × Int × Int) × Nat
  | 0, x => (x, 0)
  | n + 1, x => if x.1.state = 0 ∧ x.2.1 = 0 then ((runM l n (stepM l x.1)).1, (runM l n (stepM l x.1)).2 + 1) else (x, 0)
theorem runM_stop (l : List Ins) (n : Nat) (x : Mach × Int × Int) (h : ¬ (x.1.state = 0 ∧ x.2.1 = 0)) : runM l n x = (x, 0) := by
  cases n with
  | zero => rfl
  | succ n => rw [runM, if_neg h]
theorem plainM_len (m : Mach) (i : Ins) : (plainM m i).r.length = m.r.length ∧ (plainM m i).mem = m.mem ∧ (plainM m i).state = m.state ∧ (plainM m i).trap = m.trap := by
  unfold plainM
  split
  · simp
  split
  · simp
  split
  · split <;> simp
  split <;> simp
theorem stepM_len (l : List Ins) (m : Mach) : (stepM l m).1.r.length = m.r.length ∧ (stepM l m).1.mem.length = m.mem.length := by
  unfold stepM
  by_cases h1 : m.state ≠ 0
  · rw [if_pos h1]; exact ⟨rfl, rfl⟩
  rw [if_neg h1]
  by_cases h2 : m.place < 0 ∨ (l.length : Int) ≤ m.place
  · rw [if_pos h2]; exact ⟨rfl, rfl⟩
  rw [if_neg h2]
  generalize l.getD m.place.toNat default = i
  by_cases h3 : wf i = false
  · rw [if_pos h3]; exact ⟨rfl, rfl⟩
  rw [if_neg h3]
  by_cases h4 : i.op = 0
  · rw [if_pos h4]; exact ⟨rfl, rfl⟩
  rw [if_neg h4]
  by_cases h5 : i.op = 17
  · rw [if_pos h5]; exact ⟨rfl, rfl⟩
  rw [if_neg h5]
  by_cases h6 : i.op = 13
  · rw [if_pos h6]
    by_cases h : wordAt m i < 0
    · rw [if_pos h]; exact ⟨rfl, rfl⟩
    · rw [if_neg h]; simp
  rw [if_neg h6]
  by_cases h7 : i.op = 14
  · rw [if_pos h7]
    by_cases h : wordAt m i < 0
    · rw [if_pos h]; exact ⟨rfl, rfl⟩
    · rw [if_neg h]; simp
  rw [if_neg h7]
  by_cases h8 : (i.op = 6 ∨ i.op = 7) ∧ m.reg i.c = 0
  · rw [if_pos h8]; exact ⟨rfl, rfl⟩
  rw [if_neg h8]
  have := plainM_len { m with place := m.place + 1 } i
  exact ⟨this.1, by rw [this.2.1]⟩
/-- after k rounds -/
def AtRound (l : List Ins) (N : Nat) (x0 x : Mach × Int × Int) (k : Nat) : Prop := runM l N x0 = ((runM l (N - k) x).1, (runM l (N - k) x).2 + k)
theorem AtRound.start (l : List Ins) (N : Nat) (x : Mach × Int × Int) : AtRound l N x x 0 := rfl
theorem AtRound.next {l : List Ins} {N : Nat} {x0 x : Mach × Int × Int} {k : Nat} (h : AtRound l N x0 x k) (h1 : x.1.state = 0) (h2 : x.2.1 = 0) (hk : k < N) : AtRound l N x0 (stepM l x.1) (k + 1) := by
  unfold AtRound at h ⊢
  obtain ⟨d, hd⟩ : ∃ d, N - k = d + 1 := ⟨N - k - 1, by omega⟩
  rw [h, hd, runM, if_pos ⟨h1, h2⟩, (by omega : N - (k + 1) = d)]
  simp only
  congr 1
  omega
theorem AtRound.stop {l : List Ins} {N : Nat} {x0 x : Mach × Int × Int} {k : Nat} (h : AtRound l N x0 x k) (hx : ¬ (x.1.state = 0 ∧ x.2.1 = 0)) : runM l N x0 = (x, k) := by
  unfold AtRound at h
  rw [h, runM_stop _ _ _ hx, Nat.zero_add]
theorem AtRound.full {l : List Ins} {N : Nat} {x0 x : Mach × Int × Int} {k : Nat} (h : AtRound l N x0 x k) (hx : N ≤ k) : runM l N x0 = (x, k) := by
  unfold AtRound at h
  rw [h, (by omega : N - k = 0), runM, Nat.zero_add]
end Nac.Pvm
