/- A checked program stays in its program; a step changes one thing at most. Plain Lean. -/
import Derived.Test.YtlecpekgnlaneaaDoorPvmPlain2
namespace Nac.Pvm
open Go Go.RowKit Go.IntWalk
theorem faultAt_none (n : Nat) : ∀ (l : List Ins) (k : Nat), faultAt n l k = none → ∀ i ∈ l, wf i = true ∧ (leads i = true → num i < n)
  | [], _, _, i, hi => by simp at hi
  | j :: l, k, h, i, hi => by
    unfold faultAt at h
    by_cases h1 : wf j = false
    · rw [if_pos h1] at h; cases h
    rw [if_neg h1] at h
    by_cases h2 : leads j = true ∧ (n : Int) ≤ num j
    · rw [if_pos h2] at h; cases h
    rw [if_neg h2] at h
    rcases List.mem_cons.1 hi with rfl | hi
    · exact ⟨by simpa using h1, fun h3 => by
        rcases (by omega : num i < n ∨ (n : Int) ≤ num i) with h4 | h4
        · exact h4
        · exact absurd ⟨h3, h4⟩ h2⟩
    · exact faultAt_none n l (k + 1) h i hi
structure Good (l : List Ins) : Prop where
  pos : 0 < l.length
  small : l.length ≤ 128
  each : ∀ i ∈ l, wf i = true ∧ (leads i = true → num i < l.length)
  last : (l.getD (l.length - 1) default).op = 0 ∨ (l.getD (l.length - 1) default).op = 15
theorem good_of (l : List Ins) (h : check l = none) : Good l := by
  unfold check at h
  by_cases h1 : l.length = 0 ∨ 128 < l.length
  · rw [if_pos h1] at h; cases h
  rw [if_neg h1] at h
  cases hf : faultAt l.length l 0 with
  | some f => rw [hf] at h; cases h
  | none =>
    rw [hf] at h
    simp only at h
    by_cases h2 : (l.getD (l.length - 1) default).op ≠ 0 ∧ (l.getD (l.length - 1) default).op ≠ 15
    · rw [if_pos h2] at h; cases h
    exact ⟨by omega, by omega, faultAt_none _ l 0 hf, by omega⟩
theorem plainM_place (m : Mach) (i : Ins) : (plainM m i).place = m.place ∨ (leads i = true ∧ (plainM m i).place = num i ∧ 0 ≤ num i) := by
  unfold plainM
  by_cases h1 : i.op = 1
  · rw [if_pos h1]; exact .inl rfl
  rw [if_neg h1]
  have hn : 0 ≤ num i := by unfold num; rw [if_neg (fun h => h1 h.1)]; omega
  by_cases h2 : i.op = 2
  · rw [if_pos h2]; exact .inl rfl
  rw [if_neg h2]
  by_cases h3 : i.op = 16
  · rw [if_pos h3]
    by_cases h : m.reg i.a ≠ 0
    · rw [if_pos h]; exact .inl rfl
    · rw [if_neg h]; exact .inr ⟨by simp [leads, h3], rfl, hn⟩
  rw [if_neg h3]
  by_cases h4 : i.op = 15
  · rw [if_pos h4]; exact .inr ⟨by simp [leads, h4], rfl, hn⟩
  rw [if_neg h4]
  exact .inl rfl
/-- a checked program never leaves itself -/
theorem good_step {l : List Ins} (hg : Good l) (m : Mach) (h0 : 0 ≤ m.place) (h1 : m.place < l.length) :
    0 ≤ (stepM l m).1.place ∧ (stepM l m).1.place < l.length ∧ ((stepM l m).2.1 = 3 → (stepM l m).2.2 = 80 ∨ (stepM l m).2.2 = 81) := by
  unfold stepM
  by_cases hs : m.state ≠ 0
  · rw [if_pos hs]; exact ⟨h0, h1, fun h => by simp at h⟩
  rw [if_neg hs, if_neg (by omega)]
  obtain ⟨k, hk⟩ : ∃ k : Nat, m.place = k := ⟨m.place.toNat, by omega⟩
  have hkl : k < l.length := by omega
  have hmem : l.getD m.place.toNat default ∈ l := by
    rw [hk]
    simp only [Int.toNat_natCast, List.getD, List.getElem?_eq_getElem hkl, Option.getD_some]
    exact List.getElem_mem hkl
  have hlast : m.place + 1 = l.length → (l.getD m.place.toNat default).op = 0 ∨ (l.getD m.place.toNat default).op = 15 := fun e => by
    have e2 : m.place.toNat = l.length - 1 := by omega
    rw [e2]; exact hg.last
  obtain ⟨hwf, hld⟩ := hg.each _ hmem
  generalize l.getD m.place.toNat default = i at *
  rw [if_neg (by rw [hwf]; simp)]
  by_cases h4 : i.op = 0
  · rw [if_pos h4]; exact ⟨h0, h1, fun h => by simp at h⟩
  rw [if_neg h4]
  by_cases h15 : i.op = 15
  · rw [if_neg (by omega), if_neg (by omega), if_neg (by omega), if_neg (by omega)]
    rcases plainM_place { m with place := m.place + 1 } i with h | ⟨h, h2, h3⟩
    · have : (plainM { m with place := m.place + 1 } i).place = num i := by unfold plainM; rw [if_neg (by omega), if_neg (by omega), if_neg (by omega), if_pos h15]
      have hl : leads i = true := by simp [leads, h15]
      have hn : 0 ≤ num i := by unfold num; rw [if_neg (by omega)]; omega
      exact ⟨by simp only; omega, by simp only; have := hld hl; omega, fun h => by simp at h⟩
    · exact ⟨by simp only; omega, by simp only; have := hld h; omega, fun h => by simp at h⟩
  have hnx : m.place + 1 < l.length := by
    apply Classical.byContradiction
    intro hn
    rcases hlast (by omega) with h | h <;> omega
  by_cases h5 : i.op = 17
  · rw [if_pos h5]; exact ⟨by simp only; omega, hnx, fun h => by simp at h⟩
  rw [if_neg h5]
  by_cases h6 : i.op = 13
  · rw [if_pos h6]
    by_cases h : wordAt m i < 0
    · rw [if_pos h]; exact ⟨h0, h1, fun _ => .inr rfl⟩
    · rw [if_neg h]; exact ⟨by simp only; omega, hnx, fun h => by simp at h⟩
  rw [if_neg h6]
  by_cases h7 : i.op = 14
  · rw [if_pos h7]
    by_cases h : wordAt m i < 0
    · rw [if_pos h]; exact ⟨h0, h1, fun _ => .inr rfl⟩
    · rw [if_neg h]; exact ⟨by simp only; omega, hnx, fun h => by simp at h⟩
  rw [if_neg h7]
  by_cases h8 : (i.op = 6 ∨ i.op = 7) ∧ m.reg i.c = 0
  · rw [if_pos h8]; exact ⟨h0, h1, fun _ => .inl rfl⟩
  rw [if_neg h8]
  rcases plainM_place { m with place := m.place + 1 } i with h | ⟨h, h2, h3⟩
  · exact ⟨by simp only; rw [h]; simp only; omega, by simp only; rw [h]; exact hnx, fun h => by simp at h⟩
  · exact ⟨by simp only; omega, by simp only; have := hld h; omega, fun h => by simp at h⟩
/-- how many of the first k differ -/
def diff (a b : List Int) : Nat → Nat
  | 0 => 0
  | k + 1 => diff a b k + if a.getD k 0 = b.getD k 0 then 0 else 1
theorem diff_self (a : List Int) : ∀ k, diff a a k = 0
  | 0 => rfl
  | k + 1 => by rw [diff, diff_self a k, if_pos rfl]
theorem diff_set (a : List Int) (j : Nat) (v : Int) : ∀ k, diff (a.set j v) a k ≤ if j < k then 1 else 0
  | 0 => by simp [diff]
  | k + 1 => by
    have ih := diff_set a j v k
    rw [diff]
    by_cases hj : j = k
    · subst hj
      rw [if_neg (Nat.lt_irrefl _)] at ih
      rw [if_pos (Nat.lt_succ_self _)]
      split <;> omega
    · have e : (a.set j v).getD k 0 = a.getD k 0 := by simp [List.getD, List.getElem?_set_ne hj]
      rw [if_pos e]
      by_cases h : j < k
      · rw [if_pos h] at ih; rw [if_pos (by omega)]; omega
      · rw [if_neg h] at ih; omega
theorem diff_set_le (a : List Int) (j : Nat) (v : Int) (k : Nat) : diff (a.set j v) a k ≤ 1 := by
  have := diff_set a j v k
  split at this <;> omega
/-- one thing at most -/
theorem step_diff (l : List Ins) (m : Mach) (p q : Nat) : diff (stepM l m).1.r m.r p + diff (stepM l m).1.mem m.mem q ≤ 1 := by
  have hz : ∀ (x : Mach), x.r = m.r → x.mem = m.mem → diff x.r m.r p + diff x.mem m.mem q ≤ 1 := fun x h1 h2 => by rw [h1, h2, diff_self, diff_self]; omega
  unfold stepM
  by_cases h1 : m.state ≠ 0
  · rw [if_pos h1]; exact hz _ rfl rfl
  rw [if_neg h1]
  by_cases h2 : m.place < 0 ∨ (l.length : Int) ≤ m.place
  · rw [if_pos h2]; exact hz _ rfl rfl
  rw [if_neg h2]
  generalize l.getD m.place.toNat default = i
  by_cases h3 : wf i = false
  · rw [if_pos h3]; exact hz _ rfl rfl
  rw [if_neg h3]
  by_cases h4 : i.op = 0
  · rw [if_pos h4]; exact hz _ rfl rfl
  rw [if_neg h4]
  by_cases h5 : i.op = 17
  · rw [if_pos h5]; exact hz _ rfl rfl
  rw [if_neg h5]
  by_cases h6 : i.op = 13
  · rw [if_pos h6]
    by_cases h : wordAt m i < 0
    · rw [if_pos h]; exact hz _ rfl rfl
    · rw [if_neg h]
      show diff (m.r.set _ _) m.r p + diff m.mem m.mem q ≤ 1
      rw [diff_self]; have := diff_set_le m.r i.a (m.mem.getD (wordAt m i).toNat 0) p; omega
  rw [if_neg h6]
  by_cases h7 : i.op = 14
  · rw [if_pos h7]
    by_cases h : wordAt m i < 0
    · rw [if_pos h]; exact hz _ rfl rfl
    · rw [if_neg h]
      show diff m.r m.r p + diff (m.mem.set _ _) m.mem q ≤ 1
      rw [diff_self]; have := diff_set_le m.mem (wordAt m i).toNat (m.reg i.a) q; omega
  rw [if_neg h7]
  by_cases h8 : (i.op = 6 ∨ i.op = 7) ∧ m.reg i.c = 0
  · rw [if_pos h8]; exact hz _ rfl rfl
  rw [if_neg h8]
  show diff (plainM { m with place := m.place + 1 } i).r m.r p + diff (plainM { m with place := m.place + 1 } i).mem m.mem q ≤ 1
  unfold plainM
  by_cases g1 : i.op = 1
  · rw [if_pos g1]
    show diff (m.r.set _ _) m.r p + diff m.mem m.mem q ≤ 1
    rw [diff_self]; have := diff_set_le m.r i.a (num i) p; omega
  rw [if_neg g1]
  by_cases g2 : i.op = 2
  · rw [if_pos g2]
    show diff (m.r.set _ _) m.r p + diff m.mem m.mem q ≤ 1
    rw [diff_self]; have := diff_set_le m.r i.a (m.reg i.b) p; exact this
  rw [if_neg g2]
  by_cases g3 : i.op = 16
  · rw [if_pos g3]
    split <;> exact hz _ rfl rfl
  rw [if_neg g3]
  by_cases g4 : i.op = 15
  · rw [if_pos g4]; exact hz _ rfl rfl
  rw [if_neg g4]
  show diff (m.r.set _ _) m.r p + diff m.mem m.mem q ≤ 1
  rw [diff_self]; have := diff_set_le m.r i.a (res i.op (m.reg i.b) (m.reg i.c)) p; exact this
/-- what a step comes to: its state, its event -/
theorem step_ways (l : List Ins) (m : Mach) :
    ((stepM l m).1.state = m.state ∧ ((stepM l m).2.1 = 0 ∨ ((stepM l m).1.r = m.r ∧ (stepM l m).1.mem = m.mem))) ∨
    (m.state = 0 ∧ (stepM l m).2.1 = 2 ∧ (stepM l m).1.state = 1 ∧ (stepM l m).1.r = m.r ∧ (stepM l m).1.mem = m.mem) ∨
    (m.state = 0 ∧ (stepM l m).2.1 = 3 ∧ (stepM l m).1.state = 2 ∧ (stepM l m).1.trap = (stepM l m).2.2 ∧ (stepM l m).1.place = m.place ∧ (stepM l m).1.r = m.r ∧ (stepM l m).1.mem = m.mem) := by
  unfold stepM
  by_cases h1 : m.state ≠ 0
  · rw [if_pos h1]; exact .inl ⟨rfl, .inl rfl⟩
  rw [if_neg h1]
  have h1 : m.state = 0 := by simpa using h1
  by_cases h2 : m.place < 0 ∨ (l.length : Int) ≤ m.place
  · rw [if_pos h2]; exact .inr (.inr ⟨h1, rfl, rfl, rfl, rfl, rfl, rfl⟩)
  rw [if_neg h2]
  generalize l.getD m.place.toNat default = i
  by_cases h3 : wf i = false
  · rw [if_pos h3]; exact .inr (.inr ⟨h1, rfl, rfl, rfl, rfl, rfl, rfl⟩)
  rw [if_neg h3]
  by_cases h4 : i.op = 0
  · rw [if_pos h4]; exact .inr (.inl ⟨h1, rfl, rfl, rfl, rfl⟩)
  rw [if_neg h4]
  by_cases h5 : i.op = 17
  · rw [if_pos h5]; exact .inl ⟨rfl, .inr ⟨rfl, rfl⟩⟩
  rw [if_neg h5]
  by_cases h6 : i.op = 13
  · rw [if_pos h6]
    by_cases h : wordAt m i < 0
    · rw [if_pos h]; exact .inr (.inr ⟨h1, rfl, rfl, rfl, rfl, rfl, rfl⟩)
    · rw [if_neg h]; exact .inl ⟨rfl, .inl rfl⟩
  rw [if_neg h6]
  by_cases h7 : i.op = 14
  · rw [if_pos h7]
    by_cases h : wordAt m i < 0
    · rw [if_pos h]; exact .inr (.inr ⟨h1, rfl, rfl, rfl, rfl, rfl, rfl⟩)
    · rw [if_neg h]; exact .inl ⟨rfl, .inl rfl⟩
  rw [if_neg h7]
  by_cases h8 : (i.op = 6 ∨ i.op = 7) ∧ m.reg i.c = 0
  · rw [if_pos h8]; exact .inr (.inr ⟨h1, rfl, rfl, rfl, rfl, rfl, rfl⟩)
  rw [if_neg h8]
  exact .inl ⟨(plainM_len { m with place := m.place + 1 } i).2.2.1, .inl rfl⟩
end Nac.Pvm
