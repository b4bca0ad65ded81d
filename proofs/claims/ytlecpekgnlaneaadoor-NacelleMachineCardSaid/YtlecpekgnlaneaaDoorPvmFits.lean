/- A machine of a checked program may be saved, whatever it has come to. Plain Lean. -/
import Derived.Test.YtlecpekgnlaneaaDoorPvmMay
import Derived.Test.YtlecpekgnlaneaaDoorPvmPlain3
import Derived.OpenShut
namespace Nac.Pvm
open Go Go.RowKit Go.IntWalk
def W64 (z : Int) : Prop := (Lit.int .i64 z).wf = true
theorem w64_iff (z : Int) : W64 z ↔ -9223372036854775808 ≤ z ∧ z ≤ 9223372036854775807 := by
  unfold W64
  simp [Lit.wf, IntKind.min, IntKind.max, IntKind.signed, IntKind.bits]
theorem w64_wrap (z : Int) : W64 (wrap64 z) := by
  rw [w64_iff]
  have := wf_wrap .i64 z
  have h2 : IntKind.i64.wrap z = wrap64 z := by first | rfl | simp [wrap64, IntKind.wrap_i64] | (unfold wrap64; rw [IntKind.wrap_i64])
  rw [h2] at this
  exact (w64_iff _).1 this
theorem w64_num (i : Ins) (h : i.fits) : W64 (num i) := by
  rw [w64_iff]
  have := h.b
  have := h.c
  unfold num
  split <;> omega
theorem w64_mod (b c : Int) (hb : W64 b) : W64 (b.tmod c) := by
  rw [w64_iff] at *
  have h1 := Int.natAbs_tmod b c
  have h2 : (b.tmod c).natAbs ≤ b.natAbs := by rw [h1]; exact Nat.mod_le _ _
  have h3 : b.tmod c = 0 ∨ (0 < b.tmod c ∧ 0 < b) ∨ (b.tmod c < 0 ∧ b < 0) := by
    rcases Int.lt_trichotomy b 0 with h | h | h
    · have : b.tmod c ≤ 0 := by
        have := Int.tmod_nonneg c (a := -b) (by omega)
        rw [Int.neg_tmod] at this
        omega
      omega
    · subst h; left; simp
    · have := Int.tmod_nonneg c (a := b) (by omega)
      omega
  omega
theorem w64_res (op : Nat) (b c : Int) (hb : W64 b) : W64 (res op b c) := by
  have h0 : W64 0 := (w64_iff 0).2 (by omega)
  have h1 : W64 1 := (w64_iff 1).2 (by omega)
  unfold res
  split; exact w64_wrap _
  split; exact w64_wrap _
  split; exact w64_wrap _
  split; exact w64_wrap _
  split; exact w64_mod _ _ hb
  split; exact wf_bits _ _ _ _
  split; exact wf_bits _ _ _ _
  split; exact wf_bits _ _ _ _
  split
  · split
    · exact h1
    · exact h0
  · split
    · exact h1
    · exact h0
structure MFit (m : Mach) : Prop where
  r : ∀ z ∈ m.r, W64 z
  mem : ∀ z ∈ m.mem, W64 z
theorem MFit.reg {m : Mach} (h : MFit m) (k : Nat) : W64 (m.reg k) := by
  unfold Mach.reg
  rcases Nat.lt_or_ge k m.r.length with hk | hk
  · rw [List.getD_eq_getElem?_getD, List.getElem?_eq_getElem hk]; exact h.r _ (List.getElem_mem hk)
  · rw [List.getD_eq_getElem?_getD, List.getElem?_eq_none hk]; exact (w64_iff 0).2 (by omega)
theorem MFit.word {m : Mach} (h : MFit m) (k : Nat) : W64 (m.mem.getD k 0) := by
  rcases Nat.lt_or_ge k m.mem.length with hk | hk
  · rw [List.getD_eq_getElem?_getD, List.getElem?_eq_getElem hk]; exact h.mem _ (List.getElem_mem hk)
  · rw [List.getD_eq_getElem?_getD, List.getElem?_eq_none hk]; exact (w64_iff 0).2 (by omega)
theorem all_set {l : List Int} {v : Int} (k : Nat) (h : ∀ z ∈ l, W64 z) (hv : W64 v) : ∀ z ∈ l.set k v, W64 z := fun z hz => by
  rcases List.mem_or_eq_of_mem_set hz with h1 | h1
  · exact h z h1
  · rw [h1]; exact hv
theorem plainM_fit {m : Mach} (h : MFit m) (i : Ins) (hi : i.fits) : MFit (plainM m i) := by
  unfold plainM
  split
  · exact ⟨all_set _ h.r (w64_num i hi), h.mem⟩
  split
  · exact ⟨all_set _ h.r (h.reg _), h.mem⟩
  split
  · split
    · exact h
    · exact ⟨h.r, h.mem⟩
  split
  · exact ⟨h.r, h.mem⟩
  · exact ⟨all_set _ h.r (w64_res _ _ _ (h.reg _)), h.mem⟩
theorem stepM_fit {m : Mach} (h : MFit m) (l : List Ins) (hl : ∀ i ∈ l, i.fits) : MFit (stepM l m).1 := by
  unfold stepM
  by_cases h1 : m.state ≠ 0
  · rw [if_pos h1]; exact h
  rw [if_neg h1]
  by_cases h2 : m.place < 0 ∨ (l.length : Int) ≤ m.place
  · rw [if_pos h2]; exact ⟨h.r, h.mem⟩
  rw [if_neg h2]
  have hi : (l.getD m.place.toNat default).fits := by
    have hk : m.place.toNat < l.length := by omega
    rw [List.getD_eq_getElem?_getD, List.getElem?_eq_getElem hk]
    exact hl _ (List.getElem_mem hk)
  generalize l.getD m.place.toNat default = i at *
  by_cases h3 : wf i = false
  · rw [if_pos h3]; exact ⟨h.r, h.mem⟩
  rw [if_neg h3]
  by_cases h4 : i.op = 0
  · rw [if_pos h4]; exact ⟨h.r, h.mem⟩
  rw [if_neg h4]
  by_cases h5 : i.op = 17
  · rw [if_pos h5]; exact ⟨h.r, h.mem⟩
  rw [if_neg h5]
  by_cases h6 : i.op = 13
  · rw [if_pos h6]
    by_cases h9 : wordAt m i < 0
    · rw [if_pos h9]; exact ⟨h.r, h.mem⟩
    · rw [if_neg h9]; exact ⟨all_set _ h.r (h.word _), h.mem⟩
  rw [if_neg h6]
  by_cases h7 : i.op = 14
  · rw [if_pos h7]
    by_cases h9 : wordAt m i < 0
    · rw [if_pos h9]; exact ⟨h.r, h.mem⟩
    · rw [if_neg h9]; exact ⟨h.r, all_set _ h.mem (h.reg _)⟩
  rw [if_neg h7]
  by_cases h8 : (i.op = 6 ∨ i.op = 7) ∧ m.reg i.c = 0
  · rw [if_pos h8]; exact ⟨h.r, h.mem⟩
  rw [if_neg h8]
  exact plainM_fit (m := { m with place := m.place + 1 }) ⟨h.r, h.mem⟩ i hi
theorem step_state (l : List Ins) (m : Mach) :
    ((stepM l m).1.state = m.state ∧ (stepM l m).1.trap = m.trap) ∨ (m.state = 0 ∧ (stepM l m).1.state = 1 ∧ (stepM l m).1.trap = m.trap) ∨ (m.state = 0 ∧ (stepM l m).1.state = 2 ∧ 80 ≤ (stepM l m).1.trap ∧ (stepM l m).1.trap ≤ 83) := by
  unfold stepM
  by_cases h1 : m.state ≠ 0
  · rw [if_pos h1]; exact .inl ⟨rfl, rfl⟩
  rw [if_neg h1]
  have h1 : m.state = 0 := by simpa using h1
  have ht : ∀ e : Int, 80 ≤ e → e ≤ 83 → (trapM m e).1.state = 2 ∧ 80 ≤ (trapM m e).1.trap ∧ (trapM m e).1.trap ≤ 83 := fun e a b => ⟨rfl, a, b⟩
  by_cases h2 : m.place < 0 ∨ (l.length : Int) ≤ m.place
  · rw [if_pos h2]; exact .inr (.inr ⟨h1, ht 82 (by omega) (by omega)⟩)
  rw [if_neg h2]
  generalize l.getD m.place.toNat default = i
  by_cases h3 : wf i = false
  · rw [if_pos h3]; exact .inr (.inr ⟨h1, ht 83 (by omega) (by omega)⟩)
  rw [if_neg h3]
  by_cases h4 : i.op = 0
  · rw [if_pos h4]; exact .inr (.inl ⟨h1, rfl, rfl⟩)
  rw [if_neg h4]
  by_cases h5 : i.op = 17
  · rw [if_pos h5]; exact .inl ⟨rfl, rfl⟩
  rw [if_neg h5]
  by_cases h6 : i.op = 13
  · rw [if_pos h6]
    by_cases h9 : wordAt m i < 0
    · rw [if_pos h9]; exact .inr (.inr ⟨h1, ht 81 (by omega) (by omega)⟩)
    · rw [if_neg h9]; exact .inl ⟨rfl, rfl⟩
  rw [if_neg h6]
  by_cases h7 : i.op = 14
  · rw [if_pos h7]
    by_cases h9 : wordAt m i < 0
    · rw [if_pos h9]; exact .inr (.inr ⟨h1, ht 81 (by omega) (by omega)⟩)
    · rw [if_neg h9]; exact .inl ⟨rfl, rfl⟩
  rw [if_neg h7]
  by_cases h8 : (i.op = 6 ∨ i.op = 7) ∧ m.reg i.c = 0
  · rw [if_pos h8]; exact .inr (.inr ⟨h1, ht 80 (by omega) (by omega)⟩)
  rw [if_neg h8]
  have := plainM_len { m with place := m.place + 1 } i
  exact .inl ⟨this.2.2.1, this.2.2.2⟩
/-- what a machine of a checked program keeps -/
structure Kept (l : List Ins) (m : Mach) : Prop where
  p0 : 0 ≤ m.place
  p1 : m.place < l.length
  len : m.r.length = 8
  mem : m.mem.length ≤ 64
  fit : MFit m
  may : mayM m = true
theorem may_of {m : Mach} (h0 : 0 ≤ m.place) (h1 : m.place ≤ 65535) (h2 : m.mem.length ≤ 64) (h : (m.state = 0 ∨ m.state = 1) ∧ m.trap = 0 ∨ m.state = 2 ∧ 80 ≤ m.trap ∧ m.trap ≤ 83) : mayM m = true := by
  unfold mayM
  have e1 : decide (m.place < 0) = false := by simpa using h0
  have e2 : decide (65535 < m.place) = false := by simpa using h1
  have e3 : decide (64 < m.mem.length) = false := by simpa using h2
  rw [e1, e2, e3]
  rcases h with ⟨h, h4⟩ | ⟨h, h4, h5⟩
  · rw [if_pos h]; simpa using h4
  · rw [if_neg (by omega), if_pos h]; simp; omega
theorem may_state {m : Mach} (h : mayM m = true) : (m.state = 0 ∨ m.state = 1) ∧ m.trap = 0 ∨ m.state = 2 ∧ 80 ≤ m.trap ∧ m.trap ≤ 83 := by
  unfold mayM at h
  rw [Bool.and_eq_true] at h
  have h := h.2
  by_cases hs : m.state = 0 ∨ m.state = 1
  · rw [if_pos hs] at h; exact .inl ⟨hs, by simpa using h⟩
  · rw [if_neg hs] at h
    by_cases hs2 : m.state = 2
    · rw [if_pos hs2] at h; exact .inr ⟨hs2, by simpa using h⟩
    · rw [if_neg hs2] at h; cases h
theorem Kept.step {l : List Ins} {m : Mach} (hg : Good l) (hf : ∀ i ∈ l, i.fits) (h : Kept l m) : Kept l (stepM l m).1 := by
  obtain ⟨g1, g2, _⟩ := good_step hg m h.p0 h.p1
  have hl := stepM_len l m
  have hsm := hg.small
  refine ⟨g1, g2, hl.1.trans h.len, by rw [hl.2]; exact h.mem, stepM_fit h.fit l hf, may_of g1 (by omega) (by rw [hl.2]; exact h.mem) ?_⟩
  have hm := may_state h.may
  rcases step_state l m with ⟨h1, h2⟩ | ⟨h1, h2, h3⟩ | ⟨h1, h2, h3⟩
  · rw [h1, h2]; exact hm
  · left; exact ⟨.inr h2, by rw [h3]; omega⟩
  · right; exact ⟨h2, h3⟩
theorem Kept.run {l : List Ins} (hg : Good l) (hf : ∀ i ∈ l, i.fits) : ∀ (n : Nat) (x : Mach × Int × Int), Kept l x.1 → Kept l (runM l n x).1.1
  | 0, _, h => h
  | n + 1, x, h => by
    rw [runM]
    split
    · exact Kept.run hg hf n (stepM l x.1) (h.step hg hf)
    · exact h
/-- instructions out of bytes, and back -/
def insAt (l : List UInt8) (i : Nat) : Ins := ⟨(l.getD (4 * i) 0).toNat, (l.getD (4 * i + 1) 0).toNat, (l.getD (4 * i + 2) 0).toNat, (l.getD (4 * i + 3) 0).toNat⟩
def insOf (l : List UInt8) : List Ins := (List.range (l.length / 4)).map (insAt l)
theorem insOf_len (l : List UInt8) : (insOf l).length = l.length / 4 := by simp [insOf]
theorem insAt_fits (l : List UInt8) (i : Nat) : (insAt l i).fits := ⟨UInt8.toNat_lt _, UInt8.toNat_lt _, UInt8.toNat_lt _, UInt8.toNat_lt _⟩
theorem insOf_fits (l : List UInt8) : ∀ i ∈ insOf l, i.fits := fun i hi => by
  obtain ⟨k, _, rfl⟩ := List.mem_map.1 hi
  exact insAt_fits l k
def insB (i : Ins) : List UInt8 := [UInt8.ofNat i.op, UInt8.ofNat i.a, UInt8.ofNat i.b, UInt8.ofNat i.c]
def encI (l : List Ins) : List UInt8 := (l.map insB).flatten
theorem encI_range (l : List UInt8) : ∀ n, 4 * n ≤ l.length → encI ((List.range n).map (insAt l)) = l.take (4 * n)
  | 0, _ => by simp [encI]
  | n + 1, h => by
    have ih := encI_range l n (by omega)
    have h0 : 4 * n < l.length := by omega
    have h1 : 4 * n + 1 < l.length := by omega
    have h2 : 4 * n + 2 < l.length := by omega
    have h3 : 4 * n + 3 < l.length := by omega
    have e : 4 * (n + 1) = 4 * n + 1 + 1 + 1 + 1 := by omega
    rw [List.range_succ, List.map_append, encI, List.map_append, List.flatten_append]
    have ih' : (((List.range n).map (insAt l)).map insB).flatten = l.take (4 * n) := ih
    have e4 : l.take (4 * n + 1 + 1 + 1 + 1) = l.take (4 * n) ++ [l[4 * n], l[4 * n + 1], l[4 * n + 2], l[4 * n + 3]] := by
      rw [List.take_succ_eq_append_getElem h3, List.take_succ_eq_append_getElem h2, List.take_succ_eq_append_getElem h1, List.take_succ_eq_append_getElem h0]
      simp only [List.append_assoc, List.cons_append, List.nil_append]
    have e5 : (List.map insB (List.map (insAt l) [n])).flatten = [l[4 * n], l[4 * n + 1], l[4 * n + 2], l[4 * n + 3]] := by
      simp [insB, insAt, List.getD, h0, h1, h2, h3]
    rw [ih', e, e4, e5]
theorem encI_insOf (l : List UInt8) (h : l.length % 4 = 0) : encI (insOf l) = l := by
  unfold insOf
  rw [encI_range l _ (by omega), List.take_of_length_le (by omega)]
end Nac.Pvm
