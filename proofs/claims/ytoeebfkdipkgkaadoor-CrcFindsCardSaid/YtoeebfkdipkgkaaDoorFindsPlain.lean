/- A burst of up to 32 neighbouring bits, laid over a list byte by byte: plain. -/
import Derived.Test.YtoeebfkdipkgkaaDoorCrcPlain
namespace Nac.Crc
def mask (n p bits j m : Nat) : List UInt8 := (List.range n).map fun q => if p ≤ q ∧ q < p + m then burst bits j (q - p) else 0
def turned (s : List UInt8) (p bits j m : Nat) : List UInt8 := List.zipWith (· ^^^ ·) s (mask s.length p bits j m)
theorem mask_length (n p bits j m : Nat) : (mask n p bits j m).length = n := by simp [mask]
theorem turned_length (s : List UInt8) (p bits j m : Nat) : (turned s p bits j m).length = s.length := by simp [turned, mask_length]
theorem turned_get (s : List UInt8) (p bits j m q : Nat) (h : q < s.length) (h' : q < (turned s p bits j m).length) : (turned s p bits j m)[q] = s[q] ^^^ (if p ≤ q ∧ q < p + m then burst bits j (q - p) else 0) := by
  simp [turned, mask]
theorem turned_zero (s : List UInt8) (p bits j : Nat) : turned s p bits j 0 = s := by
  apply List.ext_getElem (by rw [turned_length])
  intro q h1 h2
  rw [turned_get s p bits j 0 q h2, if_neg (by omega)]
  simp
theorem turned_none (s : List UInt8) (p j m : Nat) : turned s p 0 j m = s := by
  apply List.ext_getElem (by rw [turned_length])
  intro q h1 h2
  rw [turned_get s p 0 j m q h2]
  split <;> simp [burst]
theorem turned_step (s : List UInt8) (p bits j m : Nat) (h : p + m < s.length) (h' : p + m < (turned s p bits j m).length) : (turned s p bits j m).set (p + m) ((turned s p bits j m)[p + m] ^^^ burst bits j m) = turned s p bits j (m + 1) := by
  apply List.ext_getElem (by simp [turned_length])
  intro q h1 h2
  have hq : q < s.length := by simpa [turned_length] using h2
  rw [List.getElem_set, turned_get s p bits j (m + 1) q hq]
  split
  · rename_i e
    subst e
    rw [turned_get s p bits j m _ h, if_neg (by omega), if_pos (by omega), show p + m - p = m by omega]
    simp
  · rw [turned_get s p bits j m q hq]
    congr 1
    by_cases c : p ≤ q ∧ q < p + m
    · rw [if_pos c, if_pos (by omega)]
    · rw [if_neg c, if_neg (by omega)]
theorem mask_five (n p bits j : Nat) (h : p + 5 ≤ n) : mask n p bits j 5 = List.replicate p 0 ++ [burst bits j 0, burst bits j 1, burst bits j 2, burst bits j 3, burst bits j 4] ++ List.replicate (n - p - 5) 0 := by
  apply List.ext_getElem
  · simp [mask_length]; omega
  intro q h1 h2
  have hq : q < n := by simpa [mask_length] using h1
  simp only [mask, List.getElem_map, List.getElem_range]
  by_cases c : q < p
  · rw [if_neg (by omega), List.getElem_append_left (by simp; omega), List.getElem_append_left (by simp; omega), List.getElem_replicate]
  · by_cases d : q < p + 5
    · obtain ⟨r, rfl⟩ : ∃ r, q = p + r := ⟨q - p, by omega⟩
      rw [if_pos (by omega), List.getElem_append_left (by simp; omega), List.getElem_append_right (by simp)]
      simp only [List.length_replicate, Nat.add_sub_cancel_left]
      match r, d with
      | 0, _ => rfl
      | 1, _ => rfl
      | 2, _ => rfl
      | 3, _ => rfl
      | 4, _ => rfl
      | r + 5, d => omega
    · rw [if_neg (by omega), List.getElem_append_right (by simp; omega), List.getElem_replicate]
theorem mask_four (n p bits j : Nat) (h : p + 4 = n) : mask n p bits j 4 = List.replicate p 0 ++ [burst bits j 0, burst bits j 1, burst bits j 2, burst bits j 3] := by
  apply List.ext_getElem
  · simp [mask_length]; omega
  intro q h1 h2
  have hq : q < n := by simpa [mask_length] using h1
  simp only [mask, List.getElem_map, List.getElem_range]
  by_cases c : q < p
  · rw [if_neg (by omega), List.getElem_append_left (by simp; omega), List.getElem_replicate]
  · obtain ⟨r, rfl⟩ : ∃ r, q = p + r := ⟨q - p, by omega⟩
    rw [if_pos (by omega), List.getElem_append_right (by simp)]
    simp only [List.length_replicate, Nat.add_sub_cancel_left]
    match r, hq with
    | 0, _ => rfl
    | 1, _ => rfl
    | 2, _ => rfl
    | 3, _ => rfl
    | r + 4, d => omega
/-- what was good is found out -/
theorem turned_bad (s : List UInt8) (p bits j m : Nat) (h4 : 4 ≤ s.length) (hs : good s = true) (hj : j < 8) (hb : bits < 4294967296) (hne : bits ≠ 0)
    (hm : (m = 5 ∧ p + 5 ≤ s.length) ∨ (m = 4 ∧ p + 4 = s.length ∧ j = 0)) : good (turned s p bits j m) = false := by
  rcases hm with ⟨rfl, h⟩ | ⟨rfl, h, rfl⟩
  · exact burst_found s _ h4 (mask_length _ _ _ _ _).symm hs p bits j hj hb hne _ (mask_five _ _ _ _ h)
  · exact burst_found4 s _ h4 (mask_length _ _ _ _ _).symm hs p bits hb hne (mask_four _ _ _ _ h)
end Nac.Crc
