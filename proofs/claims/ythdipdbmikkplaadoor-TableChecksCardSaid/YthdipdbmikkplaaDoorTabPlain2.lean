/- Plain facts on tables: turns counted, frames, the next turn, the search for a window; the document's check. Lean core alone. -/
import Derived.Test.YthdipdbmikkplaaDoorTabPlain
namespace Nac.Table
/-- is a place a turn of p? -/
def turnB (ws : List Win) (p k : Int) : Bool := decide (0 ≤ p ∧ whose ws k = p)
def cnt (f : Nat → Bool) : Nat → Nat
  | 0 => 0
  | n + 1 => cnt f n + (if f n = true then 1 else 0)
theorem cnt_le (f : Nat → Bool) : ∀ n, cnt f n ≤ n
  | 0 => Nat.le_refl _
  | n + 1 => by have := cnt_le f n; unfold cnt; split <;> omega
theorem cnt_mono (f : Nat → Bool) {m n : Nat} (h : m ≤ n) : cnt f m ≤ cnt f n := by
  induction n with
  | zero => have : m = 0 := by omega
            subst this; exact Nat.le_refl _
  | succ n ih =>
    by_cases e : m = n + 1
    · subst e; exact Nat.le_refl _
    · have := ih (by omega); show cnt f m ≤ cnt f n + _; omega
theorem cnt_zero (f : Nat → Bool) (n : Nat) (h : ∀ k, k < n → f k = false) : cnt f n = 0 := by
  induction n with
  | zero => rfl
  | succ n ih => show cnt f n + _ = 0; rw [ih (fun k hk => h k (by omega)), h n (by omega)]; rfl
theorem cnt_congr (f g : Nat → Bool) (n : Nat) (h : ∀ k, k < n → f k = g k) : cnt f n = cnt g n := by
  induction n with
  | zero => rfl
  | succ n ih => show cnt f n + _ = cnt g n + _; rw [ih (fun k hk => h k (by omega)), h n (by omega)]
theorem cnt_pos (f : Nat → Bool) (n : Nat) (k : Nat) (hk : k < n) (h : f k = true) : 0 < cnt f n := by
  induction n with
  | zero => omega
  | succ n ih =>
    show 0 < cnt f n + _
    by_cases e : k = n
    · subst e; rw [h]; simp
    · have := ih (by omega); omega
theorem belowI_neg {T : Int} : ∀ {ws : List Win} {lo : Int}, Fit T lo ws → ∀ (p k : Int), p < 0 → belowI ws p k = 0 := by
  intro ws
  induction ws with
  | nil => intro _ _ _ _ _; rfl
  | cons w ws ih =>
    intro lo hf p k hp
    obtain ⟨a, b, c, d, e, f, g⟩ := hf
    unfold belowI
    rw [if_neg (by omega), ih g p k hp]; rfl
theorem below_cnt {T : Int} {ws : List Win} (hf : Fit T 0 ws) (p : Int) (n : Nat) : belowI ws p n = (cnt (fun k => turnB ws p k) n : Nat) := by
  by_cases hp : 0 ≤ p
  · rw [below_eq hf p hp n]
    induction n with
    | zero => rfl
    | succ n ih =>
      show turnsTo ws p n + _ = _
      rw [ih]
      show _ = ((cnt (fun k => turnB ws p k) n + (if turnB ws p n = true then 1 else 0) : Nat) : Int)
      by_cases h : whose ws n = p
      · simp [turnB, h, hp]
      · simp [turnB, h]
  · rw [belowI_neg hf p n (by omega), cnt_zero]
    · rfl
    · intro k _; simp [turnB]; omega
/-- turns below m, by whole frames and a rest -/
def G (T : Nat) (f : Nat → Bool) (m : Nat) : Nat := m / T * cnt f T + cnt f (m % T)
theorem G_succ (T : Nat) (hT : 0 < T) (f : Nat → Bool) (m : Nat) : G T f (m + 1) = G T f m + (if f (m % T) = true then 1 else 0) := by
  unfold G
  have hm := Nat.mod_lt m hT
  have hd := Nat.div_add_mod m T
  by_cases h : m % T + 1 < T
  · have h1 : (m + 1) % T = m % T + 1 := by rw [Nat.add_mod, Nat.mod_eq_of_lt (a := 1) (by omega), Nat.mod_eq_of_lt h]
    have h2 : (m + 1) / T = m / T := by
      refine Nat.div_eq_of_lt_le ?_ ?_
      · rw [Nat.mul_comm]; omega
      · rw [Nat.succ_mul, Nat.mul_comm]; omega
    rw [h1, h2]
    show _ + (cnt f (m % T) + _) = _
    omega
  · have he : m % T + 1 = T := by omega
    have h1 : (m + 1) % T = 0 := by
      rw [show m + 1 = T * (m / T + 1) by rw [Nat.mul_succ]; omega]; exact Nat.mul_mod_right _ _
    have h2 : (m + 1) / T = m / T + 1 := by
      rw [show m + 1 = T * (m / T + 1) by rw [Nat.mul_succ]; omega, Nat.mul_div_cancel_left _ hT]
    rw [h1, h2, Nat.succ_mul]
    have h3 : cnt f T = cnt f (m % T) + (if f (m % T) = true then 1 else 0) := by
      conv => lhs; rw [← he]
      rfl
    show _ + cnt f T + 0 = _
    omega
theorem G_add (T : Nat) (hT : 0 < T) (f : Nat → Bool) (m n : Nat) : G T f (m + n) = G T f m + cnt (fun k => f ((m + k) % T)) n := by
  induction n with
  | zero => rfl
  | succ n ih =>
    rw [← Nat.add_assoc, G_succ T hT, ih]
    show _ = G T f m + (cnt _ n + _)
    rw [Nat.add_assoc]
theorem G_full (T : Nat) (hT : 0 < T) (f : Nat → Bool) (m : Nat) : G T f (m + T) = G T f m + cnt f T := by
  unfold G
  rw [Nat.add_div_right _ hT, Nat.add_mod_right, Nat.succ_mul]
  omega
theorem cnt_round (T : Nat) (hT : 0 < T) (f : Nat → Bool) (m : Nat) : cnt (fun k => f ((m + k) % T)) T = cnt f T := by
  have h1 := G_add T hT f m T
  have h2 := G_full T hT f m
  omega
theorem G_le (T : Nat) (f : Nat → Bool) (m : Nat) : G T f m ≤ m := by
  unfold G
  have h1 := cnt_le f T
  have h2 := cnt_le f (m % T)
  have h3 : m / T * cnt f T ≤ m / T * T := Nat.mul_le_mul_left _ h1
  have h4 := Nat.div_add_mod m T
  rw [Nat.mul_comm] at h4
  omega
/-- the next turn above tick -/
def nextFrom (f : Nat → Bool) (T tick : Nat) : Nat → Nat → Nat × Bool
  | 0, _ => (0, false)
  | d + 1, n => if 18446744073709551616 ≤ tick + n then (0, false) else if f ((tick + n) % T) = true then (tick + n, true) else nextFrom f T tick d (n + 1)
theorem nextFrom_cases (f : Nat → Bool) (T tick : Nat) : ∀ (d n : Nat), tick + n + d ≤ 18446744073709551616 →
    (nextFrom f T tick d n = (0, false) ∧ ∀ j, n ≤ j → j < n + d → f ((tick + j) % T) = false) ∨ (∃ j, n ≤ j ∧ j < n + d ∧ nextFrom f T tick d n = (tick + j, true) ∧ f ((tick + j) % T) = true ∧ ∀ i, n ≤ i → i < j → f ((tick + i) % T) = false) := by
  intro d
  induction d with
  | zero => intro n _; left; exact ⟨rfl, fun j h1 h2 => by omega⟩
  | succ d ih =>
    intro n h
    unfold nextFrom
    rw [if_neg (by omega)]
    by_cases hf : f ((tick + n) % T) = true
    · right; exact ⟨n, Nat.le_refl _, by omega, by rw [if_pos hf], hf, fun i h1 h2 => by omega⟩
    · rw [if_neg hf]
      rcases ih (n + 1) (by omega) with ⟨h1, h2⟩ | ⟨j, h1, h2, h3, h4, h5⟩
      · left
        refine ⟨h1, fun j hj hj' => ?_⟩
        by_cases e : j = n
        · subst e; simpa using hf
        · exact h2 j (by omega) (by omega)
      · right
        refine ⟨j, by omega, by omega, h3, h4, fun i hi hi' => ?_⟩
        by_cases e : i = n
        · subst e; simpa using hf
        · exact h5 i (by omega) hi'
/-- what a search among the windows' starts comes to -/
theorem place_search {T : Int} {ws : List Win} (hf : Fit T 0 ws) (k : Int) (r : Nat) (hr : r ≤ ws.length) (h1 : ∀ i (h : i < ws.length), i < r → ws[i].start ≤ k) (h2 : ∀ i (h : i < ws.length), r ≤ i → k < ws[i].start) :
    (r = 0 → place ws k = -1) ∧ (∀ j (h : j < ws.length), r = j + 1 → place ws k = if k < ws[j].start + ws[j].ticks then (j : Int) else -1) := by
  constructor
  · intro h
    subst h
    refine place_none fun i hi => ?_
    have := h2 i hi (by omega)
    simp [Win.holds]; omega
  · intro j hj h
    by_cases hk : k < ws[j].start + ws[j].ticks
    · rw [if_pos hk]
      refine place_eq hf hj ?_
      have := h1 j hj (by omega)
      simp [Win.holds]; omega
    · rw [if_neg hk]
      refine place_none fun i hi => ?_
      rcases Nat.lt_trichotomy i j with h' | h' | h'
      · have := fit_lt hf i j hj h'
        have h3 := (fit_get hf j hj).2.2.1
        have := h1 j hj (by omega)
        simp [Win.holds]; omega
      · subst h'
        simp [Win.holds]; omega
      · have := h2 i hi (by omega)
        simp [Win.holds]; omega
theorem place_lt (ws : List Win) (k : Int) : -1 ≤ place ws k ∧ place ws k < ws.length := by
  rcases place_cases ws k with ⟨h, _⟩ | ⟨i, hi, h, _⟩
  · rw [h]; omega
  · rw [h]; omega
theorem whose_ge {T lo : Int} {ws : List Win} (hf : Fit T lo ws) (k : Int) : -1 ≤ whose ws k ∧ whose ws k < 8 := by
  unfold whose
  rcases place_cases ws k with ⟨h, _⟩ | ⟨i, hi, h, _⟩
  · rw [h]; simp
  · rw [h, if_neg (show ¬ ((i : Int) < 0) by omega)]
    have := fit_get hf i hi
    simp only [Int.toNat_natCast, List.getD_eq_getElem?_getD, List.getElem?_eq_getElem hi, Option.getD_some]
    omega
/-- the shares of all together -/
def cnt8 (ws : List Win) (n : Nat) : Nat → Nat
  | 0 => 0
  | p + 1 => cnt8 ws n p + cnt (fun k => turnB ws p k) n
theorem cnt8_succ (ws : List Win) (n : Nat) : ∀ p : Nat, cnt8 ws (n + 1) p = cnt8 ws n p + (if 0 ≤ whose ws n ∧ whose ws n < (p : Int) then 1 else 0) := by
  intro p
  induction p with
  | zero => simp [cnt8]
  | succ p ih =>
    show cnt8 ws (n + 1) p + (cnt (fun k => turnB ws p k) n + (if turnB ws p n = true then 1 else 0)) = cnt8 ws n p + cnt (fun k => turnB ws p k) n + _
    rw [ih]
    by_cases h : whose ws n = (p : Int)
    · have h1 : turnB ws p n = true := by simp [turnB, h]
      rw [if_pos h1, if_neg (by omega), if_pos (by omega)]
      omega
    · have h1 : ¬ turnB ws p n = true := by simp [turnB, h]
      rw [if_neg h1]
      by_cases h2 : 0 ≤ whose ws n ∧ whose ws n < (p : Int)
      · rw [if_pos h2, if_pos (by omega)]; omega
      · rw [if_neg h2, if_neg (by omega)]; omega
theorem cnt8_le (ws : List Win) (p : Nat) : ∀ n, cnt8 ws n p ≤ n := by
  intro n
  induction n with
  | zero =>
    have : ∀ q, cnt8 ws 0 q = 0 := by intro q; induction q with | zero => rfl | succ q ih => show cnt8 ws 0 q + 0 = 0; omega
    rw [this]; exact Nat.le_refl _
  | succ n ih => rw [cnt8_succ]; split <;> omega
theorem none_out {T lo : Int} {ws : List Win} (hf : Fit T lo ws) (p : Int) (h : p < 0 ∨ 8 ≤ p) (n : Nat) : cnt (fun k => turnB ws p k) n = 0 :=
  cnt_zero _ _ fun k _ => by
    have := whose_ge hf k
    simp [turnB]; omega
end Nac.Table
