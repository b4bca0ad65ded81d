namespace Nac.Table
structure Win where
  part : Int
  start : Int
  ticks : Int
def oops : Win := ⟨0, 0, 0⟩

/-! the check, as the program goes -/
def chk (T : Int) : List Win → Int → Nat → Option (Nat × Nat)
  | [], _, _ => none
  | w :: ws, e, i =>
    if w.part < 0 ∨ 8 ≤ w.part ∨ w.ticks < 1 then some (1, i)
    else if w.start < 0 ∨ T - w.ticks < w.start then some (4, i)
    else if w.start < e then some (3, i)
    else chk T ws (w.start + w.ticks) (i + 1)
def check (T : Int) (ws : List Win) : Option (Nat × Nat) :=
  if T < 1 ∨ 256 < T ∨ 32 < ws.length then some (1, 0) else chk T ws 0 0
/-- the windows lie one behind the other, from 'lo' on, in T ticks -/
def Fit (T : Int) : Int → List Win → Prop
  | _, [] => True
  | lo, w :: ws => 0 ≤ w.part ∧ w.part < 8 ∧ 1 ≤ w.ticks ∧ lo ≤ w.start ∧ 0 ≤ w.start ∧ w.start + w.ticks ≤ T ∧ Fit T (w.start + w.ticks) ws
theorem fit_of_chk (T : Int) : ∀ (ws : List Win) (e : Int) (i : Nat), chk T ws e i = none → Fit T e ws := by
  intro ws
  induction ws with
  | nil => intro _ _ _; trivial
  | cons w ws ih =>
    intro e i h
    unfold chk at h
    by_cases h1 : w.part < 0 ∨ 8 ≤ w.part ∨ w.ticks < 1
    · rw [if_pos h1] at h; cases h
    rw [if_neg h1] at h
    by_cases h2 : w.start < 0 ∨ T - w.ticks < w.start
    · rw [if_pos h2] at h; cases h
    rw [if_neg h2] at h
    by_cases h3 : w.start < e
    · rw [if_pos h3] at h; cases h
    rw [if_neg h3] at h
    exact ⟨by omega, by omega, by omega, by omega, by omega, by omega, ih _ _ h⟩
theorem fit_mono {T : Int} : ∀ {ws : List Win} {lo lo' : Int}, lo' ≤ lo → Fit T lo ws → Fit T lo' ws := by
  intro ws lo lo' h hf
  cases ws with
  | nil => trivial
  | cons w ws => obtain ⟨a, b, c, d, e⟩ := hf; exact ⟨a, b, c, by omega, e⟩
theorem fit_get {T : Int} : ∀ {ws : List Win} {lo : Int}, Fit T lo ws → ∀ i (h : i < ws.length), 0 ≤ ws[i].part ∧ ws[i].part < 8 ∧ 1 ≤ ws[i].ticks ∧ lo ≤ ws[i].start ∧ 0 ≤ ws[i].start ∧ ws[i].start + ws[i].ticks ≤ T := by
  intro ws
  induction ws with
  | nil => intro lo _ i h; simp at h
  | cons w ws ih =>
    intro lo hf i h
    obtain ⟨a, b, c, d, e, f, g⟩ := hf
    cases i with
    | zero => exact ⟨a, b, c, d, e, f⟩
    | succ i =>
      have := ih g i (by simpa using h)
      simp only [List.getElem_cons_succ]
      omega
theorem fit_lt {T : Int} : ∀ {ws : List Win} {lo : Int}, Fit T lo ws → ∀ i j (hj : j < ws.length) (hi : i < j), ws[i].start + ws[i].ticks ≤ ws[j].start := by
  intro ws
  induction ws with
  | nil => intro lo _ i j h; simp at h
  | cons w ws ih =>
    intro lo hf i j hj hi
    obtain ⟨a, b, c, d, e, f, g⟩ := hf
    cases j with
    | zero => omega
    | succ j =>
      cases i with
      | zero =>
        have := fit_get g j (by simpa using hj)
        simp only [List.getElem_cons_succ, List.getElem_cons_zero]
        omega
      | succ i =>
        simp only [List.getElem_cons_succ]
        exact ih g i j (by simpa using hj) (by omega)
/-- does a window hold a place? -/
def Win.holds (w : Win) (k : Int) : Bool := decide (w.start ≤ k) && decide (k < w.start + w.ticks)
/-- the window that holds a place; -1: none -/
def place : List Win → Int → Int
  | [], _ => -1
  | w :: ws, k => if w.holds k then 0 else (let r := place ws k; if r < 0 then -1 else r + 1)
theorem place_cases (ws : List Win) (k : Int) : (place ws k = -1 ∧ ∀ i (h : i < ws.length), ws[i].holds k = false) ∨ ∃ i, ∃ h : i < ws.length, place ws k = (i : Int) ∧ ws[i].holds k = true := by
  induction ws with
  | nil => left; exact ⟨rfl, fun i h => by simp at h⟩
  | cons w ws ih =>
    unfold place
    by_cases hw : w.holds k = true
    · right; exact ⟨0, by simp, by simp [hw], hw⟩
    · rw [if_neg hw]
      rcases ih with ⟨h1, h2⟩ | ⟨i, hi, h1, h2⟩
      · left
        refine ⟨by simp [h1], fun i h => ?_⟩
        cases i with
        | zero => simpa using hw
        | succ i => exact h2 i (by simpa using h)
      · right
        refine ⟨i + 1, by simpa using hi, ?_, h2⟩
        simp only [h1]
        rw [if_neg (by omega)]
        omega
theorem holds_one {T lo : Int} {ws : List Win} (hf : Fit T lo ws) {k : Int} {i j : Nat} (hi : i < ws.length) (hj : j < ws.length) (a : ws[i].holds k = true) (b : ws[j].holds k = true) : i = j := by
  simp only [Win.holds, Bool.and_eq_true, decide_eq_true_eq] at a b
  rcases Nat.lt_trichotomy i j with h | h | h
  · have := fit_lt hf i j hj h; omega
  · exact h
  · have := fit_lt hf j i hi h; omega
theorem place_eq {T lo : Int} {ws : List Win} (hf : Fit T lo ws) {k : Int} {i : Nat} (hi : i < ws.length) (a : ws[i].holds k = true) : place ws k = (i : Int) := by
  rcases place_cases ws k with ⟨_, h⟩ | ⟨j, hj, e, h⟩
  · rw [h i hi] at a; cases a
  · rw [e, holds_one hf hi hj a h]
theorem place_none {ws : List Win} {k : Int} (h : ∀ i (hi : i < ws.length), ws[i].holds k = false) : place ws k = -1 := by
  rcases place_cases ws k with ⟨e, _⟩ | ⟨j, hj, _, a⟩
  · exact e
  · rw [h j hj] at a; cases a
/-- whose turn a place is; -1: nobody's -/
def whose (ws : List Win) (k : Int) : Int := if place ws k < 0 then -1 else (ws.getD (place ws k).toNat oops).part
/-! counts -/
def belowI : List Win → Int → Int → Int
  | [], _, _ => 0
  | w :: ws, p, k => (if w.part = p ∧ w.start < k then min w.ticks (k - w.start) else 0) + belowI ws p k
/-- so many places below a place are turns of p -/
def turnsTo (ws : List Win) (p : Int) : Nat → Int
  | 0 => 0
  | n + 1 => turnsTo ws p n + (if whose ws n = p then 1 else 0)
theorem belowI_zero {T lo : Int} : ∀ {ws : List Win} {lo : Int}, 0 ≤ lo → Fit T lo ws → ∀ p, belowI ws p 0 = 0 := by
  intro ws
  induction ws with
  | nil => intro _ _ _ _; rfl
  | cons w ws ih =>
    intro lo h0 hf p
    obtain ⟨a, b, c, d, e, f, g⟩ := hf
    unfold belowI
    rw [if_neg (by omega), ih (by omega) g p]; rfl
theorem whose_cons (w : Win) (ws : List Win) (k : Int) : whose (w :: ws) k = if w.holds k then w.part else whose ws k := by
  unfold whose
  rcases place_cases ws k with ⟨e, _⟩ | ⟨i, hi, e, _⟩
  · by_cases h : w.holds k = true
    · simp [place, h]
    · simp [place, h, e]
  · by_cases h : w.holds k = true
    · simp [place, h]
    · have h1 : ¬ ((i : Int) < 0) := by omega
      have h2 : ¬ ((i : Int) + 1 < 0) := by omega
      have h3 : ((i : Int) + 1).toNat = i + 1 := by omega
      simp [place, h, e, h1, h2, h3]
theorem whose_out {T : Int} : ∀ {ws : List Win} {lo : Int}, Fit T lo ws → ∀ k, k < lo → whose ws k = -1 := by
  intro ws
  induction ws with
  | nil => intro _ _ _ _; rfl
  | cons w ws ih =>
    intro lo hf k hk
    obtain ⟨a, b, c, d, e, f, g⟩ := hf
    rw [whose_cons, ih g k (by omega)]
    have : w.holds k = false := by simp [Win.holds]; omega
    simp [this]
theorem belowI_succ {T : Int} : ∀ {ws : List Win} {lo : Int}, Fit T lo ws → ∀ (p k : Int), 0 ≤ p → belowI ws p (k + 1) = belowI ws p k + (if whose ws k = p then 1 else 0) := by
  intro ws
  induction ws with
  | nil => intro _ _ p k hp; simp [belowI, whose, place]; omega
  | cons w ws ih =>
    intro lo hf p k hp
    obtain ⟨a, b, c, d, e, f, g⟩ := hf
    have := ih g p k hp
    rw [whose_cons]
    unfold belowI
    rw [this]
    by_cases hh : w.holds k = true
    · have h1 := hh
      simp only [Win.holds, Bool.and_eq_true, decide_eq_true_eq] at h1
      have ho := whose_out g k (by omega)
      simp only [hh, ho, if_true]
      rw [if_neg (show ¬ ((-1 : Int) = p) by omega)]
      by_cases hp1 : w.part = p
      · simp only [hp1, true_and, if_true]
        rw [if_pos (show w.start < k + 1 by omega)]
        by_cases h3 : w.start < k
        · rw [if_pos h3]; omega
        · rw [if_neg h3]; omega
      · simp [hp1]
    · have h1 := hh
      simp only [Win.holds, Bool.and_eq_true, decide_eq_true_eq] at h1
      simp only [hh, if_false, Bool.false_eq_true]
      by_cases hp1 : w.part = p
      · simp only [hp1, true_and]
        by_cases h3 : w.start < k
        · rw [if_pos h3, if_pos (by omega)]; omega
        · rw [if_neg h3, if_neg (by omega)]; omega
      · simp [hp1]
theorem below_eq {T : Int} {ws : List Win} (hf : Fit T 0 ws) (p : Int) (hp : 0 ≤ p) (n : Nat) : belowI ws p n = turnsTo ws p n := by
  induction n with
  | zero => exact belowI_zero (T := T) (lo := 0) (by omega) hf p
  | succ n ih =>
    show belowI ws p ((n : Int) + 1) = _
    rw [belowI_succ hf p n hp, ih]; rfl
end Nac.Table
