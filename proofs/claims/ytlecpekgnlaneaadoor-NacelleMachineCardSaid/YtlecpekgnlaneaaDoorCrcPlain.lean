namespace Nac.Crc
abbrev W32 := BitVec 32
def poly : W32 := 0x82f63b78#32
/-- one shift of the register -/
def step (r : W32) : W32 := (r >>> 1) ^^^ (if r.getLsbD 0 then poly else 0#32)
def steps : Nat → W32 → W32
  | 0, r => r
  | n + 1, r => steps n (step r)

theorem step_xor (a b : W32) : step (a ^^^ b) = step a ^^^ step b := by
  unfold step
  rw [BitVec.ushiftRight_xor_distrib, BitVec.getLsbD_xor]
  cases ha : a.getLsbD 0 <;> cases hb : b.getLsbD 0 <;> simp
  · ac_rfl
  · ac_rfl
  · have : (a >>> 1 ^^^ poly) ^^^ (b >>> 1 ^^^ poly) = (a >>> 1 ^^^ b >>> 1) ^^^ (poly ^^^ poly) := by ac_rfl
    rw [this, BitVec.xor_self, BitVec.xor_zero]
theorem step_zero : step 0#32 = 0#32 := by decide
theorem steps_xor (n : Nat) : ∀ a b : W32, steps n (a ^^^ b) = steps n a ^^^ steps n b := by
  induction n with
  | zero => intro a b; rfl
  | succ n ih => intro a b; simp only [steps, step_xor, ih]
theorem steps_zero (n : Nat) : steps n 0#32 = 0#32 := by
  induction n with
  | zero => rfl
  | succ n ih => simp only [steps, step_zero, ih]
theorem steps_add (n m : Nat) : ∀ r, steps (n + m) r = steps m (steps n r) := by
  induction n with
  | zero => intro r; simp [steps]
  | succ n ih => intro r; rw [show n + 1 + m = (n + m) + 1 by omega]; simp only [steps, ih]

/-- a register that loses no one bit is halved -/
theorem steps_shift (n : Nat) : ∀ r : W32, (∀ i, i < n → r.getLsbD i = false) → steps n r = r >>> n := by
  induction n with
  | zero => intro r _; simp [steps]
  | succ n ih =>
    intro r h
    have h0 : step r = r >>> 1 := by unfold step; rw [h 0 (by omega)]; simp
    have := ih (r >>> 1) (fun i hi => by rw [BitVec.getLsbD_ushiftRight]; exact h _ (by omega))
    simp only [steps, h0, this]
    rw [← BitVec.shiftRight_add, Nat.add_comm]

theorem step_inj0 (r : W32) (h : step r = 0#32) : r = 0#32 := by
  unfold step at h
  cases hr : r.getLsbD 0
  · rw [hr] at h
    simp at h
    apply BitVec.eq_of_getLsbD_eq
    intro i hi
    cases i with
    | zero => rw [hr]; simp
    | succ i =>
      have := congrArg (fun x : W32 => x.getLsbD i) h
      simp only [BitVec.getLsbD_ushiftRight] at this
      rw [Nat.add_comm i 1, this]; simp
  · rw [hr] at h
    have := congrArg (fun x : W32 => x.getLsbD 31) h
    simp [poly] at this
theorem steps_inj0 (n : Nat) : ∀ r : W32, steps n r = 0#32 → r = 0#32 := by
  induction n with
  | zero => intro r h; exact h
  | succ n ih => intro r h; exact step_inj0 r (ih _ h)

/-- the table of four shifts -/
def table : List Nat := [0, 274646895, 549293790, 820201905, 1098587580, 1361435347, 1640403810, 1905808397, 2197175160, 2460548119, 2722870694, 2987750089, 3280807620, 3553878443, 3811616794, 4084100981]
theorem table_eq : ∀ k : Fin 16, BitVec.ofNat 32 (table.getD k.val 0) = steps 4 (BitVec.ofNat 32 k.val) := by decide
theorem table_lt : ∀ k : Fin 16, table.getD k.val 0 < 4294967296 := by decide

theorem split16 (r : W32) : r = (r &&& ~~~ 15#32) ^^^ (r &&& 15#32) := by
  apply BitVec.eq_of_getLsbD_eq
  intro i hi
  simp only [BitVec.getLsbD_xor, BitVec.getLsbD_and, BitVec.getLsbD_not]
  cases r.getLsbD i <;> cases (15#32).getLsbD i <;> simp [hi]
theorem shift_low (r : W32) : (r &&& ~~~ 15#32) >>> 4 = r >>> 4 := by
  apply BitVec.eq_of_getLsbD_eq
  intro i hi
  simp only [BitVec.getLsbD_ushiftRight, BitVec.getLsbD_and, BitVec.getLsbD_not]
  have h15 : (15#32).getLsbD (4 + i) = false := by
    apply Nat.testBit_lt_two_pow
    exact Nat.lt_of_lt_of_le (show 15 < 2 ^ 4 by decide) (Nat.pow_le_pow_right (by decide) (by omega))
  rw [h15]
  by_cases h : 4 + i < 32
  · simp [h]
  · rw [BitVec.getLsbD_of_ge r _ (by omega)]; simp
theorem low_bits (r : W32) (i : Nat) (hi : i < 4) : (r &&& ~~~ 15#32).getLsbD i = false := by
  have h : (~~~ 15#32).getLsbD i = false := by
    have : i = 0 ∨ i = 1 ∨ i = 2 ∨ i = 3 := by omega
    rcases this with rfl | rfl | rfl | rfl <;> decide
  rw [BitVec.getLsbD_and, h, Bool.and_false]

theorem and15_lt (r : W32) : (r &&& 15#32).toNat < 16 := by
  rw [BitVec.toNat_and]
  exact Nat.lt_of_le_of_lt Nat.and_le_right (by decide)

/-- four shifts, by the table -/
def nib (r : W32) : W32 := (r >>> 4) ^^^ BitVec.ofNat 32 (table.getD (r &&& 15#32).toNat 0)
theorem nib_eq (r : W32) : nib r = steps 4 r := by
  have h1 : steps 4 r = steps 4 (r &&& ~~~ 15#32) ^^^ steps 4 (r &&& 15#32) := by
    rw [← steps_xor, ← split16]
  rw [h1, steps_shift 4 _ (low_bits r), shift_low]
  unfold nib
  congr 1
  have h := table_eq ⟨(r &&& 15#32).toNat, and15_lt r⟩
  simp only [BitVec.ofNat_toNat] at h
  simpa using h

def wide (x : UInt8) : W32 := BitVec.ofNat 32 x.toNat
/-- a byte into the register -/
def feed (r : W32) (x : UInt8) : W32 := steps 8 (r ^^^ wide x)
theorem feed_nib (r : W32) (x : UInt8) : nib (nib (r ^^^ wide x)) = feed r x := by
  rw [nib_eq, nib_eq, ← steps_add]; rfl

def reg (r : W32) (l : List UInt8) : W32 := l.foldl feed r
theorem reg_nil (r : W32) : reg r [] = r := rfl
theorem reg_cons (r : W32) (x : UInt8) (l : List UInt8) : reg r (x :: l) = reg (feed r x) l := rfl
theorem reg_append (r : W32) (l m : List UInt8) : reg r (l ++ m) = reg (reg r l) m := by simp [reg]
theorem reg_snoc (r : W32) (l : List UInt8) (x : UInt8) : reg r (l ++ [x]) = feed (reg r l) x := by simp [reg]

def on (sum : W32) (l : List UInt8) : W32 := ~~~ reg (~~~ sum) l
def of (l : List UInt8) : W32 := on 0#32 l
theorem on_append (s : W32) (l m : List UInt8) : on s (l ++ m) = on (on s l) m := by
  unfold on; rw [reg_append]; simp

/-- bit by bit, as the reference feeds a bit -/
def feedBit (r : W32) (bit : Bool) : W32 := (r >>> 1) ^^^ (if r.getLsbD 0 ^^ bit then poly else 0#32)
theorem feedBit_eq (r : W32) (bit : Bool) : feedBit r bit = step (r ^^^ (if bit then 1#32 else 0#32)) := by
  unfold feedBit step
  rw [BitVec.ushiftRight_xor_distrib, BitVec.getLsbD_xor]
  cases bit <;> simp
def feedBits (r : W32) (x : UInt8) : Nat → W32
  | 0 => r
  | k + 1 => feedBit (feedBits r x k) (x.toNat.testBit k)
theorem feedBits_lin (r : W32) (x : UInt8) (k : Nat) : feedBits r x k = steps k r ^^^ feedBits 0#32 x k := by
  induction k with
  | zero => simp [feedBits, steps]
  | succ k ih =>
    simp only [feedBits]
    rw [ih, feedBit_eq, feedBit_eq, BitVec.xor_assoc, step_xor]
    congr 1
    rw [steps_add k 1]; rfl
theorem feedBits_zero : ∀ n : Fin 256, feedBits 0#32 (UInt8.ofNat n.val) 8 = steps 8 (BitVec.ofNat 32 n.val) := by decide +kernel
theorem feedBits_eq (r : W32) (x : UInt8) : feedBits r x 8 = feed r x := by
  rw [feedBits_lin]
  have h := feedBits_zero ⟨x.toNat, x.toNat_lt⟩
  simp only [UInt8.ofNat_toNat] at h
  rw [h]
  unfold feed wide
  rw [steps_xor]

/-! linearity in the bytes -/
theorem wide_xor (x y : UInt8) : wide (x ^^^ y) = wide x ^^^ wide y := by
  unfold wide
  apply BitVec.eq_of_toNat_eq
  have := x.toNat_lt
  have := y.toNat_lt
  rw [BitVec.toNat_xor, BitVec.toNat_ofNat, BitVec.toNat_ofNat, BitVec.toNat_ofNat, UInt8.toNat_xor, Nat.mod_eq_of_lt, Nat.mod_eq_of_lt, Nat.mod_eq_of_lt] <;> first | omega | skip
  have : x.toNat ^^^ y.toNat < 2 ^ 8 := Nat.xor_lt_two_pow (by omega) (by omega)
  omega
theorem feed_xor (r s : W32) (x y : UInt8) : feed (r ^^^ s) (x ^^^ y) = feed r x ^^^ feed s y := by
  unfold feed
  rw [← steps_xor, wide_xor]
  congr 1
  ac_rfl
theorem reg_xor (l : List UInt8) : ∀ (m : List UInt8) (r s : W32), l.length = m.length → reg (r ^^^ s) (List.zipWith (· ^^^ ·) l m) = reg r l ^^^ reg s m := by
  induction l with
  | nil => intro m r s h; cases m with | nil => rfl | cons => simp at h
  | cons x l ih =>
    intro m r s h
    cases m with
    | nil => simp at h
    | cons y m => simp only [List.zipWith_cons_cons, reg_cons, feed_xor]; exact ih m _ _ (by simpa using h)

/-! numbers in bytes, the least significant one first -/
def le : List UInt8 → Nat
  | [] => 0
  | x :: l => x.toNat + 256 * le l
def lbs : Nat → Nat → List UInt8
  | _, 0 => []
  | n, k + 1 => UInt8.ofNat n :: lbs (n / 256) k
theorem lbs_length (k : Nat) : ∀ n, (lbs n k).length = k := by
  induction k with
  | zero => intro n; rfl
  | succ k ih => intro n; simp [lbs, ih]
theorem le_lbs (k : Nat) : ∀ n, le (lbs n k) = n % 256 ^ k := by
  induction k with
  | zero => intro n; simp [lbs, le, Nat.mod_one]
  | succ k ih =>
    intro n
    simp only [lbs, le, ih]
    rw [Nat.pow_succ, Nat.mul_comm (256 ^ k) 256, Nat.mod_mul]
    simp
theorem le_lt (l : List UInt8) : le l < 256 ^ l.length := by
  induction l with
  | nil => simp [le]
  | cons x l ih =>
    have := x.toNat_lt
    simp only [le, List.length_cons, Nat.pow_succ]
    omega
theorem lbs_le (l : List UInt8) : lbs (le l) l.length = l := by
  induction l with
  | nil => rfl
  | cons x l ih =>
    have hx := x.toNat_lt
    simp only [le, List.length_cons, lbs]
    have h1 : (x.toNat + 256 * le l) / 256 = le l := by omega
    rw [h1, ih]
    congr 1
    apply UInt8.toNat_inj.1
    rw [UInt8.toNat_ofNat']
    omega

theorem wide_steps (x : UInt8) (k : Nat) (hk : k ≤ 24) : steps k (wide x <<< k) = wide x := by
  rw [steps_shift]
  · apply BitVec.eq_of_getLsbD_eq
    intro i hi
    simp only [BitVec.getLsbD_ushiftRight, BitVec.getLsbD_shiftLeft]
    by_cases h : k + i < 32
    · simp [h, show ¬ (k + i < k) by omega]
    · simp only [h, decide_false, Bool.false_and]
      unfold wide
      rw [BitVec.getLsbD_ofNat]
      have hx := x.toNat_lt
      rw [Nat.testBit_lt_two_pow (Nat.lt_of_lt_of_le hx (Nat.pow_le_pow_right (n := 2) (by decide) (show 8 ≤ i by omega)))]
      simp
  · intro i hi
    simp [BitVec.getLsbD_shiftLeft, hi]
attribute [local irreducible] steps
/-- four bytes into the register, at once -/
def word (a b c d : UInt8) : W32 := wide a ^^^ wide b <<< 8 ^^^ wide c <<< 16 ^^^ wide d <<< 24
theorem reg_four (r : W32) (a b c d : UInt8) : reg r [a, b, c, d] = steps 32 (r ^^^ word a b c d) := by
  have hf (r : W32) (x : UInt8) : feed r x = steps 8 (r ^^^ wide x) := rfl
  rw [reg_cons, reg_cons, reg_cons, reg_cons, reg_nil, hf, hf, hf, hf]
  have hb := wide_steps b 8 (by decide)
  have hc := wide_steps c 16 (by decide)
  have hd := wide_steps d 24 (by decide)
  have e1 : steps 8 (r ^^^ wide a) ^^^ wide b = steps 8 (r ^^^ wide a ^^^ wide b <<< 8) := by rw [steps_xor 8 (r ^^^ wide a), hb]
  rw [e1, ← steps_add]
  have e2 : steps 16 (r ^^^ wide a ^^^ wide b <<< 8) ^^^ wide c = steps 16 (r ^^^ wide a ^^^ wide b <<< 8 ^^^ wide c <<< 16) := by rw [steps_xor 16 (r ^^^ wide a ^^^ wide b <<< 8), hc]
  rw [e2, ← steps_add]
  have e3 : steps 24 (r ^^^ wide a ^^^ wide b <<< 8 ^^^ wide c <<< 16) ^^^ wide d = steps 24 (r ^^^ wide a ^^^ wide b <<< 8 ^^^ wide c <<< 16 ^^^ wide d <<< 24) := by
    rw [steps_xor 24 (r ^^^ wide a ^^^ wide b <<< 8 ^^^ wide c <<< 16), hd]
  rw [e3, ← steps_add]
  unfold word
  simp only [BitVec.xor_assoc]
theorem xor_add (k x n : Nat) (h : x < 2 ^ k) : x ^^^ (2 ^ k * n) = x + 2 ^ k * n := by
  apply Nat.eq_of_testBit_eq
  intro i
  rw [Nat.testBit_xor, Nat.add_comm, Nat.testBit_two_pow_mul_add n h, Nat.testBit_two_pow_mul]
  by_cases hi : i < k
  · simp [hi, show ¬ k ≤ i by omega]
  · rw [Nat.testBit_lt_two_pow (Nat.lt_of_lt_of_le h (Nat.pow_le_pow_right (by decide) (show k ≤ i by omega)))]
    simp [hi, show k ≤ i by omega]
theorem word_le (a b c d : UInt8) : word a b c d = BitVec.ofNat 32 (le [a, b, c, d]) := by
  have ha := a.toNat_lt
  have hb := b.toNat_lt
  have hc := c.toNat_lt
  have hd := d.toNat_lt
  unfold word wide
  simp only [le]
  apply BitVec.eq_of_toNat_eq
  simp only [BitVec.toNat_xor, BitVec.toNat_shiftLeft, BitVec.toNat_ofNat]
  have m (x : UInt8) : x.toNat % 2 ^ 32 = x.toNat := Nat.mod_eq_of_lt (by have := x.toNat_lt; omega)
  simp only [m]
  have s1 : b.toNat <<< 8 % 2 ^ 32 = b.toNat * 256 := by rw [Nat.shiftLeft_eq]; omega
  have s2 : c.toNat <<< 16 % 2 ^ 32 = c.toNat * 65536 := by rw [Nat.shiftLeft_eq]; omega
  have s3 : d.toNat <<< 24 % 2 ^ 32 = d.toNat * 16777216 := by rw [Nat.shiftLeft_eq]; omega
  rw [s1, s2, s3]
  have x1 := xor_add 8 a.toNat b.toNat (by omega)
  have x2 := xor_add 16 (a.toNat + 2 ^ 8 * b.toNat) c.toNat (by omega)
  have x3 := xor_add 24 (a.toNat + 2 ^ 8 * b.toNat + 2 ^ 16 * c.toNat) d.toNat (by omega)
  rw [Nat.mul_comm b.toNat, show 256 = 2 ^ 8 from rfl, x1, Nat.mul_comm c.toNat, show 65536 = 2 ^ 16 from rfl, x2, Nat.mul_comm d.toNat, show 16777216 = 2 ^ 24 from rfl, x3]
  omega

/-- do the last four bytes check the others? -/
def good (l : List UInt8) : Bool := le (l.drop (l.length - 4)) == (of (l.take (l.length - 4))).toNat
def ones : W32 := 0xffffffff#32
theorem len4 (t : List UInt8) (h : t.length = 4) : ∃ a b c d, t = [a, b, c, d] := by
  match t, h with
  | [a, b, c, d], _ => exact ⟨a, b, c, d, rfl⟩
theorem good_iff (l : List UInt8) (h : 4 ≤ l.length) : good l = true ↔ reg ones l = steps 32 ones := by
  have hl : l = l.take (l.length - 4) ++ l.drop (l.length - 4) := (List.take_append_drop _ _).symm
  obtain ⟨a, b, c, d, ht⟩ := len4 (l.drop (l.length - 4)) (by simp; omega)
  have hr : reg ones l = steps 32 (reg ones (l.take (l.length - 4)) ^^^ word a b c d) := by
    rw [← reg_four, ← ht, ← reg_append, ← hl]
  have hof : of (l.take (l.length - 4)) = ~~~ reg ones (l.take (l.length - 4)) := rfl
  unfold good
  rw [hr, hof, ht, beq_iff_eq]
  generalize reg ones (l.take (l.length - 4)) = R
  have hlt : le [a, b, c, d] < 4294967296 := by have h := le_lt [a, b, c, d]; simp only [List.length_cons, List.length_nil, Nat.reduceAdd, Nat.reducePow] at h; exact h
  constructor
  · intro e
    congr 1
    rw [word_le, e, BitVec.ofNat_toNat]
    simp only [BitVec.setWidth_eq]
    rw [show ones = BitVec.allOnes 32 from rfl]
    apply BitVec.eq_of_getLsbD_eq
    intro i hi
    simp only [BitVec.getLsbD_xor, BitVec.getLsbD_not, BitVec.getLsbD_allOnes, hi]
    cases R.getLsbD i <;> rfl
  · intro e
    have e0 : R ^^^ word a b c d ^^^ ones = 0#32 := steps_inj0 32 _ (by rw [steps_xor, e, BitVec.xor_self])
    have e1 : word a b c d = ~~~ R := by
      have : word a b c d = R ^^^ ones ^^^ (R ^^^ word a b c d ^^^ ones) := by
        apply BitVec.eq_of_getLsbD_eq
        intro i hi
        simp only [BitVec.getLsbD_xor]
        cases R.getLsbD i <;> cases (word a b c d).getLsbD i <;> cases ones.getLsbD i <;> rfl
      rw [this, e0, BitVec.xor_zero, show ones = BitVec.allOnes 32 from rfl, BitVec.xor_allOnes]
    rw [← e1, word_le, BitVec.toNat_ofNat, Nat.mod_eq_of_lt (by omega)]

/-! up to 32 neighbouring bits -/
theorem reg_zeros (n : Nat) : reg 0#32 (List.replicate n 0) = 0#32 := by
  induction n with
  | zero => rfl
  | succ n ih =>
    rw [List.replicate_succ, reg_cons]
    have : feed 0#32 0 = 0#32 := by
      show steps 8 (0#32 ^^^ wide 0) = 0#32
      rw [show (0#32 ^^^ wide 0) = 0#32 from by decide, steps_zero]
    rw [this, ih]
theorem reg_zeros_inj (n : Nat) : ∀ r : W32, reg r (List.replicate n 0) = 0#32 → r = 0#32 := by
  induction n with
  | zero => intro r h; exact h
  | succ n ih =>
    intro r h
    rw [List.replicate_succ, reg_cons] at h
    have h1 : steps 8 (r ^^^ wide 0) = 0#32 := ih _ h
    have h2 := steps_inj0 8 _ h1
    rwa [show wide 0 = 0#32 from by decide, BitVec.xor_zero] at h2

/-- byte i of bits that begin at bit j of the first one -/
def burst (bits j i : Nat) : UInt8 := UInt8.ofNat (bits * 2 ^ j / 256 ^ i)
theorem burst_word (bits j : Nat) (hb : bits < 4294967296) :
    word (burst bits j 0) (burst bits j 1) (burst bits j 2) (burst bits j 3) = BitVec.ofNat 32 bits <<< j := by
  rw [word_le]
  apply BitVec.eq_of_toNat_eq
  rw [BitVec.toNat_shiftLeft, BitVec.toNat_ofNat, BitVec.toNat_ofNat, Nat.shiftLeft_eq]
  simp only [le, burst, UInt8.toNat_ofNat']
  generalize hV : bits * 2 ^ j = V
  rw [Nat.mod_eq_of_lt hb, hV]
  omega
theorem reg_burst (bits j : Nat) (hb : bits < 4294967296) (hj : j < 8) :
    reg 0#32 [burst bits j 0, burst bits j 1, burst bits j 2, burst bits j 3, burst bits j 4] = steps (40 - j) (BitVec.ofNat 32 bits) := by
  have e : [burst bits j 0, burst bits j 1, burst bits j 2, burst bits j 3, burst bits j 4] = [burst bits j 0, burst bits j 1, burst bits j 2, burst bits j 3] ++ [burst bits j 4] := rfl
  rw [e, reg_append, reg_four, burst_word bits j hb, BitVec.zero_xor]
  show steps 8 (steps 32 _ ^^^ wide _) = _
  rw [steps_xor, ← steps_add]
  -- the bits that stay, and those that go over into the fifth byte
  have h4 : wide (burst bits j 4) = BitVec.ofNat 32 bits >>> (32 - j) := by
    unfold wide burst
    apply BitVec.eq_of_toNat_eq
    rw [BitVec.toNat_ushiftRight, BitVec.toNat_ofNat, BitVec.toNat_ofNat, UInt8.toNat_ofNat', Nat.shiftRight_eq_div_pow, Nat.mod_eq_of_lt (a := bits) hb]
    have h32 : (256 : Nat) ^ 4 = 2 ^ j * 2 ^ (32 - j) := by rw [← Nat.pow_add, show j + (32 - j) = 32 by omega]
    rw [h32, Nat.mul_comm bits, Nat.mul_div_mul_left _ _ (Nat.two_pow_pos j)]
    have h2 : bits / 2 ^ (32 - j) < 256 := by
      rw [Nat.div_lt_iff_lt_mul (Nat.two_pow_pos _)]
      have : (2 : Nat) ^ 24 ≤ 2 ^ (32 - j) := Nat.pow_le_pow_right (by decide) (by omega)
      omega
    rw [Nat.mod_eq_of_lt h2, Nat.mod_eq_of_lt (by omega)]
  have hlow : steps j (BitVec.ofNat 32 bits <<< j) = (BitVec.ofNat 32 bits <<< j) >>> j :=
    steps_shift j _ (fun i hi => by rw [BitVec.getLsbD_shiftLeft]; simp [hi])
  have hhigh : steps (32 - j) ((BitVec.ofNat 32 bits >>> (32 - j)) <<< (32 - j)) = BitVec.ofNat 32 bits >>> (32 - j) := by
    rw [steps_shift (32 - j) _ (fun i hi => by rw [BitVec.getLsbD_shiftLeft]; simp [hi])]
    apply BitVec.eq_of_getLsbD_eq
    intro i hi
    simp only [BitVec.getLsbD_ushiftRight, BitVec.getLsbD_shiftLeft]
    by_cases h : 32 - j + i < 32
    · simp [h, show ¬ (32 - j + i < 32 - j) by omega]
    · rw [BitVec.getLsbD_of_ge (BitVec.ofNat 32 bits) (32 - j + i) (by omega)]
      simp [h]
  have hsplit : BitVec.ofNat 32 bits = (BitVec.ofNat 32 bits <<< j) >>> j ^^^ (BitVec.ofNat 32 bits >>> (32 - j)) <<< (32 - j) := by
    apply BitVec.eq_of_getLsbD_eq
    intro i hi
    simp only [BitVec.getLsbD_xor, BitVec.getLsbD_ushiftRight, BitVec.getLsbD_shiftLeft]
    by_cases h : i < 32 - j
    · simp [h, show j + i < 32 by omega, show ¬ (j + i < j) by omega]
    · simp [h, show ¬ (j + i < 32) by omega, show 32 - j + (i - (32 - j)) = i by omega, hi]
  conv => rhs; rw [hsplit, steps_xor, ← hlow, ← steps_add]
  rw [show j + (40 - j) = 32 + 8 by omega, h4]
  congr 1
  rw [show 40 - j = (32 - j) + 8 by omega, steps_add, hhigh]

/-- ONE BURST INTO SEALED BYTES: they check no more. 'd': what is turned over. -/
theorem burst_found (s d : List UInt8) (h4 : 4 ≤ s.length) (hd : s.length = d.length) (hs : good s = true) (at_ : Nat) (bits j : Nat) (hj : j < 8) (hb : bits < 4294967296)
    (hne : bits ≠ 0) (tail : Nat) (he : d = List.replicate at_ 0 ++ [burst bits j 0, burst bits j 1, burst bits j 2, burst bits j 3, burst bits j 4] ++ List.replicate tail 0) :
    good (List.zipWith (· ^^^ ·) s d) = false := by
  rw [← Bool.not_eq_true, good_iff _ (by simp; omega)]
  intro hg
  have hs' := (good_iff s h4).1 hs
  have hx := reg_xor s d ones 0#32 hd
  rw [BitVec.xor_zero, hg, hs'] at hx
  have h0 : reg 0#32 d = 0#32 := by
    have : reg 0#32 d = steps 32 ones ^^^ (steps 32 ones ^^^ reg 0#32 d) := by rw [← BitVec.xor_assoc, BitVec.xor_self, BitVec.zero_xor]
    rw [this, ← hx, BitVec.xor_self]
  rw [he, reg_append, reg_append, reg_zeros, reg_burst bits j hb hj] at h0
  have h1 := steps_inj0 _ _ (reg_zeros_inj tail _ h0)
  have h2 := congrArg BitVec.toNat h1
  rw [BitVec.toNat_ofNat, Nat.mod_eq_of_lt (by omega)] at h2
  exact hne (by simpa using h2)
theorem burst_found4 (s d : List UInt8) (h4 : 4 ≤ s.length) (hd : s.length = d.length) (hs : good s = true) (at_ : Nat) (bits : Nat) (hb : bits < 4294967296)
    (hne : bits ≠ 0) (he : d = List.replicate at_ 0 ++ [burst bits 0 0, burst bits 0 1, burst bits 0 2, burst bits 0 3]) :
    good (List.zipWith (· ^^^ ·) s d) = false := by
  rw [← Bool.not_eq_true, good_iff _ (by simp; omega)]
  intro hg
  have hs' := (good_iff s h4).1 hs
  have hx := reg_xor s d ones 0#32 hd
  rw [BitVec.xor_zero, hg, hs'] at hx
  have h0 : reg 0#32 d = 0#32 := by
    have : reg 0#32 d = steps 32 ones ^^^ (steps 32 ones ^^^ reg 0#32 d) := by rw [← BitVec.xor_assoc, BitVec.xor_self, BitVec.zero_xor]
    rw [this, ← hx, BitVec.xor_self]
  rw [he, reg_append, reg_zeros, reg_four, burst_word bits 0 hb, BitVec.zero_xor, BitVec.shiftLeft_zero] at h0
  have h1 := steps_inj0 _ _ h0
  have h2 := congrArg BitVec.toNat h1
  rw [BitVec.toNat_ofNat, Nat.mod_eq_of_lt (by omega)] at h2
  exact hne (by simpa using h2)
theorem good_seal (b : List UInt8) : good (b ++ lbs (of b).toNat 4) = true := by
  unfold good
  have hl : (b ++ lbs (of b).toNat 4).length - 4 = b.length := by simp [lbs_length]
  rw [hl, List.drop_left, List.take_left, le_lbs, beq_iff_eq, Nat.mod_eq_of_lt]
  exact (of b).isLt
end Nac.Crc
