/- Bundle 2 of the texts GramPlain, GramPlain2, GramPlain3, GSet, GEq, GSet2, GSet3. -/
import Derived.WalkKit
import Derived.Test.YtiebpmpjclnpeaaDoorGb1
import Derived.Laws.Bits64b
import Derived.Laws.StructEq
import Derived.ChangeKeysEq
/- Grammars of messages: what a form derives, that a stack machine that chooses by first bytes is sound, and that it ends. No program in sight. -/
namespace Nac.Gram
structure Sgn where
  name : Int
  low : Nat
  high : Nat
instance : Inhabited Sgn := ⟨⟨0, 0, 0⟩⟩
structure Frm where
  name : Nat
  body : List Sgn
instance : Inhabited Frm := ⟨⟨0, []⟩⟩
/-- what a list of signs derives -/
inductive DB (G : List Frm) : List Sgn → List Nat → Prop
  | nil : DB G [] []
  | byte {x : Sgn} {l : List Sgn} {c : Nat} {t : List Nat} : x.name < 0 → x.low ≤ c → c ≤ x.high → DB G l t → DB G (x :: l) (c :: t)
  | name {x : Sgn} {l : List Sgn} {f : Frm} {s t : List Nat} : 0 ≤ x.name → f ∈ G → (f.name : Int) = x.name → DB G f.body s → DB G l t → DB G (x :: l) (s ++ t)
theorem DB.split {G : List Frm} : ∀ {a b : List Sgn} {s : List Nat}, DB G (a ++ b) s → ∃ s1 s2, s = s1 ++ s2 ∧ DB G a s1 ∧ DB G b s2
  | [], _, s, h => ⟨[], s, rfl, .nil, h⟩
  | x :: a, b, s, h => by
    cases h with
    | byte h1 h2 h3 h4 =>
      obtain ⟨s1, s2, rfl, h5, h6⟩ := h4.split
      exact ⟨_ :: s1, s2, rfl, .byte h1 h2 h3 h5, h6⟩
    | name h1 h2 h3 h4 h5 =>
      obtain ⟨s1, s2, rfl, h6, h7⟩ := h5.split
      exact ⟨_ ++ s1, s2, by rw [List.append_assoc], .name h1 h2 h3 h4 h6, h7⟩
/-- four words: a set of bytes -/
structure S4 where
  a : Nat
  b : Nat
  c : Nat
  d : Nat
  deriving DecidableEq
def S4.zero : S4 := ⟨0, 0, 0, 0⟩
instance : Inhabited S4 := ⟨S4.zero⟩
def S4.word (s : S4) : Nat → Nat
  | 0 => s.a
  | 1 => s.b
  | 2 => s.c
  | _ => s.d
def S4.has (s : S4) (c : Nat) : Bool := (s.word (c / 64)).testBit (c % 64)
def S4.or (s t : S4) : S4 := ⟨s.a ||| t.a, s.b ||| t.b, s.c ||| t.c, s.d ||| t.d⟩
def S4.and (s t : S4) : S4 := ⟨s.a &&& t.a, s.b &&& t.b, s.c &&& t.c, s.d &&& t.d⟩
def S4.ok (s : S4) : Prop := s.a < 2 ^ 64 ∧ s.b < 2 ^ 64 ∧ s.c < 2 ^ 64 ∧ s.d < 2 ^ 64
theorem S4.word_or (s t : S4) (i : Nat) : (s.or t).word i = s.word i ||| t.word i := by
  match i with
  | 0 | 1 | 2 => rfl
  | n + 3 => rfl
theorem S4.word_and (s t : S4) (i : Nat) : (s.and t).word i = s.word i &&& t.word i := by
  match i with
  | 0 | 1 | 2 => rfl
  | n + 3 => rfl
theorem S4.has_or (s t : S4) (c : Nat) : (s.or t).has c = (s.has c || t.has c) := by
  unfold S4.has
  rw [S4.word_or, Nat.testBit_or]
theorem S4.has_and (s t : S4) (c : Nat) : (s.and t).has c = (s.has c && t.has c) := by
  unfold S4.has
  rw [S4.word_and, Nat.testBit_and]
theorem S4.has_zero (c : Nat) : S4.zero.has c = false := by
  unfold S4.has
  have : S4.zero.word (c / 64) = 0 := by
    match c / 64 with
    | 0 | 1 | 2 => rfl
    | n + 3 => rfl
  rw [this, Nat.zero_testBit]
theorem S4.ok_zero : S4.zero.ok := ⟨by decide, by decide, by decide, by decide⟩
theorem S4.ok_or {s t : S4} (hs : s.ok) (ht : t.ok) : (s.or t).ok := ⟨Nat.or_lt_two_pow hs.1 ht.1, Nat.or_lt_two_pow hs.2.1 ht.2.1, Nat.or_lt_two_pow hs.2.2.1 ht.2.2.1, Nat.or_lt_two_pow hs.2.2.2 ht.2.2.2⟩
theorem S4.ok_and {s t : S4} (hs : s.ok) : (s.and t).ok := ⟨Nat.lt_of_le_of_lt Nat.and_le_left hs.1, Nat.lt_of_le_of_lt Nat.and_le_left hs.2.1, Nat.lt_of_le_of_lt Nat.and_le_left hs.2.2.1, Nat.lt_of_le_of_lt Nat.and_le_left hs.2.2.2⟩
theorem word_eq {x y : Nat} (hx : x < 2 ^ 64) (hy : y < 2 ^ 64) (h : ∀ i, i < 64 → x.testBit i = y.testBit i) : x = y := by
  refine Nat.eq_of_testBit_eq fun i => ?_
  by_cases hi : i < 64
  · exact h i hi
  · rw [Nat.testBit_lt_two_pow (Nat.lt_of_lt_of_le hx (Nat.pow_le_pow_right (by decide) (by omega))), Nat.testBit_lt_two_pow (Nat.lt_of_lt_of_le hy (Nat.pow_le_pow_right (by decide) (by omega)))]
theorem S4.ext_has {s t : S4} (hs : s.ok) (ht : t.ok) (h : ∀ c, c < 256 → s.has c = t.has c) : s = t := by
  obtain ⟨a, b, c, d⟩ := s
  obtain ⟨a', b', c', d'⟩ := t
  obtain ⟨h1, h2, h3, h4⟩ := hs
  obtain ⟨g1, g2, g3, g4⟩ := ht
  have k : ∀ q i, q < 4 → i < 64 → (S4.word ⟨a, b, c, d⟩ q).testBit i = (S4.word ⟨a', b', c', d'⟩ q).testBit i := fun q i hq hi => by
    have := h (q * 64 + i) (by omega)
    unfold S4.has at this
    rw [show (q * 64 + i) / 64 = q by omega, show (q * 64 + i) % 64 = i by omega] at this
    exact this
  have e1 : a = a' := word_eq h1 g1 fun i hi => k 0 i (by decide) hi
  have e2 : b = b' := word_eq h2 g2 fun i hi => k 1 i (by decide) hi
  have e3 : c = c' := word_eq h3 g3 fun i hi => k 2 i (by decide) hi
  have e4 : d = d' := word_eq h4 g4 fun i hi => k 3 i (by decide) hi
  rw [e1, e2, e3, e4]
def S4.card (s : S4) : Nat := (List.range 256).countP s.has
theorem S4.card_le (s : S4) : s.card ≤ 256 := by
  have := List.countP_le_length (p := s.has) (l := List.range 256)
  simpa [S4.card] using this
theorem countP_lt {X : Type} {p q : X → Bool} : ∀ {l : List X}, (∀ x ∈ l, p x = true → q x = true) → (∃ x ∈ l, p x = false ∧ q x = true) → l.countP p < l.countP q
  | [], _, ⟨_, h, _⟩ => by cases h
  | a :: l, h, ⟨x, hx, h1, h2⟩ => by
    rw [List.countP_cons, List.countP_cons]
    have hle : l.countP p ≤ l.countP q := List.countP_mono_left fun y hy => h y (by simp [hy])
    rcases List.mem_cons.1 hx with rfl | hx
    · rw [h1, h2]; simp; omega
    · have := countP_lt (l := l) (fun y hy => h y (by simp [hy])) ⟨x, hx, h1, h2⟩
      have hm : (if p a = true then 1 else 0) ≤ (if q a = true then 1 else 0 : Nat) := by
        by_cases hp : p a = true
        · rw [if_pos hp, if_pos (h a (by simp) hp)]; exact Nat.le_refl _
        · rw [if_neg hp]; exact Nat.zero_le _
      omega
theorem S4.card_or_le (s t : S4) : s.card ≤ (s.or t).card := List.countP_mono_left fun c _ h => by rw [S4.has_or, h]; rfl
theorem S4.card_or_lt {s t : S4} (hs : s.ok) (ht : t.ok) (h : s.or t ≠ s) : s.card < (s.or t).card := by
  refine countP_lt (fun c _ h => by rw [S4.has_or, h]; rfl) ?_
  apply Classical.byContradiction
  intro hne
  refine h (S4.ext_has (S4.ok_or hs ht) hs fun c hc => ?_)
  rw [S4.has_or]
  cases h1 : s.has c with
  | true => rfl
  | false =>
    cases h2 : t.has c with
    | false => rfl
    | true => exact absurd ⟨c, by simpa using hc, h1, by rw [S4.has_or, h1, h2]; rfl⟩ hne
theorem S4.meets_iff {s t : S4} (hs : s.ok) : s.and t ≠ S4.zero ↔ ∃ c, c < 256 ∧ s.has c = true ∧ t.has c = true := by
  constructor
  · intro h
    apply Classical.byContradiction
    intro hne
    refine h (S4.ext_has (S4.ok_and hs) S4.ok_zero fun c hc => ?_)
    rw [S4.has_and, S4.has_zero]
    cases h1 : s.has c with
    | false => rfl
    | true =>
      cases h2 : t.has c with
      | false => rfl
      | true => exact absurd ⟨c, hc, h1, h2⟩ hne
  · rintro ⟨c, _, h1, h2⟩ e
    have := S4.has_and s t c
    rw [e, S4.has_zero, h1, h2] at this
    cases this
/-- one byte -/
def S4.one (c : Nat) : S4 := match c / 64 with
  | 0 => ⟨1 <<< (c % 64), 0, 0, 0⟩
  | 1 => ⟨0, 1 <<< (c % 64), 0, 0⟩
  | 2 => ⟨0, 0, 1 <<< (c % 64), 0⟩
  | _ => ⟨0, 0, 0, 1 <<< (c % 64)⟩
theorem testBit_one (k i : Nat) : ((1 : Nat) <<< k).testBit i = decide (k = i) := by
  rw [Nat.one_shiftLeft, Nat.testBit_two_pow]
theorem S4.has_one (b c : Nat) (hb : b < 256) (hc : c < 256) : (S4.one b).has c = decide (b = c) := by
  have hq : b / 64 < 4 := by omega
  have hr : c / 64 < 4 := by omega
  unfold S4.one S4.has
  rcases (by omega : b / 64 = 0 ∨ b / 64 = 1 ∨ b / 64 = 2 ∨ b / 64 = 3) with h | h | h | h <;> rcases (by omega : c / 64 = 0 ∨ c / 64 = 1 ∨ c / 64 = 2 ∨ c / 64 = 3) with g | g | g | g <;> rw [h, g] <;> simp only [S4.word, testBit_one, Nat.zero_testBit] <;> (first | (refine decide_eq_decide.2 ?_; omega) | (refine (decide_eq_false ?_).symm; omega))
theorem S4.ok_one (b : Nat) (hb : b < 256) : (S4.one b).ok := by
  have h1 : (1 : Nat) <<< (b % 64) < 2 ^ 64 := by
    rw [Nat.one_shiftLeft]
    exact Nat.pow_lt_pow_right (by decide) (Nat.mod_lt _ (by decide))
  have h0 : (0 : Nat) < 2 ^ 64 := by decide
  unfold S4.one
  rcases (by omega : b / 64 = 0 ∨ b / 64 = 1 ∨ b / 64 = 2 ∨ b / 64 = 3) with h | h | h | h <;> rw [h] <;> exact ⟨by first | exact h1 | exact h0, by first | exact h1 | exact h0, by first | exact h1 | exact h0, by first | exact h1 | exact h0⟩
/-- the bytes from lo, n of them -/
def spanN (lo : Nat) : Nat → S4
  | 0 => .zero
  | n + 1 => (spanN lo n).or (.one (lo + n))
def span (lo hi : Nat) : S4 := spanN lo (hi + 1 - lo)
theorem spanN_ok (lo : Nat) : ∀ n, lo + n ≤ 256 → (spanN lo n).ok
  | 0, _ => S4.ok_zero
  | n + 1, h => S4.ok_or (spanN_ok lo n (by omega)) (S4.ok_one _ (by omega))
theorem spanN_has (lo c : Nat) (hc : c < 256) : ∀ n, lo + n ≤ 256 → ((spanN lo n).has c = true ↔ lo ≤ c ∧ c < lo + n)
  | 0, _ => by rw [show spanN lo 0 = S4.zero from rfl, S4.has_zero]; exact ⟨fun e => (by cases e), fun e => by omega⟩
  | n + 1, h => by
    rw [show spanN lo (n + 1) = (spanN lo n).or (.one (lo + n)) from rfl, S4.has_or, Bool.or_eq_true, spanN_has lo c hc n (by omega), S4.has_one _ _ (by omega) hc, decide_eq_true_iff]
    omega
theorem span_ok {lo hi : Nat} (hh : hi < 256) : (span lo hi).ok := by
  unfold span
  by_cases h : lo ≤ hi
  · exact spanN_ok lo _ (by omega)
  · rw [show hi + 1 - lo = 0 by omega]; exact S4.ok_zero
theorem span_has {lo hi c : Nat} (hh : hi < 256) (hc : c < 256) : (span lo hi).has c = true ↔ lo ≤ c ∧ c ≤ hi := by
  unfold span
  by_cases h : lo ≤ hi
  · rw [spanN_has lo c hc _ (by omega)]; omega
  · rw [show hi + 1 - lo = 0 by omega, show spanN lo 0 = S4.zero from rfl, S4.has_zero]; exact ⟨fun e => (by cases e), fun e => by omega⟩
/-- what is known of the names -/
structure Fx where
  text : List Bool
  null : List Bool
  first : List S4
  follow : List S4
  deriving DecidableEq
structure Fx.Ok (F : Fx) : Prop where
  t : F.text.length = 16
  n : F.null.length = 16
  f : F.first.length = 16
  o : F.follow.length = 16
  fs : ∀ s ∈ F.first, s.ok
  os : ∀ s ∈ F.follow, s.ok
def Fx.nul (F : Fx) (n : Nat) : Bool := F.null.getD n false
def Fx.fst (F : Fx) (n : Nat) : S4 := F.first.getD n .zero
def Fx.fol (F : Fx) (n : Nat) : S4 := F.follow.getD n .zero
def vanishB (F : Fx) (l : List Sgn) : Bool := l.all fun x => decide (0 ≤ x.name) && F.nul x.name.toNat
def startS (F : Fx) : List Sgn → S4
  | [] => .zero
  | x :: l => if x.name < 0 then span x.low x.high else if F.nul x.name.toNat = true then (F.fst x.name.toNat).or (startS F l) else F.fst x.name.toNat
/-- a byte begins a list of signs -/
inductive Fst (F : Fx) (G : List Frm) (c : Nat) : List Sgn → Prop
  | byte {x : Sgn} {l : List Sgn} : x.name < 0 → x.low ≤ c → c ≤ x.high → Fst F G c (x :: l)
  | name {x : Sgn} {l : List Sgn} {f : Frm} : 0 ≤ x.name → f ∈ G → (f.name : Int) = x.name → Fst F G c f.body → Fst F G c (x :: l)
  | skip {x : Sgn} {l : List Sgn} : 0 ≤ x.name → F.nul x.name.toNat = true → Fst F G c l → Fst F G c (x :: l)
/-- a grammar that is fit, by these facts -/
structure Fit (F : Fx) (G : List Frm) : Prop where
  bytes : ∀ f ∈ G, ∀ x ∈ f.body, x.high < 256
  sfirst : ∀ n c, c < 256 → (F.fst n).has c = true → ∃ f ∈ G, f.name = n ∧ Fst F G c f.body
  cfirst : ∀ f ∈ G, ∀ c, c < 256 → (startS F f.body).has c = true → (F.fst f.name).has c = true
  cfollow : ∀ f ∈ G, ∀ pre x l, f.body = pre ++ x :: l → 0 ≤ x.name → ∀ c, c < 256 → (startS F l).has c = true → (F.fol x.name.toNat).has c = true
  disj : ∀ f1 ∈ G, ∀ f2 ∈ G, f1.name = f2.name → ∀ c, c < 256 → (startS F f1.body).has c = true → (startS F f2.body).has c = true → f1.body = f2.body
  snull : ∀ n, F.nul n = true → ∃ f ∈ G, f.name = n ∧ vanishB F f.body = true
  nofol : ∀ f0 ∈ G, ∀ f ∈ G, f0.name = f.name → vanishB F f0.body = true → ∀ c, c < 256 → (startS F f.body).has c = true → (F.fol f.name).has c = false
variable {F : Fx} {G : List Frm}
theorem Fst.has (h : Fit F G) {c : Nat} (hc : c < 256) {l : List Sgn} (hf : Fst F G c l) : (∀ x ∈ l, x.high < 256) → (startS F l).has c = true := by
  induction hf with
  | byte h1 h2 h3 =>
    intro hb
    unfold startS
    rw [if_pos h1]
    exact (span_has (hb _ (by simp)) hc).2 ⟨h2, h3⟩
  | @name x l f h1 h2 h3 h4 ih =>
    intro hb
    have h5 := h.cfirst f h2 c hc (ih (h.bytes f h2))
    rw [show f.name = x.name.toNat by omega] at h5
    unfold startS
    rw [if_neg (by omega)]
    split
    · rw [S4.has_or, h5]; rfl
    · exact h5
  | skip h1 h2 h3 ih =>
    intro hb
    unfold startS
    rw [if_neg (by omega), if_pos h2, S4.has_or, ih (fun x hx => hb x (by simp [hx]))]
    simp
theorem Fst.of (h : Fit F G) {c : Nat} (hc : c < 256) : ∀ {l : List Sgn}, (∀ x ∈ l, x.high < 256) → (startS F l).has c = true → Fst F G c l
  | [], _, hs => by unfold startS at hs; rw [S4.has_zero] at hs; cases hs
  | x :: l, hb, hs => by
    unfold startS at hs
    split at hs
    · rename_i h1
      have := (span_has (hb x (by simp)) hc).1 hs
      exact .byte h1 this.1 this.2
    · rename_i h1
      split at hs
      · rename_i h2
        rw [S4.has_or, Bool.or_eq_true] at hs
        rcases hs with hs | hs
        · obtain ⟨f, hf, hn, h3⟩ := h.sfirst _ c hc hs
          exact .name (by omega) hf (by omega) h3
        · exact .skip (by omega) h2 (Fst.of h hc (fun y hy => hb y (by simp [hy])) hs)
      · obtain ⟨f, hf, hn, h3⟩ := h.sfirst _ c hc hs
        exact .name (by omega) hf (by omega) h3
/-- the form that is taken -/
def chooseF (F : Fx) (G : List Frm) (n : Nat) : List Nat → Option (List Sgn)
  | [] => none
  | c :: _ => (G.find? fun f => f.name == n && (startS F f.body).has c).map (·.body)
/-- one step: the text that is left, the signs that wait, the topmost first -/
def stepM (F : Fx) (G : List Frm) (h : Nat → Nat) : List Nat × List Sgn → Option (List Nat × List Sgn)
  | (_, []) => none
  | (s, x :: l) => if x.name < 0 then match s with
      | [] => none
      | c :: t => if x.low ≤ c ∧ c ≤ x.high then some (t, l) else none
    else match chooseF F G x.name.toNat s with
      | some body => if 32 < (body ++ l).length then none else some (s, body ++ l)
      | none => if F.nul x.name.toNat = false then none else if 32 < l.length + h x.name.toNat then none else some (s, l)
inductive Halts (F : Fx) (G : List Frm) (h : Nat → Nat) : Nat → List Nat × List Sgn → Prop
  | stop {st : List Nat × List Sgn} : stepM F G h st = none → Halts F G h 0 st
  | go {st st' : List Nat × List Sgn} {k : Nat} : stepM F G h st = some st' → Halts F G h k st' → Halts F G h (k + 1) st
theorem choose_form {n c : Nat} {t : List Nat} {body : List Sgn} (h : chooseF F G n (c :: t) = some body) : ∃ f ∈ G, f.name = n ∧ (startS F f.body).has c = true ∧ f.body = body := by
  simp only [chooseF] at h
  cases hf : G.find? fun f => f.name == n && (startS F f.body).has c with
  | none => rw [hf] at h; cases h
  | some f =>
    rw [hf] at h
    have h1 := List.find?_some hf
    rw [Bool.and_eq_true] at h1
    exact ⟨f, List.mem_of_find?_eq_some hf, by simpa using h1.1, h1.2, by simpa using h⟩
theorem choose_none {n c : Nat} {t : List Nat} (h : chooseF F G n (c :: t) = none) : ∀ f ∈ G, f.name = n → (startS F f.body).has c = false := by
  intro f hf hn
  simp only [chooseF] at h
  rw [Option.map_eq_none_iff, List.find?_eq_none] at h
  have := h f hf
  simpa [hn] using this
theorem step_byte {ht : Nat → Nat} {x : Sgn} {l : List Sgn} {c : Nat} {t : List Nat} (h1 : x.name < 0) (h2 : x.low ≤ c ∧ c ≤ x.high) : stepM F G ht (c :: t, x :: l) = some (t, l) := by simp [stepM, h1, h2]
theorem step_byteno {ht : Nat → Nat} {x : Sgn} {l : List Sgn} {c : Nat} {t : List Nat} (h1 : x.name < 0) (h2 : ¬ (x.low ≤ c ∧ c ≤ x.high)) : stepM F G ht (c :: t, x :: l) = none := by simp only [stepM, if_pos h1, if_neg h2]
theorem step_byteend {ht : Nat → Nat} {x : Sgn} {l : List Sgn} (h1 : x.name < 0) : stepM F G ht ([], x :: l) = none := by simp only [stepM, if_pos h1]
theorem step_take {ht : Nat → Nat} {x : Sgn} {l : List Sgn} {s : List Nat} {body : List Sgn} (h1 : ¬ x.name < 0) (h2 : chooseF F G x.name.toNat s = some body) (h3 : ¬ 32 < (body ++ l).length) : stepM F G ht (s, x :: l) = some (s, body ++ l) := by simp only [stepM, if_neg h1, h2, if_neg h3]
theorem step_deep {ht : Nat → Nat} {x : Sgn} {l : List Sgn} {s : List Nat} {body : List Sgn} (h1 : ¬ x.name < 0) (h2 : chooseF F G x.name.toNat s = some body) (h3 : 32 < (body ++ l).length) : stepM F G ht (s, x :: l) = none := by simp only [stepM, if_neg h1, h2, if_pos h3]
theorem step_none {ht : Nat → Nat} {x : Sgn} {l : List Sgn} {s : List Nat} (h1 : ¬ x.name < 0) (h2 : chooseF F G x.name.toNat s = none) (h3 : F.nul x.name.toNat = false) : stepM F G ht (s, x :: l) = none := by simp only [stepM, if_neg h1, h2, if_pos h3]
theorem step_deep2 {ht : Nat → Nat} {x : Sgn} {l : List Sgn} {s : List Nat} (h1 : ¬ x.name < 0) (h2 : chooseF F G x.name.toNat s = none) (h4 : 32 < l.length + ht x.name.toNat) : stepM F G ht (s, x :: l) = none := by
  simp only [stepM, if_neg h1, h2, if_pos h4]
  split <;> rfl
theorem step_pop {ht : Nat → Nat} {x : Sgn} {l : List Sgn} {s : List Nat} (h1 : ¬ x.name < 0) (h2 : chooseF F G x.name.toNat s = none) (h3 : F.nul x.name.toNat = true) (h4 : ¬ 32 < l.length + ht x.name.toNat) : stepM F G ht (s, x :: l) = some (s, l) := by
  simp only [stepM, if_neg h1, h2, if_neg h4, h3]
  rfl
/-- with a first byte at hand it goes on to that byte, or ends -/
theorem Fst.halts (h : Fit F G) (ht : Nat → Nat) {c : Nat} (hc : c < 256) {t : List Nat} (H : ∀ l, ∃ k, Halts F G ht k (t, l)) {l : List Sgn} (hf : Fst F G c l) :
    ∀ rest, (∃ f ∈ G, ∃ pre, f.body = pre ++ l) → ∃ k, Halts F G ht k (c :: t, l ++ rest) := by
  induction hf with
  | @byte x l h1 h2 h3 =>
    intro rest _
    obtain ⟨k, hk⟩ := H (l ++ rest)
    exact ⟨k + 1, .go (step_byte h1 ⟨h2, h3⟩) hk⟩
  | @name x l f h1 h2 h3 h4 ih =>
    intro rest _
    have hx : f.name = x.name.toNat := by omega
    have hs := Fst.has h hc h4 (h.bytes f h2)
    cases hch : chooseF F G x.name.toNat (c :: t) with
    | none =>
      have := choose_none hch f h2 hx
      rw [hs] at this
      cases this
    | some body =>
      obtain ⟨f', hf', hn', hs', hb'⟩ := choose_form hch
      have hbe : body = f.body := by rw [← hb']; exact h.disj f' hf' f h2 (by omega) c hc hs' hs
      subst hbe
      by_cases hd : 32 < (f.body ++ (l ++ rest)).length
      · exact ⟨0, .stop (step_deep (by omega) hch hd)⟩
      · obtain ⟨k, hk⟩ := ih (l ++ rest) ⟨f, h2, [], rfl⟩
        exact ⟨k + 1, .go (step_take (by omega) hch hd) hk⟩
  | @skip x l h1 h2 h3 ih =>
    rintro rest ⟨f, hf, pre, hpre⟩
    have hb : ∀ y ∈ l, y.high < 256 := fun y hy => h.bytes f hf y (by rw [hpre]; simp [hy])
    have hs := Fst.has h hc h3 hb
    have hfol := h.cfollow f hf pre x l hpre h1 c hc hs
    cases hch : chooseF F G x.name.toNat (c :: t) with
    | some body =>
      obtain ⟨f', hf', hn', hs', _⟩ := choose_form hch
      obtain ⟨f0, hf0, hn0, hv0⟩ := h.snull _ h2
      have := h.nofol f0 hf0 f' hf' (by omega) hv0 c hc hs'
      rw [hn', hfol] at this
      cases this
    | none =>
      by_cases hd : 32 < (l ++ rest).length + ht x.name.toNat
      · exact ⟨0, .stop (step_deep2 (by omega) hch hd)⟩
      · obtain ⟨k, hk⟩ := ih rest ⟨f, hf, pre ++ [x], by rw [hpre]; simp⟩
        exact ⟨k + 1, .go (step_pop (by omega) hch h2 hd) hk⟩
/-- it ends -/
theorem halts (h : Fit F G) (ht : Nat → Nat) : ∀ (s : List Nat), (∀ c ∈ s, c < 256) → ∀ l : List Sgn, ∃ k, Halts F G ht k (s, l)
  | s, hs, [] => ⟨0, .stop rfl⟩
  | [], hs, x :: l => by
    by_cases h1 : x.name < 0
    · exact ⟨0, .stop (step_byteend h1)⟩
    · obtain ⟨k, hk⟩ := halts h ht [] hs l
      by_cases h2 : F.nul x.name.toNat = false
      · exact ⟨0, .stop (step_none h1 rfl h2)⟩
      · by_cases hd : 32 < l.length + ht x.name.toNat
        · exact ⟨0, .stop (step_deep2 h1 rfl hd)⟩
        · exact ⟨k + 1, .go (step_pop h1 rfl (by simpa using h2) hd) hk⟩
  | c :: t, hs, x :: l => by
    have H : ∀ l, ∃ k, Halts F G ht k (t, l) := fun l => halts h ht t (fun y hy => hs y (by simp [hy])) l
    have hc : c < 256 := hs c (by simp)
    by_cases h1 : x.name < 0
    · by_cases h2 : x.low ≤ c ∧ c ≤ x.high
      · obtain ⟨k, hk⟩ := H l
        exact ⟨k + 1, .go (step_byte h1 h2) hk⟩
      · exact ⟨0, .stop (step_byteno h1 h2)⟩
    · cases hch : chooseF F G x.name.toNat (c :: t) with
      | some body =>
        obtain ⟨f, hf, hn, hs', hb⟩ := choose_form hch
        by_cases hd : 32 < (body ++ l).length
        · exact ⟨0, .stop (step_deep h1 hch hd)⟩
        · obtain ⟨k, hk⟩ := Fst.halts h ht hc H (Fst.of h hc (h.bytes f hf) hs') l ⟨f, hf, [], rfl⟩
          rw [hb] at hk
          exact ⟨k + 1, .go (step_take h1 hch hd) hk⟩
      | none =>
        obtain ⟨k, hk⟩ := halts h ht (c :: t) hs l
        by_cases h2 : F.nul x.name.toNat = false
        · exact ⟨0, .stop (step_none h1 hch h2)⟩
        · by_cases hd : 32 < l.length + ht x.name.toNat
          · exact ⟨0, .stop (step_deep2 h1 hch hd)⟩
          · exact ⟨k + 1, .go (step_pop h1 hch (by simpa using h2) hd) hk⟩
termination_by s _ l => (s.length, l.length)
end Nac.Gram
/- Grammars of messages: how what is known of the names grows, and when it grows no more; that what is accepted is derived; that the places to which pieces lead are found. No program in sight. -/
namespace Nac.Gram
variable {F F' : Fx} {G : List Frm}
/-- names that vanish derive the empty text -/
def SoundN (F : Fx) (G : List Frm) : Prop := ∀ n, F.nul n = true → ∃ f ∈ G, f.name = n ∧ DB G f.body []
theorem step_sound (hn : SoundN F G) {ht : Nat → Nat} {s s' : List Nat} {st st' : List Sgn} (h : stepM F G ht (s, st) = some (s', st')) (hd : DB G st' s') : DB G st s := by
  match st, h with
  | [], h => cases h
  | x :: l, h =>
    by_cases h1 : x.name < 0
    · match s, h with
      | [], h => rw [step_byteend h1] at h; cases h
      | c :: t, h =>
        by_cases h2 : x.low ≤ c ∧ c ≤ x.high
        · rw [step_byte h1 h2] at h
          injection h with h
          injection h with h3 h4
          subst h3 h4
          exact .byte h1 h2.1 h2.2 hd
        · rw [step_byteno h1 h2] at h; cases h
    · cases hch : chooseF F G x.name.toNat s with
      | some body =>
        by_cases h3 : 32 < (body ++ l).length
        · rw [step_deep h1 hch h3] at h; cases h
        · rw [step_take h1 hch h3] at h
          injection h with h
          injection h with h4 h5
          subst h4 h5
          match s, hch with
          | [], hch => cases hch
          | c :: t, hch =>
            obtain ⟨f, hf, hfn, _, hb⟩ := choose_form hch
            obtain ⟨s1, s2, e, h6, h7⟩ := hd.split
            rw [e]
            exact .name (by omega) hf (by omega) (by rw [hb]; exact h6) h7
      | none =>
        cases h3 : F.nul x.name.toNat with
        | false => rw [step_none h1 hch h3] at h; cases h
        | true =>
          by_cases h4 : 32 < l.length + ht x.name.toNat
          · rw [step_deep2 h1 hch h4] at h; cases h
          · rw [step_pop h1 hch h3 h4] at h
            injection h with h
            injection h with h5 h6
            subst h5 h6
            obtain ⟨f, hf, hfn, h7⟩ := hn _ h3
            have := DB.name (x := x) (by omega) hf (by omega) h7 hd
            simpa using this
theorem vanish_db (hc : ∀ f ∈ G, vanishB F f.body = true → F.nul f.name = true) {l : List Sgn} {s : List Nat} (h : DB G l s) : s = [] → vanishB F l = true := by
  induction h with
  | nil => intro _; rfl
  | byte => intro e; cases e
  | @name x l f s t h1 h2 h3 h4 h5 ih1 ih2 =>
    intro e
    obtain ⟨e1, e2⟩ := List.append_eq_nil_iff.1 e
    have h6 := hc f h2 (ih1 e1)
    rw [show f.name = x.name.toNat by omega] at h6
    unfold vanishB
    rw [List.all_cons, h6]
    have := ih2 e2
    unfold vanishB at this
    rw [this]
    simp [h1]
theorem db_vanish (hn : SoundN F G) : ∀ {l : List Sgn}, vanishB F l = true → DB G l []
  | [], _ => .nil
  | x :: l, h => by
    unfold vanishB at h
    rw [List.all_cons, Bool.and_eq_true, Bool.and_eq_true] at h
    have h0 : 0 ≤ x.name := by simpa using h.1.1
    obtain ⟨f, hf, hfn, h1⟩ := hn _ h.1.2
    exact DB.name (s := []) (t := []) h0 hf (by omega) h1 (db_vanish hn (by unfold vanishB; exact h.2))
/-! ### growing -/
def countT (l : List Bool) : Nat := l.countP id
def cards (l : List S4) : Nat := (l.map S4.card).sum
def Fx.size (F : Fx) : Nat := countT F.text + countT F.null + cards F.first + cards F.follow
theorem countT_set : ∀ (l : List Bool) (n : Nat) (b : Bool), n < l.length → countT l ≤ countT (l.set n (l.getD n false || b)) ∧ (l.set n (l.getD n false || b) ≠ l → countT l < countT (l.set n (l.getD n false || b)))
  | [], n, b, h => absurd h (Nat.not_lt_zero n)
  | x :: l, 0, b, _ => by
    cases x <;> cases b <;> simp [countT]
  | x :: l, n + 1, b, h => by
    have ih := countT_set l n b (by simpa using h)
    simp only [List.set_cons_succ, List.getD_cons_succ]
    unfold countT at *
    rw [List.countP_cons, List.countP_cons]
    refine ⟨by omega, fun hne => ?_⟩
    have := ih.2 (fun e => hne (by rw [e]))
    omega
theorem cards_set : ∀ (l : List S4) (n : Nat) (t : S4), n < l.length → (∀ s ∈ l, s.ok) → t.ok → cards l ≤ cards (l.set n ((l.getD n .zero).or t)) ∧ (l.set n ((l.getD n .zero).or t) ≠ l → cards l < cards (l.set n ((l.getD n .zero).or t)))
  | [], n, t, h, _, _ => absurd h (Nat.not_lt_zero n)
  | x :: l, 0, t, _, hs, ht => by
    simp only [List.set_cons_zero, List.getD_cons_zero]
    unfold cards
    simp only [List.map_cons, List.sum_cons]
    have h1 := S4.card_or_le x t
    refine ⟨by omega, fun hne => ?_⟩
    have := S4.card_or_lt (hs x (by simp)) ht (fun e => hne (by rw [e]))
    omega
  | x :: l, n + 1, t, h, hs, ht => by
    have ih := cards_set l n t (by simpa using h) (fun s h => hs s (by simp [h])) ht
    simp only [List.set_cons_succ, List.getD_cons_succ]
    unfold cards at *
    simp only [List.map_cons, List.sum_cons]
    refine ⟨by omega, fun hne => ?_⟩
    have := ih.2 (fun e => hne (by rw [e]))
    omega
/-- a step that only adds -/
structure Grows (step : Frm → Fx → Fx) (I : Fx → Prop) (G : List Frm) : Prop where
  keep : ∀ f ∈ G, ∀ F, I F → I (step f F)
  le : ∀ f ∈ G, ∀ F, I F → F.size ≤ (step f F).size
  lt : ∀ f ∈ G, ∀ F, I F → step f F ≠ F → F.size < (step f F).size
def roundF (step : Frm → Fx → Fx) (G : List Frm) (F : Fx) : Fx := G.foldl (fun F f => step f F) F
theorem round_all {step : Frm → Fx → Fx} {I : Fx → Prop} : ∀ {G : List Frm}, Grows step I G → ∀ F, I F → I (roundF step G F) ∧ F.size ≤ (roundF step G F).size ∧ (roundF step G F ≠ F → F.size < (roundF step G F).size) ∧ (roundF step G F = F → ∀ f ∈ G, step f F = F)
  | [], _, F, h => ⟨h, Nat.le_refl _, fun e => absurd rfl e, fun _ f hf => (by cases hf)⟩
  | f :: G, hg, F, h => by
    have hg' : Grows step I G := ⟨fun x hx => hg.keep x (by simp [hx]), fun x hx => hg.le x (by simp [hx]), fun x hx => hg.lt x (by simp [hx])⟩
    have h1 := hg.keep f (by simp) F h
    obtain ⟨a, b, c, d⟩ := round_all hg' (step f F) h1
    have e : roundF step (f :: G) F = roundF step G (step f F) := rfl
    have hl := hg.le f (by simp) F h
    rw [e]
    refine ⟨a, Nat.le_trans hl b, fun hne => ?_, fun heq => ?_⟩
    · by_cases hs : step f F = F
      · rw [hs] at hne b c ⊢
        exact c hne
      · have := hg.lt f (by simp) F h hs
        omega
    · have hs : step f F = F := by
        apply Classical.byContradiction
        intro hs
        have := hg.lt f (by simp) F h hs
        rw [heq] at b
        omega
      rw [hs] at heq d
      intro x hx
      rcases List.mem_cons.1 hx with rfl | hx
      · exact hs
      · exact d heq x hx
def step1 (f : Frm) (F : Fx) : Fx :=
  let F1 : Fx := { F with text := F.text.set f.name (F.text.getD f.name false || f.body.all fun x => if x.name < 0 then decide (x.low ≤ x.high) else F.text.getD x.name.toNat false) }
  { F1 with null := F1.null.set f.name (F1.null.getD f.name false || vanishB F1 f.body) }
def step2 (f : Frm) (F : Fx) : Fx := { F with first := F.first.set f.name ((F.first.getD f.name .zero).or (startS F f.body)) }
/-- the signs behind the first ones, one by one -/
def fol1 (n : Nat) (x : Sgn) (rest : List Sgn) (F : Fx) : Fx :=
  if x.name < 0 then F else
  let F1 : Fx := { F with follow := F.follow.set x.name.toNat ((F.follow.getD x.name.toNat .zero).or (startS F rest)) }
  if vanishB F1 rest = true then { F1 with follow := F1.follow.set x.name.toNat ((F1.follow.getD x.name.toNat .zero).or (F1.follow.getD n .zero)) } else F1
def folL (n : Nat) : List Sgn → Fx → Fx
  | [], F => F
  | x :: l, F => folL n l (fol1 n x l F)
def step3 (f : Frm) (F : Fx) : Fx := folL f.name f.body F
/-- the forms are as they must be -/
structure Shaped (G : List Frm) (names : Nat) : Prop where
  n16 : names ≤ 16
  name : ∀ f ∈ G, f.name < names
  body : ∀ f ∈ G, f.body.length ≤ 8
  sign : ∀ f ∈ G, ∀ x ∈ f.body, x.name < names
  byte : ∀ f ∈ G, ∀ x ∈ f.body, x.low < 256 ∧ x.high < 256
theorem getD_set (l : List S4) (n m : Nat) (t : S4) : (l.set n t).getD m .zero = if n = m ∧ n < l.length then t else l.getD m .zero := by
  by_cases h : n = m
  · subst h
    by_cases hn : n < l.length
    · simp [List.getD, hn]
    · rw [List.set_eq_of_length_le (by omega), if_neg (by omega)]
  · rw [if_neg (fun e => h e.1)]
    simp [List.getD, List.getElem?_set_ne h]
theorem getD_setB (l : List Bool) (n m : Nat) (t : Bool) : (l.set n t).getD m false = if n = m ∧ n < l.length then t else l.getD m false := by
  by_cases h : n = m
  · subst h
    by_cases hn : n < l.length
    · simp [List.getD, hn]
    · rw [List.set_eq_of_length_le (by omega), if_neg (by omega)]
  · rw [if_neg (fun e => h e.1)]
    simp [List.getD, List.getElem?_set_ne h]
theorem ok_getD {l : List S4} (h : ∀ s ∈ l, s.ok) (n : Nat) : (l.getD n .zero).ok := by
  by_cases hn : n < l.length
  · rw [show l.getD n .zero = l[n] by simp [List.getD, hn]]; exact h _ (List.getElem_mem hn)
  · rw [show l.getD n .zero = .zero by simp [List.getD, hn]]; exact S4.ok_zero
theorem ok_set {l : List S4} (h : ∀ s ∈ l, s.ok) (n : Nat) {t : S4} (ht : t.ok) : ∀ s ∈ l.set n t, s.ok := fun s hs => by
  rcases List.mem_or_eq_of_mem_set hs with h1 | h1
  · exact h s h1
  · rw [h1]; exact ht
theorem startS_ok (h : F.Ok) : ∀ {l : List Sgn}, (∀ x ∈ l, x.high < 256) → (startS F l).ok
  | [], _ => S4.ok_zero
  | x :: l, hb => by
    unfold startS
    split
    · exact span_ok (hb x (by simp))
    · split
      · exact S4.ok_or (ok_getD h.fs _) (startS_ok h fun y hy => hb y (by simp [hy]))
      · exact ok_getD h.fs _
theorem startS_congr (h1 : F.null = F'.null) (h2 : F.first = F'.first) : ∀ l : List Sgn, startS F l = startS F' l
  | [] => rfl
  | x :: l => by
    unfold startS Fx.nul Fx.fst
    rw [h1, h2, startS_congr h1 h2 l]
theorem vanishB_congr (h1 : F.null = F'.null) (l : List Sgn) : vanishB F l = vanishB F' l := by unfold vanishB Fx.nul; rw [h1]
theorem Fst.congr (h1 : F.null = F'.null) {c : Nat} {l : List Sgn} (h : Fst F G c l) : Fst F' G c l := by
  induction h with
  | byte a b c => exact .byte a b c
  | name a b c _ ih => exact .name a b c ih
  | skip a b _ ih => exact .skip a (by unfold Fx.nul at *; rw [← h1]; exact b) ih
/-- stage 1 -/
def I1 (G : List Frm) (F : Fx) : Prop := F.Ok ∧ SoundN F G
theorem grows1 {names : Nat} (hG : Shaped G names) : Grows step1 (I1 G) G := by
  have key : ∀ f ∈ G, ∀ F : Fx, I1 G F → I1 G (step1 f F) ∧ F.size ≤ (step1 f F).size ∧ (step1 f F ≠ F → F.size < (step1 f F).size) := by
    intro f hf F ⟨ho, hs⟩
    have hn : f.name < 16 := Nat.lt_of_lt_of_le (hG.name f hf) hG.n16
    obtain ⟨b1, hb1⟩ : ∃ b, b = (f.body.all fun x => if x.name < 0 then decide (x.low ≤ x.high) else F.text.getD x.name.toNat false) := ⟨_, rfl⟩
    have e : step1 f F = { F with text := F.text.set f.name (F.text.getD f.name false || b1), null := F.null.set f.name (F.null.getD f.name false || vanishB F f.body) } := by
      unfold step1
      rw [← hb1]
      rfl
    rw [e]
    have ht := countT_set F.text f.name b1 (by rw [ho.t]; exact hn)
    have hu := countT_set F.null f.name (vanishB F f.body) (by rw [ho.n]; exact hn)
    refine ⟨⟨⟨by simp [ho.t], by simp [ho.n], ho.f, ho.o, ho.fs, ho.os⟩, fun n h => ?_⟩, ?_, fun hne => ?_⟩
    · unfold Fx.nul at h
      rw [getD_setB] at h
      split at h
      · rename_i hc
        rw [Bool.or_eq_true] at h
        rcases h with h | h
        · rw [hc.1] at h; exact hs n h
        · exact ⟨f, hf, hc.1, db_vanish hs h⟩
      · exact hs n h
    · simp only [Fx.size]
      have := ht.1
      have := hu.1
      omega
    · simp only [Fx.size]
      by_cases h1 : F.text.set f.name (F.text.getD f.name false || b1) = F.text
      · by_cases h2 : F.null.set f.name (F.null.getD f.name false || vanishB F f.body) = F.null
        · exact absurd (by rw [h1, h2]) hne
        · have := hu.2 h2
          have := ht.1
          omega
      · have := ht.2 h1
        have := hu.1
        omega
  exact ⟨fun f hf F h => (key f hf F h).1, fun f hf F h => (key f hf F h).2.1, fun f hf F h => (key f hf F h).2.2⟩
theorem fixed1 {f : Frm} (ho : F.Ok) (hn : f.name < 16) (h : step1 f F = F) : vanishB F f.body = true → F.nul f.name = true := by
  intro hv
  have e : (step1 f F).null.getD f.name false = F.null.getD f.name false := by rw [h]
  unfold step1 at e
  simp only at e
  rw [getD_setB, if_pos ⟨rfl, by rw [ho.n]; exact hn⟩] at e
  have hv' : vanishB { F with text := F.text.set f.name (F.text.getD f.name false || f.body.all fun x => if x.name < 0 then decide (x.low ≤ x.high) else F.text.getD x.name.toNat false) } f.body = true := hv
  rw [hv'] at e
  unfold Fx.nul
  rw [← e]
  simp
/-- stage 2 -/
def SFst (F : Fx) (G : List Frm) : Prop := ∀ n c, c < 256 → (F.fst n).has c = true → ∃ f ∈ G, f.name = n ∧ Fst F G c f.body
theorem fst_of (hs : SFst F G) {c : Nat} (hc : c < 256) : ∀ {l : List Sgn}, (∀ x ∈ l, x.high < 256) → (startS F l).has c = true → Fst F G c l
  | [], _, h => by unfold startS at h; rw [S4.has_zero] at h; cases h
  | x :: l, hb, h => by
    unfold startS at h
    split at h
    · rename_i h1
      have := (span_has (hb x (by simp)) hc).1 h
      exact .byte h1 this.1 this.2
    · rename_i h1
      split at h
      · rename_i h2
        rw [S4.has_or, Bool.or_eq_true] at h
        rcases h with h | h
        · obtain ⟨f, hf, hn, h3⟩ := hs _ c hc h
          exact .name (by omega) hf (by omega) h3
        · exact .skip (by omega) h2 (fst_of hs hc (fun y hy => hb y (by simp [hy])) h)
      · obtain ⟨f, hf, hn, h3⟩ := hs _ c hc h
        exact .name (by omega) hf (by omega) h3
def I2 (G : List Frm) (N : List Bool) (F : Fx) : Prop := F.Ok ∧ F.null = N ∧ SFst F G
theorem grows2 {names : Nat} (hG : Shaped G names) (N : List Bool) : Grows step2 (I2 G N) G := by
  have key : ∀ f ∈ G, ∀ F : Fx, I2 G N F → I2 G N (step2 f F) ∧ F.size ≤ (step2 f F).size ∧ (step2 f F ≠ F → F.size < (step2 f F).size) := by
    intro f hf F ⟨ho, hN, hs⟩
    have hn : f.name < 16 := Nat.lt_of_lt_of_le (hG.name f hf) hG.n16
    have hbb : ∀ x ∈ f.body, x.high < 256 := fun x hx => (hG.byte f hf x hx).2
    have hok := startS_ok ho hbb
    have hu := cards_set F.first f.name (startS F f.body) (by rw [ho.f]; exact hn) ho.fs hok
    refine ⟨⟨⟨ho.t, ho.n, by show (F.first.set _ _).length = 16; rw [List.length_set]; exact ho.f, ho.o, ok_set ho.fs _ (S4.ok_or (ok_getD ho.fs _) hok), ho.os⟩, hN, fun n c hc h => ?_⟩, ?_, fun hne => ?_⟩
    · have hh : ((F.first.set f.name ((F.first.getD f.name .zero).or (startS F f.body))).getD n .zero).has c = true := h
      have hcg : ∀ l, Fst F G c l → Fst (step2 f F) G c l := fun l h => Fst.congr (F' := step2 f F) (show F.null = (step2 f F).null from rfl) h
      rw [getD_set] at hh
      split at hh
      · rename_i hcd
        rw [S4.has_or, Bool.or_eq_true] at hh
        rcases hh with hh | hh
        · rw [hcd.1] at hh
          obtain ⟨f', h1, h2, h3⟩ := hs n c hc hh
          exact ⟨f', h1, h2, hcg _ h3⟩
        · exact ⟨f, hf, hcd.1, hcg _ (fst_of hs hc hbb hh)⟩
      · obtain ⟨f', h1, h2, h3⟩ := hs n c hc hh
        exact ⟨f', h1, h2, hcg _ h3⟩
    · simp only [Fx.size, step2]
      have := hu.1
      omega
    · simp only [Fx.size, step2]
      have := hu.2 (fun e => hne (by unfold step2; rw [e]))
      omega
  exact ⟨fun f hf F h => (key f hf F h).1, fun f hf F h => (key f hf F h).2.1, fun f hf F h => (key f hf F h).2.2⟩
theorem fixed2 {f : Frm} (ho : F.Ok) (hn : f.name < 16) (h : step2 f F = F) {c : Nat} : (startS F f.body).has c = true → (F.fst f.name).has c = true := by
  intro hv
  have e : (step2 f F).first.getD f.name .zero = F.first.getD f.name .zero := by rw [h]
  unfold step2 at e
  simp only at e
  rw [getD_set, if_pos ⟨rfl, by rw [ho.f]; exact hn⟩] at e
  unfold Fx.fst
  rw [← e, S4.has_or, hv]
  simp
/-- stage 3 -/
def I3 (N : List Bool) (A : List S4) (F : Fx) : Prop := F.Ok ∧ F.null = N ∧ F.first = A
theorem size_follow (F : Fx) (l : List S4) : ({ F with follow := l } : Fx).size = countT F.text + countT F.null + cards F.first + cards l := rfl
theorem fol1_key {N : List Bool} {A : List S4} {n : Nat} {x : Sgn} {rest : List Sgn} (hx : x.name < 16) (hb : ∀ y ∈ rest, y.high < 256) (h : I3 N A F) :
    I3 N A (fol1 n x rest F) ∧ F.size ≤ (fol1 n x rest F).size ∧ (fol1 n x rest F ≠ F → F.size < (fol1 n x rest F).size) ∧ (fol1 n x rest F = F → 0 ≤ x.name → ∀ c, (startS F rest).has c = true → (F.fol x.name.toNat).has c = true) := by
  obtain ⟨ho, hN, hA⟩ := h
  unfold fol1
  by_cases h0 : x.name < 0
  · rw [if_pos h0]
    exact ⟨⟨ho, hN, hA⟩, Nat.le_refl _, fun e => absurd rfl e, fun _ h => by omega⟩
  · rw [if_neg h0]
    have hn : x.name.toNat < F.follow.length := by rw [ho.o]; omega
    have hok := startS_ok ho hb
    have hu := cards_set F.follow x.name.toNat (startS F rest) hn ho.os hok
    obtain ⟨l1, hl1⟩ : ∃ l1, l1 = F.follow.set x.name.toNat ((F.follow.getD x.name.toNat .zero).or (startS F rest)) := ⟨_, rfl⟩
    have hl1n : l1.length = 16 := by rw [hl1, List.length_set]; exact ho.o
    have hl1o : ∀ s ∈ l1, s.ok := by rw [hl1]; exact ok_set ho.os _ (S4.ok_or (ok_getD ho.os _) hok)
    rw [← hl1] at hu
    simp only [← hl1]
    have hg : l1.getD x.name.toNat .zero = (F.follow.getD x.name.toNat .zero).or (startS F rest) := by rw [hl1, getD_set, if_pos ⟨rfl, hn⟩]
    by_cases hv : vanishB { F with follow := l1 } rest = true
    · rw [if_pos hv]
      have hw := cards_set l1 x.name.toNat (l1.getD n .zero) (by rw [hl1n]; omega) hl1o (ok_getD hl1o _)
      obtain ⟨l2, hl2⟩ : ∃ l2, l2 = l1.set x.name.toNat ((l1.getD x.name.toNat .zero).or (l1.getD n .zero)) := ⟨_, rfl⟩
      rw [← hl2] at hw ⊢
      have hl2n : l2.length = 16 := by rw [hl2, List.length_set]; exact hl1n
      have hl2o : ∀ s ∈ l2, s.ok := by rw [hl2]; exact ok_set hl1o _ (S4.ok_or (ok_getD hl1o _) (ok_getD hl1o _))
      refine ⟨⟨⟨ho.t, ho.n, ho.f, hl2n, ho.fs, hl2o⟩, hN, hA⟩, ?_, fun hne => ?_, fun heq _ c hc => ?_⟩
      · simp only [Fx.size]; have := hu.1; have := hw.1; omega
      · simp only [Fx.size]
        by_cases h1 : l1 = F.follow
        · by_cases h2 : l2 = l1
          · exact absurd (by rw [h2, h1]) hne
          · have := hw.2 h2; have := hu.1; omega
        · have := hu.2 h1; have := hw.1; omega
      · have he : l2 = F.follow := by have := congrArg Fx.follow heq; exact this
        have h1 : l1 = F.follow := by
          apply Classical.byContradiction
          intro h1
          have := hu.2 h1
          have := hw.1
          rw [he] at this
          omega
        rw [h1] at hg
        unfold Fx.fol
        rw [hg, S4.has_or, hc]
        simp
    · rw [if_neg hv]
      refine ⟨⟨⟨ho.t, ho.n, ho.f, hl1n, ho.fs, hl1o⟩, hN, hA⟩, ?_, fun hne => ?_, fun heq _ c hc => ?_⟩
      · simp only [Fx.size]; have := hu.1; omega
      · simp only [Fx.size]
        have := hu.2 (fun e => hne (by rw [e]))
        omega
      · have h1 : l1 = F.follow := by have := congrArg Fx.follow heq; exact this
        rw [h1] at hg
        unfold Fx.fol
        rw [hg, S4.has_or, hc]
        simp
theorem folL_key {N : List Bool} {A : List S4} {n : Nat} : ∀ {l : List Sgn} {F : Fx}, (∀ y ∈ l, y.name < 16 ∧ y.high < 256) → I3 N A F →
    I3 N A (folL n l F) ∧ F.size ≤ (folL n l F).size ∧ (folL n l F ≠ F → F.size < (folL n l F).size) ∧ (folL n l F = F → ∀ pre x rest, l = pre ++ x :: rest → 0 ≤ x.name → ∀ c, (startS F rest).has c = true → (F.fol x.name.toNat).has c = true)
  | [], F, _, h => ⟨h, Nat.le_refl _, fun e => absurd rfl e, fun _ pre x rest e => by simp at e⟩
  | y :: l, F, hb, h => by
    obtain ⟨a1, b1, c1, d1⟩ := fol1_key (n := n) (x := y) (rest := l) (hb y (by simp)).1 (fun z hz => (hb z (by simp [hz])).2) h
    obtain ⟨a2, b2, c2, d2⟩ := folL_key (n := n) (l := l) (F := fol1 n y l F) (fun z hz => hb z (by simp [hz])) a1
    have e : folL n (y :: l) F = folL n l (fol1 n y l F) := rfl
    rw [e]
    refine ⟨a2, Nat.le_trans b1 b2, fun hne => ?_, fun heq => ?_⟩
    · by_cases hs : fol1 n y l F = F
      · rw [hs] at hne c2 ⊢
        exact c2 hne
      · have := c1 hs; omega
    · have hs : fol1 n y l F = F := by
        apply Classical.byContradiction
        intro hs
        have := c1 hs
        rw [heq] at b2
        omega
      rw [hs] at heq d2
      intro pre x rest hl h0 c hc
      match pre, hl with
      | [], hl =>
        injection hl with h1 h2
        subst h1 h2
        exact d1 hs h0 c hc
      | z :: pre, hl =>
        injection hl with h1 h2
        exact d2 heq pre x rest h2 h0 c hc
theorem grows3 {names : Nat} (hG : Shaped G names) (N : List Bool) (A : List S4) : Grows step3 (I3 N A) G := by
  have hb : ∀ f ∈ G, ∀ y ∈ f.body, y.name < 16 ∧ y.high < 256 := fun f hf y hy => ⟨by have := hG.sign f hf y hy; have := hG.n16; omega, (hG.byte f hf y hy).2⟩
  exact ⟨fun f hf F h => (folL_key (hb f hf) h).1, fun f hf F h => (folL_key (hb f hf) h).2.1, fun f hf F h => (folL_key (hb f hf) h).2.2.1⟩
/-! ### what tells forms apart -/
/-- over the forms, in order: clashed already, the bytes that were seen, one vanished -/
def clash1 (F : Fx) (n : Nat) (a : Bool × S4 × Bool) (f : Frm) : Bool × S4 × Bool :=
  if a.1 = true ∨ f.name ≠ n then a else
  if (a.2.2 && vanishB F f.body) = true ∨ a.2.1.and (startS F f.body) ≠ .zero then (true, a.2) else (false, a.2.1.or (startS F f.body), a.2.2 || vanishB F f.body)
def clashF (F : Fx) (n : Nat) (G : List Frm) : Bool × S4 × Bool := G.foldl (clash1 F n) (false, .zero, false)
def clashB (F : Fx) (n : Nat) (G : List Frm) : Bool := (clashF F n G).1 || ((clashF F n G).2.2 && decide ((clashF F n G).2.1.and (F.fol n) ≠ .zero))
end Nac.Gram
/- Grammars of messages: what is fit; the places to which pieces of a text lead. No program in sight. -/
namespace Nac.Gram
variable {F F' : Fx} {G : List Frm}
structure ClashK (F : Fx) (n : Nat) (G : List Frm) (k : Nat) (a : Bool × S4 × Bool) : Prop where
  ok : a.2.1.ok
  seen : ∀ c, a.2.1.has c = true ↔ ∃ (i : Nat) (h : i < G.length), i < k ∧ G[i].name = n ∧ (startS F G[i].body).has c = true
  null : a.2.2 = true ↔ ∃ (i : Nat) (h : i < G.length), i < k ∧ G[i].name = n ∧ vanishB F G[i].body = true
  apart : ∀ (i j : Nat) (hi : i < G.length) (hj : j < G.length), i < j → j < k → G[i].name = n → G[j].name = n → ∀ c, c < 256 → (startS F G[i].body).has c = true → (startS F G[j].body).has c = false
theorem clash_start (F : Fx) (n : Nat) (G : List Frm) : ClashK F n G 0 (false, .zero, false) :=
  ⟨S4.ok_zero, fun c => ⟨fun h => (by rw [S4.has_zero] at h; cases h), fun ⟨i, _, h, _⟩ => (by omega)⟩, ⟨fun h => (by cases h), fun ⟨i, _, h, _⟩ => (by omega)⟩, fun i j _ _ _ h => (by omega)⟩
theorem clash_skip {n k : Nat} {a : Bool × S4 × Bool} (h : ClashK F n G k a) (hk : k < G.length) (hn : G[k].name ≠ n) : ClashK F n G (k + 1) a := by
  refine ⟨h.ok, fun c => ?_, ?_, fun i j hi hj hij hjk h1 h2 => ?_⟩
  · rw [h.seen c]
    exact ⟨fun ⟨i, hi, h1, h2⟩ => ⟨i, hi, by omega, h2⟩, fun ⟨i, hi, h1, h2⟩ => ⟨i, hi, by
      by_cases e : i = k
      · subst e; exact absurd h2.1 hn
      · omega, h2⟩⟩
  · rw [h.null]
    exact ⟨fun ⟨i, hi, h1, h2⟩ => ⟨i, hi, by omega, h2⟩, fun ⟨i, hi, h1, h2⟩ => ⟨i, hi, by
      by_cases e : i = k
      · subst e; exact absurd h2.1 hn
      · omega, h2⟩⟩
  · by_cases e : j = k
    · subst e; exact absurd h2 hn
    · exact h.apart i j hi hj hij (by omega) h1 h2
theorem clash_take {n k : Nat} {s : S4} {v : Bool} (h : ClashK F n G k (false, s, v)) (hk : k < G.length) (hn : G[k].name = n) (hs : (startS F G[k].body).ok) (h1 : (v && vanishB F G[k].body) = false) (h2 : s.and (startS F G[k].body) = .zero) :
    ClashK F n G (k + 1) (false, s.or (startS F G[k].body), v || vanishB F G[k].body) := by
  refine ⟨S4.ok_or h.ok hs, fun c => ?_, ?_, fun i j hi hj hij hjk g1 g2 c hc g3 => ?_⟩
  · show (s.or (startS F G[k].body)).has c = true ↔ _
    have := h.seen c
    rw [S4.has_or, Bool.or_eq_true, this]
    constructor
    · rintro (⟨i, hi, a, b⟩ | g)
      · exact ⟨i, hi, by omega, b⟩
      · exact ⟨k, hk, by omega, hn, g⟩
    · rintro ⟨i, hi, a, b⟩
      by_cases e : i = k
      · subst e; exact .inr b.2
      · exact .inl ⟨i, hi, by omega, b⟩
  · show (v || vanishB F G[k].body) = true ↔ _
    have := h.null
    rw [Bool.or_eq_true, this]
    constructor
    · rintro (⟨i, hi, a, b⟩ | g)
      · exact ⟨i, hi, by omega, b⟩
      · exact ⟨k, hk, by omega, hn, g⟩
    · rintro ⟨i, hi, a, b⟩
      by_cases e : i = k
      · subst e; exact .inr b.2
      · exact .inl ⟨i, hi, by omega, b⟩
  · by_cases e : j = k
    · subst e
      have h3 : s.has c = true := (h.seen c).2 ⟨i, hi, hij, g1, g3⟩
      cases h4 : (startS F G[j].body).has c with
      | false => rfl
      | true =>
        have := S4.has_and s (startS F G[j].body) c
        rw [h2, S4.has_zero, h3, h4] at this
        cases this
    · exact h.apart i j hi hj hij (by omega) g1 g2 c hc g3
/-- a name whose forms do not clash -/
def NoClash (F : Fx) (G : List Frm) (n : Nat) : Prop := ∃ a : S4 × Bool, ClashK F n G G.length (false, a) ∧ (a.2 = true → a.1.and (F.fol n) = .zero)
theorem fit_of {names : Nat} (hG : Shaped G names) (hs : SoundN F G) (h1 : ∀ f ∈ G, vanishB F f.body = true → F.nul f.name = true) (h2 : SFst F G)
    (h3 : ∀ f ∈ G, ∀ c, (startS F f.body).has c = true → (F.fst f.name).has c = true)
    (h4 : ∀ f ∈ G, ∀ pre x rest, f.body = pre ++ x :: rest → 0 ≤ x.name → ∀ c, (startS F rest).has c = true → (F.fol x.name.toNat).has c = true)
    (h5 : ∀ n, n < names → NoClash F G n) : Fit F G := by
  refine ⟨fun f hf x hx => (hG.byte f hf x hx).2, h2, fun f hf c _ => h3 f hf c, fun f hf pre x l e h0 c _ => h4 f hf pre x l e h0 c, fun f1 hf1 f2 hf2 hn c hc g1 g2 => ?_, fun n hn => ?_, fun f0 hf0 f hf hn hv c hc g => ?_⟩
  · obtain ⟨i, hi, rfl⟩ := List.mem_iff_getElem.1 hf1
    obtain ⟨j, hj, rfl⟩ := List.mem_iff_getElem.1 hf2
    obtain ⟨a, ha, _⟩ := h5 _ (hG.name _ hf1)
    rcases Nat.lt_trichotomy i j with h | h | h
    · rw [ha.apart i j hi hj h hj rfl hn.symm c hc g1] at g2; cases g2
    · subst h; rfl
    · rw [ha.apart j i hj hi h hi hn.symm rfl c hc g2] at g1; cases g1
  · obtain ⟨f, hf, hfn, hd⟩ := hs n hn
    exact ⟨f, hf, hfn, vanish_db h1 hd rfl⟩
  · obtain ⟨i, hi, rfl⟩ := List.mem_iff_getElem.1 hf0
    obtain ⟨j, hj, rfl⟩ := List.mem_iff_getElem.1 hf
    obtain ⟨a, ha, hz⟩ := h5 _ (hG.name _ hf)
    have h6 := hz (ha.null.2 ⟨i, hi, hi, hn, hv⟩)
    have h7 : a.1.has c = true := (ha.seen c).2 ⟨j, hj, hj, rfl, g⟩
    cases h8 : (F.fol G[j].name).has c with
    | false => rfl
    | true =>
      have := S4.has_and a.1 (F.fol G[j].name) c
      rw [h6, S4.has_zero, h7, h8] at this
      cases this
/-! ### by the forms alone -/
/-- from the place i the signs lead to the place j -/
def EndsR (is : Nat → Nat → Nat → Bool) (s : List Nat) : List Sgn → Nat → Nat → Prop
  | [], i, j => i = j
  | x :: l, i, j => if x.name < 0 then (∃ h : i < s.length, x.low ≤ s[i] ∧ s[i] ≤ x.high) ∧ EndsR is s l (i + 1) j else ∃ b, i ≤ b ∧ b ≤ s.length ∧ is x.name.toNat i b = true ∧ EndsR is s l b j
/-- it grows no more -/
def Closed (is : Nat → Nat → Nat → Bool) (s : List Nat) (G : List Frm) : Prop := ∀ f ∈ G, ∀ i j, i ≤ j → j ≤ s.length → EndsR is s f.body i j → is f.name i j = true
theorem DB.ends {is : Nat → Nat → Nat → Bool} {s : List Nat} (hc : Closed is s G) {l : List Sgn} {t : List Nat} (h : DB G l t) : ∀ pre post, s = pre ++ t ++ post → EndsR is s l pre.length (pre.length + t.length) := by
  induction h with
  | nil => intro pre post _; show pre.length = pre.length + 0; omega
  | @byte x l c t h1 h2 h3 h4 ih =>
    intro pre post hs
    have hi : pre.length < s.length := by rw [hs]; simp
    have hg : s[pre.length] = c := by simp [hs]
    unfold EndsR
    rw [if_pos h1]
    refine ⟨⟨hi, by rw [hg]; exact ⟨h2, h3⟩⟩, ?_⟩
    have := ih (pre ++ [c]) post (by rw [hs]; simp)
    rw [List.length_append] at this
    simp only [List.length_cons, List.length_nil] at this ⊢
    rw [show pre.length + (t.length + 1) = pre.length + (0 + 1) + t.length by omega, show pre.length + 1 = pre.length + (0 + 1) by omega]
    exact this
  | @name x l f u t h1 h2 h3 h4 h5 ih1 ih2 =>
    intro pre post hs
    unfold EndsR
    rw [if_neg (by omega)]
    have e1 := ih1 pre (t ++ post) (by rw [hs]; simp)
    have hl : pre.length + u.length ≤ s.length := by rw [hs]; simp
    refine ⟨pre.length + u.length, by omega, hl, ?_, ?_⟩
    · rw [← show f.name = x.name.toNat by omega]
      exact hc f h2 _ _ (by omega) hl e1
    · have e2 := ih2 (pre ++ u) post (by rw [hs]; simp)
      rw [List.length_append] at e2
      rw [List.length_append, show pre.length + (u.length + t.length) = pre.length + u.length + t.length by omega]
      exact e2
/-- the signs ahead lead from i to a -/
theorem EndsR.snoc {is : Nat → Nat → Nat → Bool} {s : List Nat} : ∀ {l : List Sgn} {x : Sgn} {i j : Nat}, EndsR is s (l ++ [x]) i j ↔ ∃ a, EndsR is s l i a ∧ EndsR is s [x] a j
  | [], x, i, j => ⟨fun h => ⟨i, rfl, h⟩, fun ⟨a, h1, h2⟩ => by
    have h1 : i = a := h1
    subst h1; exact h2⟩
  | y :: l, x, i, j => by
    show EndsR is s (y :: (l ++ [x])) i j ↔ _
    unfold EndsR
    by_cases h : y.name < 0
    · rw [if_pos h]
      simp only [if_pos h]
      rw [EndsR.snoc (l := l)]
      constructor
      · rintro ⟨h1, a, h2, h3⟩
        exact ⟨a, ⟨h1, h2⟩, h3⟩
      · rintro ⟨a, ⟨h1, h2⟩, h3⟩
        exact ⟨h1, a, h2, h3⟩
    · rw [if_neg h]
      simp only [if_neg h]
      constructor
      · rintro ⟨b, h1, h2, h3, h4⟩
        obtain ⟨a, h5, h6⟩ := (EndsR.snoc (l := l)).1 h4
        exact ⟨a, ⟨b, h1, h2, h3, h5⟩, h6⟩
      · rintro ⟨a, ⟨b, h1, h2, h3, h5⟩, h6⟩
        exact ⟨b, h1, h2, h3, (EndsR.snoc (l := l)).2 ⟨a, h5, h6⟩⟩
theorem EndsR.bound {is : Nat → Nat → Nat → Bool} {s : List Nat} : ∀ {l : List Sgn} {i j : Nat}, i ≤ s.length → EndsR is s l i j → i ≤ j ∧ j ≤ s.length
  | [], i, j, hi, h => by
    have h : i = j := h
    omega
  | y :: l, i, j, hi, h => by
    unfold EndsR at h
    split at h
    · obtain ⟨⟨h1, _⟩, h2⟩ := h
      have := EndsR.bound (l := l) (by omega) h2
      omega
    · obtain ⟨b, h1, h2, _, h3⟩ := h
      have := EndsR.bound (l := l) h2 h3
      omega
end Nac.Gram
/- Sets of bytes: or, and, meets, has, span. -/
namespace Nac.Gram
def S4.ws (s : S4) : List Nat := [s.a, s.b, s.c, s.d]
/-- the words while the first k are done -/
def doneL (f : Nat → Nat → Nat) (s t : S4) (k : Nat) : List Nat := (List.range 4).map fun i => if i < k then f (s.word i) (t.word i) else s.word i
theorem doneL_len (f : Nat → Nat → Nat) (s t : S4) (k : Nat) : (doneL f s t k).length = 4 := by simp [doneL]
theorem doneL_get (f : Nat → Nat → Nat) (s t : S4) {k : Nat} (hk : k < 4) : (doneL f s t k)[k]? = some (s.word k) := by
  rcases (by omega : k = 0 ∨ k = 1 ∨ k = 2 ∨ k = 3) with rfl | rfl | rfl | rfl <;> rfl
theorem doneL_set (f : Nat → Nat → Nat) (s t : S4) {k : Nat} (hk : k < 4) : (doneL f s t k).set k (f (s.word k) (t.word k)) = doneL f s t (k + 1) := by
  rcases (by omega : k = 0 ∨ k = 1 ∨ k = 2 ∨ k = 3) with rfl | rfl | rfl | rfl <;> rfl
theorem doneL_zero (f : Nat → Nat → Nat) (s t : S4) : doneL f s t 0 = s.ws := rfl
theorem doneL_or (s t : S4) : doneL (· ||| ·) s t 4 = (s.or t).ws := rfl
theorem doneL_and (s t : S4) : doneL (· &&& ·) s t 4 = (s.and t).ws := rfl
theorem ws_get (s : S4) {k : Nat} (hk : k < 4) : s.ws[k]? = some (s.word k) := by
  rcases (by omega : k = 0 ∨ k = 1 ∨ k = 2 ∨ k = 3) with rfl | rfl | rfl | rfl <;> rfl
theorem S4.word_lt {s : S4} (h : s.ok) {k : Nat} (hk : k < 4) : s.word k < 18446744073709551616 := by
  have e : (18446744073709551616 : Nat) = 2 ^ 64 := by decide
  rw [e]
  rcases (by omega : k = 0 ∨ k = 1 ∨ k = 2 ∨ k = 3) with rfl | rfl | rfl | rfl
  · exact h.1
  · exact h.2.1
  · exact h.2.2.1
  · exact h.2.2.2
end Nac.Gram
namespace Go.Proofs.YtiebpmpjclnpeaaDoor
open Go.RowKit Nac Nac.Gram
def uw (x : Nat) : Value := .int .u64 (x : Int)
def wcs (l : List Nat) : List Value := l.map uw
def scs (s : S4) : List Value := wcs s.ws
theorem scs_len (s : S4) : (scs s).length = 4 := rfl
theorem wcs_one (l : List Nat) : ∀ v ∈ wcs l, v.oneCell' = true := fun v hv => by obtain ⟨x, _, rfl⟩ := List.mem_map.1 hv; rfl
theorem wcs_get {l : List Nat} {k x : Nat} (h : l[k]? = some x) : (wcs l)[k]? = some (.int .u64 (x : Int)) := by unfold wcs; rw [List.getElem?_map, h]; rfl
theorem wcs_set (l : List Nat) (k x : Nat) : (wcs l).set k (.int .u64 (x : Int)) = wcs (l.set k x) := by unfold wcs; rw [List.map_set]; rfl
theorem sS4 : SInfo 71 4 := ⟨by kernel_rfl, _, Tryd.underlying71, rfl⟩
theorem zS4 : ((Tryd.prog.info? 71).bind (·.zero)) = some (.agg (scs .zero).toArray) := by kernel_rfl
theorem s1U64 : (Tryd.prog.info? 41).map (·.size) = some 1 := by kernel_rfl
theorem grown_below {w1 w2 : World} {B : Nat} {row : Option Nat} (h : w1.grownBy w2 row) (hB : B ≤ w1.heap.size) (hr : ∀ k, row = some k → B ≤ k) : Below B w1 w2 :=
  ⟨h.os, h.tape, h.output, h.size, fun k hk => h.block k (Nat.lt_of_lt_of_le hk hB) fun e => by have := hr k e.symm; omega⟩
theorem below_trans {w w1 w2 : World} {B : Nat} (h : Below B w w1) (h2 : Below B w1 w2) : Below B w w2 :=
  ⟨h2.os.trans h.os, h2.tape.trans h.tape, h2.output.trans h.output, Nat.le_trans h.size h2.size, fun k hk => (h2.block k hk).trans (h.block k hk)⟩
/-- a value, and nothing older changed -/
def RetG (w : World) (v : Value) (e : Ending) (w' : World) : Prop := e = .returned v ∧ Below w.heap.size w w'
section
variable {w : World} {ops : Array Oper} {rest : List Oper} {o : Oper} {a : Act} {Q : Exit → Act → World → Prop}
theorem wpList_storeB (hg : o.guard = none) (ty : TypeId) (x y : Operand) (hop : o.op = .store ty x y) (b k : Nat) (cs : List Value) (v : Value) (hx : a.eval x = .pointer (some ⟨b, k, none⟩)) (hy : a.eval y = v) (hb : Blk w b cs) (hk : k < cs.length)
    (hi : (Tryd.prog.info? ty).map (·.size) = some 1) (h1 : v.oneCell' = true) (h : ∀ w', Blk w' b (cs.set k v) → w.grownBy w' (some b) → wpList Tryd.prog ops Q rest (a.put o.dst undef) w') : wpList Tryd.prog ops Q (o :: rest) a w :=
  wpList_store1 hg ty x y hop b k v cs[k] hx hy (hb.cell (List.getElem?_eq_getElem hk)) (hb.free k) hi h1 fun w' hw => by
    rw [hw.out]
    exact h _ (hb.setCell k v) (grown_setCell _ _ _)
end
/-- three blocks, made one after the other -/
structure B3 (w : World) (b2 b3 b4 : Nat) (c2 c3 c4 : List Value) (wr : World) : Prop where
  x2 : Blk wr b2 c2
  x3 : Blk wr b3 c3
  x4 : Blk wr b4 c4
  below : Below w.heap.size w wr
  l2 : w.heap.size ≤ b2
  n23 : b2 < b3
  n34 : b3 < b4
theorem B3.set2 {w wr w' : World} {b2 b3 b4 : Nat} {c2 c3 c4 c2' : List Value} (h : B3 w b2 b3 b4 c2 c3 c4 wr) (hb : Blk w' b2 c2') (hg : wr.grownBy w' (some b2)) : B3 w b2 b3 b4 c2' c3 c4 w' := by
  have h1 := h.n23
  have h2 := h.n34
  have h3 := h.l2
  exact ⟨hb, h.x3.grown hg (fun e => by injection e with e; omega), h.x4.grown hg (fun e => by injection e with e; omega), below_trans h.below (grown_below hg h.below.size fun k e => by injection e with e; omega), h.l2, h.n23, h.n34⟩
theorem B3.mono {w wr w' : World} {b2 b3 b4 : Nat} {c2 c3 c4 : List Value} (h : B3 w b2 b3 b4 c2 c3 c4 wr) (hb : Below wr.heap.size wr w') : B3 w b2 b3 b4 c2 c3 c4 w' :=
  ⟨h.x2.below hb h.x2.lt, h.x3.below hb h.x3.lt, h.x4.below hb h.x4.lt, below_trans h.below (hb.mono h.below.size), h.l2, h.n23, h.n34⟩
set_option maxRecDepth 100000 in
set_option maxHeartbeats 1000000 in
theorem or_calls (w : World) (s t : S4) (hs : s.ok) (ht : t.ok) :
    Calls Tryd.prog 42 #[.agg (scs s).toArray, .agg (scs t).toArray] w (RetG w (.agg (scs (s.or t)).toArray)) := by
  have HS := Lib.hid hs
  have HT := Lib.hid ht
  clear hs ht
  go_enter Tryd.func42, Tryd.ntmps42
  go_wp2_with (first | ((with_reducible show wpList _ _ _ (Oper.mk (some 2) (Op.box 71 _) _ _ _ _ :: _) _ _); refine wpList_boxS (T := 71) rfl _ rfl (scs s) rfl ?_) | fail)
  intro w1 hb1 hg1 hs1
  obtain ⟨b2, hb2⟩ : ∃ b, b = w.heap.size := ⟨_, rfl⟩
  rw [← hb2] at hb1 ⊢
  have HX1 : Hid (b2 = w.heap.size ∧ w1.heap.size = b2 + 1) := Lib.hid ⟨hb2, by omega⟩
  clear hs1 hb2
  go_wp2_with (first | ((with_reducible show wpList _ _ _ (Oper.mk (some 3) (Op.box 71 _) _ _ _ _ :: _) _ _); refine wpList_boxS (T := 71) rfl _ rfl (scs t) rfl ?_) | fail)
  intro w2 hb2' hg2 hs2
  obtain ⟨b3, hb3⟩ : ∃ b, b = w1.heap.size := ⟨_, rfl⟩
  rw [← hb3] at hb2' ⊢
  have HX2 : Hid (b3 = b2 + 1 ∧ w2.heap.size = b3 + 1) := Lib.hid (by have := HX1.out; omega)
  clear hs2 hb3
  go_wp2_with (first | ((with_reducible show wpList _ _ _ (Oper.mk _ (Op.alloc 71) _ _ _ _ :: _) _ _); refine wpList_allocS _ zS4 rfl rfl ?_) | fail)
  intro w3 hb3' hg3 hs3
  obtain ⟨b4, hb4⟩ : ∃ b, b = w2.heap.size := ⟨_, rfl⟩
  rw [← hb4] at hb3' ⊢
  have hx1 := HX1.out
  have hx2 := HX2.out
  have hB1 : Below w.heap.size w w1 := grown_below hg1 (Nat.le_refl _) fun k e => by cases e
  have hB2 : Below w.heap.size w w2 := below_trans hB1 (grown_below hg2 hB1.size fun k e => by cases e)
  have H0 : Hid (B3 w b2 b3 b4 (wcs (doneL (· ||| ·) s t 0)) (scs t) (scs .zero) w3) := Lib.hid ⟨(hb1.grown hg2 (fun e => by cases e)).grown hg3 (fun e => by cases e), hb2'.grown hg3 (fun e => by cases e), hb3', below_trans hB2 (grown_below hg3 hB2.size fun k e => by cases e), by omega, by omega, by omega⟩
  clear hb1 hg1 hb2' hg2 hb3' hg3 hs3 hb4 hB1 hB2 hx1 hx2 HX1 HX2
  go_wp2
  go_loopw [5, 6] (fun s5 s6 wr => ∃ k : Nat, k ≤ 4 ∧ s6 = .int .i64 (k : Int) ∧ B3 w b2 b3 b4 (wcs (doneL (· ||| ·) s t k)) (scs t) (scs .zero) wr) (fun _ s6 _ => 4 - (intOf s6).toNat)
  case atStart => exact ⟨0, Nat.zero_le _, rfl, H0.out⟩
  case round =>
    obtain ⟨k, hk, rfl, hr⟩ := hrel
    have HR := Lib.hid hr
    clear hr H0
    by_cases hlt : k < 4
    · obtain ⟨x, hx⟩ : ∃ x, x = s.word k := ⟨_, rfl⟩
      obtain ⟨y, hy⟩ : ∃ y, y = t.word k := ⟨_, rfl⟩
      obtain ⟨z, hz⟩ : ∃ z, z = x ||| y := ⟨_, rfl⟩
      have HRD : Hid (B3 w b2 b3 b4 (wcs (doneL (· ||| ·) s t k)) (scs t) (scs .zero) wr.drew) := Lib.hid (HR.out.mono ⟨rfl, rfl, rfl, Nat.le_refl _, fun _ _ => rfl⟩)
      have CX : Hid (∀ w', Below wr.drew.heap.size wr.drew w' → w'.cell? ⟨b2, k, none⟩ = some (.int .u64 (x : Int))) := Lib.hid fun w' hb => (HRD.out.mono hb).x2.cell (wcs_get (by rw [hx]; exact doneL_get _ s t hlt))
      have CY : Hid (∀ w', Below wr.drew.heap.size wr.drew w' → w'.cell? ⟨b3, k, none⟩ = some (.int .u64 (y : Int))) := Lib.hid fun w' hb => (HRD.out.mono hb).x3.cell (wcs_get (by rw [hy]; exact ws_get t hlt))
      have HZ : Hid (bits .or .u64 (x : Int) (y : Int) = ((z : Nat) : Int)) := Lib.hid (by rw [hz, bits_or_u64_nat _ _ (by rw [hx]; exact S4.word_lt HS.out hlt) (by rw [hy]; exact S4.word_lt HT.out hlt)])
      have HZE : Hid (z = s.word k ||| t.word k) := Lib.hid (by rw [hz, hx, hy])
      clear hx hy hz
      go_wp2_with fail
      refine region_tails 8 (fun ix9 => ([.is (.int .i64 (k : Int)), .is (.pointer (some ⟨b2, k, none⟩)), .is (.int .u64 (x : Int)), .is (.int .i64 (k : Int)), .is (.pointer (some ⟨b3, k, none⟩)), .is (.int .u64 (y : Int)), .is (.int .u64 ((z : Nat) : Int)), .is (.pointer (some ⟨b2, k, none⟩))] : List VD).getD ix9 (.is undef)) [some 9, some 10, some 11, some 12, some 13, some 14, some 15, some 16] (by kernel_rfl) (by kernel_rfl) (by kernel_rfl) (by kernel_rfl) rfl (fun ii hii => ?_) ?_
      · match ii, hii with
        | 0, _ => exact mstep_first rfl (mwant_none rfl) 5 (Or.inl rfl) (by kernel_rfl) (fun _ _ => rfl)
        | 1, _ => exact mstep_pure rfl (mwant_none rfl) (fun aa ww cc => ⟨.pointer (some ⟨b2, k, none⟩), by have e0 : aa.tmps.getD 2 undef = .pointer (some ⟨b2, 0, none⟩) := (cc.orig 2 (by kernel_rfl)).trans rfl; have e1 : aa.tmps.getD 9 undef = .int .i64 (k : Int) := cc.slot 0 9 (by kernel_rfl) rfl; simp only [execOp, Act.eval, e0, e1]; go_simp, rfl⟩)
        | 2, _ => exact mstep_pure rfl (mwant_none rfl) (fun aa ww cc => ⟨.int .u64 (x : Int), by have e0 : aa.tmps.getD 10 undef = .pointer (some ⟨b2, k, none⟩) := cc.slot 1 10 (by kernel_rfl) rfl; have q := CX.out _ cc.below; simp only [execOp, Act.eval, e0]; go_simp, rfl⟩)
        | 3, _ => exact mstep_first rfl (mwant_none rfl) 5 (Or.inl rfl) (by kernel_rfl) (fun _ _ => rfl)
        | 4, _ => exact mstep_pure rfl (mwant_none rfl) (fun aa ww cc => ⟨.pointer (some ⟨b3, k, none⟩), by have e0 : aa.tmps.getD 3 undef = .pointer (some ⟨b3, 0, none⟩) := (cc.orig 3 (by kernel_rfl)).trans rfl; have e1 : aa.tmps.getD 12 undef = .int .i64 (k : Int) := cc.slot 3 12 (by kernel_rfl) rfl; simp only [execOp, Act.eval, e0, e1]; go_simp, rfl⟩)
        | 5, _ => exact mstep_pure rfl (mwant_none rfl) (fun aa ww cc => ⟨.int .u64 (y : Int), by have e0 : aa.tmps.getD 13 undef = .pointer (some ⟨b3, k, none⟩) := cc.slot 4 13 (by kernel_rfl) rfl; have q := CY.out _ cc.below; simp only [execOp, Act.eval, e0]; go_simp, rfl⟩)
        | 6, _ => exact mstep_pure rfl (mwant_none rfl) (fun aa ww cc => ⟨.int .u64 ((z : Nat) : Int), by have e0 : aa.tmps.getD 11 undef = .int .u64 (x : Int) := cc.slot 2 11 (by kernel_rfl) rfl; have e1 : aa.tmps.getD 14 undef = .int .u64 (y : Int) := cc.slot 5 14 (by kernel_rfl) rfl; have q := HZ.out; simp only [execOp, Act.eval, e0, e1]; go_simp, rfl⟩)
        | 7, _ => exact mstep_pure rfl (mwant_none rfl) (fun aa ww cc => ⟨.pointer (some ⟨b2, k, none⟩), by have e0 : aa.tmps.getD 2 undef = .pointer (some ⟨b2, 0, none⟩) := (cc.orig 2 (by kernel_rfl)).trans rfl; have e1 : aa.tmps.getD 9 undef = .int .i64 (k : Int) := cc.slot 0 9 (by kernel_rfl) rfl; simp only [execOp, Act.eval, e0, e1]; go_simp, rfl⟩)
        | n + 8, h => exact absurd h (by show ¬ (n + 8 < 8); omega)
      · intro VV w5 hlen hb5 hok
        match VV, hlen with
        | [v0, v1, v2, v3, v4, v5, v6, v7], _ =>
          obtain rfl : v0 = .int .i64 (k : Int) := hok 0 9 rfl
          obtain rfl : v1 = .pointer (some ⟨b2, k, none⟩) := hok 1 10 rfl
          obtain rfl : v2 = .int .u64 (x : Int) := hok 2 11 rfl
          obtain rfl : v3 = .int .i64 (k : Int) := hok 3 12 rfl
          obtain rfl : v4 = .pointer (some ⟨b3, k, none⟩) := hok 4 13 rfl
          obtain rfl : v5 = .int .u64 (y : Int) := hok 5 14 rfl
          obtain rfl : v6 = .int .u64 ((z : Nat) : Int) := hok 6 15 rfl
          obtain rfl : v7 = .pointer (some ⟨b2, k, none⟩) := hok 7 16 rfl
          have HR5 : Hid (B3 w b2 b3 b4 (wcs (doneL (· ||| ·) s t k)) (scs t) (scs .zero) w5) := Lib.hid (HR.out.mono hb5)
          clear hb5 hok CX CY HZ HR HRD
          simp only [List.zip_cons_cons, List.zip_nil_right, putsL]
          go_simp
          go_wp2_with ((with_reducible show wpList _ _ _ (Oper.mk _ (Op.store _ _ _) _ _ _ _ :: _) _ _); refine wpList_storeB rfl 41 _ _ rfl b2 k _ (.int .u64 (z : Int)) rfl rfl HR5.out.x2 (by rw [wcs, List.length_map, doneL_len]; exact hlt) s1U64 rfl ?_)
          intro w6 hb6 hg6
          have HR6 : Hid (B3 w b2 b3 b4 (wcs (doneL (· ||| ·) s t (k + 1))) (scs t) (scs .zero) w6) := Lib.hid (HR5.out.set2 (by rw [wcs_set, HZE.out, doneL_set (· ||| ·) s t hlt] at hb6; exact hb6) hg6)
          clear hb6 hg6 HR5 HZE
          go_wp2
          go_roundw
          case rel => exact ⟨k + 1, by omega, by go_num, HR6.out⟩
          case measure => simp [intOf]; omega
    · obtain rfl : k = 4 := by omega
      go_wp2_with (first | ((with_reducible show wpList _ _ _ (Oper.mk _ (Op.load 71 _) _ _ _ _ :: _) _ _); refine wpList_loadS sS4 rfl _ rfl b2 (scs (s.or t)) rfl HR.out.x2 rfl ?_) | ((with_reducible show wpList _ _ _ (Oper.mk _ (Op.store 71 _ _) _ _ _ _ :: _) _ _); refine wpList_storeS sS4 rfl _ _ rfl b4 (scs .zero) (scs (s.or t)) rfl rfl HR.out.x4 rfl rfl (wcs_one _) ?_))
      intro w8 hb8 hg8
      have l8 := Lib.hid (run_loadS sS4 b4 _ hb8 rfl)
      have HRES : Hid (Below w.heap.size w w8) := Lib.hid (below_trans HR.out.below (grown_below hg8 HR.out.below.size fun k e => by injection e with e; have := HR.out.l2; have := HR.out.n23; have := HR.out.n34; omega))
      clear hb8 hg8
      go_wp2
      exact bodyPost_ret (v := .agg (scs (s.or t)).toArray) (by simp [results, Tryd.results42, asAddr, Sem.run_bind, Sem.run_pure, l8.out]) rfl ⟨rfl, HRES.out⟩
set_option maxRecDepth 100000 in
set_option maxHeartbeats 1000000 in
theorem and_calls (w : World) (s t : S4) (hs : s.ok) (ht : t.ok) :
    Calls Tryd.prog 48 #[.agg (scs s).toArray, .agg (scs t).toArray] w (RetG w (.agg (scs (s.and t)).toArray)) := by
  have HS := Lib.hid hs
  have HT := Lib.hid ht
  clear hs ht
  go_enter Tryd.func48, Tryd.ntmps48
  go_wp2_with (first | ((with_reducible show wpList _ _ _ (Oper.mk (some 2) (Op.box 71 _) _ _ _ _ :: _) _ _); refine wpList_boxS (T := 71) rfl _ rfl (scs s) rfl ?_) | fail)
  intro w1 hb1 hg1 hs1
  obtain ⟨b2, hb2⟩ : ∃ b, b = w.heap.size := ⟨_, rfl⟩
  rw [← hb2] at hb1 ⊢
  have HX1 : Hid (b2 = w.heap.size ∧ w1.heap.size = b2 + 1) := Lib.hid ⟨hb2, by omega⟩
  clear hs1 hb2
  go_wp2_with (first | ((with_reducible show wpList _ _ _ (Oper.mk (some 3) (Op.box 71 _) _ _ _ _ :: _) _ _); refine wpList_boxS (T := 71) rfl _ rfl (scs t) rfl ?_) | fail)
  intro w2 hb2' hg2 hs2
  obtain ⟨b3, hb3⟩ : ∃ b, b = w1.heap.size := ⟨_, rfl⟩
  rw [← hb3] at hb2' ⊢
  have HX2 : Hid (b3 = b2 + 1 ∧ w2.heap.size = b3 + 1) := Lib.hid (by have := HX1.out; omega)
  clear hs2 hb3
  go_wp2_with (first | ((with_reducible show wpList _ _ _ (Oper.mk _ (Op.alloc 71) _ _ _ _ :: _) _ _); refine wpList_allocS _ zS4 rfl rfl ?_) | fail)
  intro w3 hb3' hg3 hs3
  obtain ⟨b4, hb4⟩ : ∃ b, b = w2.heap.size := ⟨_, rfl⟩
  rw [← hb4] at hb3' ⊢
  have hx1 := HX1.out
  have hx2 := HX2.out
  have hB1 : Below w.heap.size w w1 := grown_below hg1 (Nat.le_refl _) fun k e => by cases e
  have hB2 : Below w.heap.size w w2 := below_trans hB1 (grown_below hg2 hB1.size fun k e => by cases e)
  have H0 : Hid (B3 w b2 b3 b4 (wcs (doneL (· &&& ·) s t 0)) (scs t) (scs .zero) w3) := Lib.hid ⟨(hb1.grown hg2 (fun e => by cases e)).grown hg3 (fun e => by cases e), hb2'.grown hg3 (fun e => by cases e), hb3', below_trans hB2 (grown_below hg3 hB2.size fun k e => by cases e), by omega, by omega, by omega⟩
  clear hb1 hg1 hb2' hg2 hb3' hg3 hs3 hb4 hB1 hB2 hx1 hx2 HX1 HX2
  go_wp2
  go_loopw [5, 6] (fun s5 s6 wr => ∃ k : Nat, k ≤ 4 ∧ s6 = .int .i64 (k : Int) ∧ B3 w b2 b3 b4 (wcs (doneL (· &&& ·) s t k)) (scs t) (scs .zero) wr) (fun _ s6 _ => 4 - (intOf s6).toNat)
  case atStart => exact ⟨0, Nat.zero_le _, rfl, H0.out⟩
  case round =>
    obtain ⟨k, hk, rfl, hr⟩ := hrel
    have HR := Lib.hid hr
    clear hr H0
    by_cases hlt : k < 4
    · obtain ⟨x, hx⟩ : ∃ x, x = s.word k := ⟨_, rfl⟩
      obtain ⟨y, hy⟩ : ∃ y, y = t.word k := ⟨_, rfl⟩
      obtain ⟨z, hz⟩ : ∃ z, z = x &&& y := ⟨_, rfl⟩
      have HRD : Hid (B3 w b2 b3 b4 (wcs (doneL (· &&& ·) s t k)) (scs t) (scs .zero) wr.drew) := Lib.hid (HR.out.mono ⟨rfl, rfl, rfl, Nat.le_refl _, fun _ _ => rfl⟩)
      have CX : Hid (∀ w', Below wr.drew.heap.size wr.drew w' → w'.cell? ⟨b2, k, none⟩ = some (.int .u64 (x : Int))) := Lib.hid fun w' hb => (HRD.out.mono hb).x2.cell (wcs_get (by rw [hx]; exact doneL_get _ s t hlt))
      have CY : Hid (∀ w', Below wr.drew.heap.size wr.drew w' → w'.cell? ⟨b3, k, none⟩ = some (.int .u64 (y : Int))) := Lib.hid fun w' hb => (HRD.out.mono hb).x3.cell (wcs_get (by rw [hy]; exact ws_get t hlt))
      have HZ : Hid (bits .and .u64 (x : Int) (y : Int) = ((z : Nat) : Int)) := Lib.hid (by rw [hz, bits_and_u64_nat _ _ (by rw [hx]; exact S4.word_lt HS.out hlt) (by rw [hy]; exact S4.word_lt HT.out hlt)])
      have HZE : Hid (z = s.word k &&& t.word k) := Lib.hid (by rw [hz, hx, hy])
      clear hx hy hz
      go_wp2_with fail
      refine region_tails 8 (fun ix9 => ([.is (.int .i64 (k : Int)), .is (.pointer (some ⟨b2, k, none⟩)), .is (.int .u64 (x : Int)), .is (.int .i64 (k : Int)), .is (.pointer (some ⟨b3, k, none⟩)), .is (.int .u64 (y : Int)), .is (.int .u64 ((z : Nat) : Int)), .is (.pointer (some ⟨b2, k, none⟩))] : List VD).getD ix9 (.is undef)) [some 9, some 10, some 11, some 12, some 13, some 14, some 15, some 16] (by kernel_rfl) (by kernel_rfl) (by kernel_rfl) (by kernel_rfl) rfl (fun ii hii => ?_) ?_
      · match ii, hii with
        | 0, _ => exact mstep_first rfl (mwant_none rfl) 5 (Or.inl rfl) (by kernel_rfl) (fun _ _ => rfl)
        | 1, _ => exact mstep_pure rfl (mwant_none rfl) (fun aa ww cc => ⟨.pointer (some ⟨b2, k, none⟩), by have e0 : aa.tmps.getD 2 undef = .pointer (some ⟨b2, 0, none⟩) := (cc.orig 2 (by kernel_rfl)).trans rfl; have e1 : aa.tmps.getD 9 undef = .int .i64 (k : Int) := cc.slot 0 9 (by kernel_rfl) rfl; simp only [execOp, Act.eval, e0, e1]; go_simp, rfl⟩)
        | 2, _ => exact mstep_pure rfl (mwant_none rfl) (fun aa ww cc => ⟨.int .u64 (x : Int), by have e0 : aa.tmps.getD 10 undef = .pointer (some ⟨b2, k, none⟩) := cc.slot 1 10 (by kernel_rfl) rfl; have q := CX.out _ cc.below; simp only [execOp, Act.eval, e0]; go_simp, rfl⟩)
        | 3, _ => exact mstep_first rfl (mwant_none rfl) 5 (Or.inl rfl) (by kernel_rfl) (fun _ _ => rfl)
        | 4, _ => exact mstep_pure rfl (mwant_none rfl) (fun aa ww cc => ⟨.pointer (some ⟨b3, k, none⟩), by have e0 : aa.tmps.getD 3 undef = .pointer (some ⟨b3, 0, none⟩) := (cc.orig 3 (by kernel_rfl)).trans rfl; have e1 : aa.tmps.getD 12 undef = .int .i64 (k : Int) := cc.slot 3 12 (by kernel_rfl) rfl; simp only [execOp, Act.eval, e0, e1]; go_simp, rfl⟩)
        | 5, _ => exact mstep_pure rfl (mwant_none rfl) (fun aa ww cc => ⟨.int .u64 (y : Int), by have e0 : aa.tmps.getD 13 undef = .pointer (some ⟨b3, k, none⟩) := cc.slot 4 13 (by kernel_rfl) rfl; have q := CY.out _ cc.below; simp only [execOp, Act.eval, e0]; go_simp, rfl⟩)
        | 6, _ => exact mstep_pure rfl (mwant_none rfl) (fun aa ww cc => ⟨.int .u64 ((z : Nat) : Int), by have e0 : aa.tmps.getD 11 undef = .int .u64 (x : Int) := cc.slot 2 11 (by kernel_rfl) rfl; have e1 : aa.tmps.getD 14 undef = .int .u64 (y : Int) := cc.slot 5 14 (by kernel_rfl) rfl; have q := HZ.out; simp only [execOp, Act.eval, e0, e1]; go_simp, rfl⟩)
        | 7, _ => exact mstep_pure rfl (mwant_none rfl) (fun aa ww cc => ⟨.pointer (some ⟨b2, k, none⟩), by have e0 : aa.tmps.getD 2 undef = .pointer (some ⟨b2, 0, none⟩) := (cc.orig 2 (by kernel_rfl)).trans rfl; have e1 : aa.tmps.getD 9 undef = .int .i64 (k : Int) := cc.slot 0 9 (by kernel_rfl) rfl; simp only [execOp, Act.eval, e0, e1]; go_simp, rfl⟩)
        | n + 8, h => exact absurd h (by show ¬ (n + 8 < 8); omega)
      · intro VV w5 hlen hb5 hok
        match VV, hlen with
        | [v0, v1, v2, v3, v4, v5, v6, v7], _ =>
          obtain rfl : v0 = .int .i64 (k : Int) := hok 0 9 rfl
          obtain rfl : v1 = .pointer (some ⟨b2, k, none⟩) := hok 1 10 rfl
          obtain rfl : v2 = .int .u64 (x : Int) := hok 2 11 rfl
          obtain rfl : v3 = .int .i64 (k : Int) := hok 3 12 rfl
          obtain rfl : v4 = .pointer (some ⟨b3, k, none⟩) := hok 4 13 rfl
          obtain rfl : v5 = .int .u64 (y : Int) := hok 5 14 rfl
          obtain rfl : v6 = .int .u64 ((z : Nat) : Int) := hok 6 15 rfl
          obtain rfl : v7 = .pointer (some ⟨b2, k, none⟩) := hok 7 16 rfl
          have HR5 : Hid (B3 w b2 b3 b4 (wcs (doneL (· &&& ·) s t k)) (scs t) (scs .zero) w5) := Lib.hid (HR.out.mono hb5)
          clear hb5 hok CX CY HZ HR HRD
          simp only [List.zip_cons_cons, List.zip_nil_right, putsL]
          go_simp
          go_wp2_with ((with_reducible show wpList _ _ _ (Oper.mk _ (Op.store _ _ _) _ _ _ _ :: _) _ _); refine wpList_storeB rfl 41 _ _ rfl b2 k _ (.int .u64 (z : Int)) rfl rfl HR5.out.x2 (by rw [wcs, List.length_map, doneL_len]; exact hlt) s1U64 rfl ?_)
          intro w6 hb6 hg6
          have HR6 : Hid (B3 w b2 b3 b4 (wcs (doneL (· &&& ·) s t (k + 1))) (scs t) (scs .zero) w6) := Lib.hid (HR5.out.set2 (by rw [wcs_set, HZE.out, doneL_set (· &&& ·) s t hlt] at hb6; exact hb6) hg6)
          clear hb6 hg6 HR5 HZE
          go_wp2
          go_roundw
          case rel => exact ⟨k + 1, by omega, by go_num, HR6.out⟩
          case measure => simp [intOf]; omega
    · obtain rfl : k = 4 := by omega
      go_wp2_with (first | ((with_reducible show wpList _ _ _ (Oper.mk _ (Op.load 71 _) _ _ _ _ :: _) _ _); refine wpList_loadS sS4 rfl _ rfl b2 (scs (s.and t)) rfl HR.out.x2 rfl ?_) | ((with_reducible show wpList _ _ _ (Oper.mk _ (Op.store 71 _ _) _ _ _ _ :: _) _ _); refine wpList_storeS sS4 rfl _ _ rfl b4 (scs .zero) (scs (s.and t)) rfl rfl HR.out.x4 rfl rfl (wcs_one _) ?_))
      intro w8 hb8 hg8
      have l8 := Lib.hid (run_loadS sS4 b4 _ hb8 rfl)
      have HRES : Hid (Below w.heap.size w w8) := Lib.hid (below_trans HR.out.below (grown_below hg8 HR.out.below.size fun k e => by injection e with e; have := HR.out.l2; have := HR.out.n23; have := HR.out.n34; omega))
      clear hb8 hg8
      go_wp2
      exact bodyPost_ret (v := .agg (scs (s.and t)).toArray) (by simp [results, Tryd.results48, asAddr, Sem.run_bind, Sem.run_pure, l8.out]) rfl ⟨rfl, HRES.out⟩
end Go.Proofs.YtiebpmpjclnpeaaDoor
/- Facts as cells; two of them, and two sets, compared as values. -/
namespace Nac
open Go
section
variable {P : Program} (w : World)
theorem eqItems_gen {X : Type} [DecidableEq X] (val : X → Value) (e : TypeId) (k d : Nat) (xs ys : Array Value) (L M : List X)
    (px : ∀ i (h : i < L.length), (part e xs (i * k)).run P w = .ok (val L[i]) w) (py : ∀ i (h : i < M.length), (part e ys (i * k)).run P w = .ok (val M[i]) w)
    (he : ∀ x y, (Op.equalIn d e (val x) (val y)).run P w = .ok (decide (x = y)) w) : ∀ is : List Nat, (∀ i ∈ is, i < L.length ∧ i < M.length) →
    (Op.eqItems d e k xs ys is).run P w = .ok (is.all fun i => decide (L[i]? = M[i]?)) w
  | [], _ => by simp [Op.eqItems]
  | i :: is, h => by
    obtain ⟨h1, h2⟩ := h i List.mem_cons_self
    have ih := eqItems_gen val e k d xs ys L M px py he is (fun j hj => h j (List.mem_cons_of_mem _ hj))
    have p1 := px i h1
    have p2 := py i h2
    have p3 := he L[i] M[i]
    have hd : decide (L[i]? = M[i]?) = decide (L[i] = M[i]) := by rw [List.getElem?_eq_getElem h1, List.getElem?_eq_getElem h2]; simp
    simp only [Op.eqItems, Sem.run_bind, p1, p2, p3, Result.andThen_ok, List.all_cons, hd]
    cases decide (L[i] = M[i])
    · simp
    · simpa using ih
theorem all_eq {X : Type} [DecidableEq X] (L M : List X) (n : Nat) (hL : L.length = n) (hM : M.length = n) : ((List.range n).all fun i => decide (L[i]? = M[i]?)) = decide (L = M) := by
  rw [Bool.eq_iff_iff, List.all_eq_true, decide_eq_true_iff]
  constructor
  · intro h
    refine List.ext_getElem (by omega) fun i h1 h2 => ?_
    have := h i (by simp; omega)
    rw [decide_eq_true_iff, List.getElem?_eq_getElem h1, List.getElem?_eq_getElem h2] at this
    simpa using this
  · rintro rfl i _
    simp
theorem part_agg {T : TypeId} {n : Nat} (ha : (∃ m e, P.underlying T = some (.array m e)) ∨ ∃ fs, P.underlying T = some (.struct fs)) (hs : (P.info? T).map (·.size) = some n) (l : List Value) (off : Nat) : (part T l.toArray off).run P w = .ok (.agg ((l.drop off).take n).toArray) w := by
  cases hi : P.info? T with
  | none => simp [hi] at hs
  | some i =>
    have hz : i.size = n := by simpa [hi] using hs
    rcases ha with ⟨m, e, hu⟩ | ⟨fs, hu⟩ <;> simp [part, isAgg, run_underlying hu, Go.sizeOf, typeInfo, hi, hz]
theorem flat_part {X : Type} {k : Nat} (c : X → List Value) (hc : ∀ x, (c x).length = k) : ∀ (L : List X) (i : Nat) (h : i < L.length), (((L.map c).flatten).drop (i * k)).take k = c L[i]
  | x :: L, 0, _ => by
    rw [Nat.zero_mul, List.drop_zero, List.map_cons, List.flatten_cons, List.take_append_of_le_length (by rw [hc]; exact Nat.le_refl _), List.take_of_length_le (by rw [hc]; exact Nat.le_refl _)]
    rfl
  | x :: L, i + 1, h => by
    have ih := flat_part c hc L i (by simpa using h)
    rw [List.map_cons, List.flatten_cons, Nat.succ_mul, List.drop_append, List.drop_of_length_le (by rw [hc]; omega), List.nil_append, hc, Nat.add_sub_cancel, ih]
    rfl
theorem flat_len {X : Type} {k : Nat} (c : X → List Value) (hc : ∀ x, (c x).length = k) : ∀ (L : List X), ((L.map c).flatten).length = L.length * k
  | [] => by simp
  | x :: L => by rw [List.map_cons, List.flatten_cons, List.length_append, flat_len c hc L, hc, List.length_cons, Nat.succ_mul, Nat.add_comm]
end
end Nac
namespace Go.Proofs.YtiebpmpjclnpeaaDoor
open Go.RowKit Nac Nac.Gram
theorem uB : Tryd.prog.underlying 4 = some .bool := by kernel_rfl
theorem uU64 : Tryd.prog.underlying 41 = some (.int .u64) := by kernel_rfl
theorem kB : Tryd.prog.plainKey 4 = true := by kernel_rfl
theorem kU64 : Tryd.prog.plainKey 41 = true := by kernel_rfl
theorem uSet : Tryd.prog.underlying 71 = some (.array 4 41) := by kernel_rfl
theorem uBs : Tryd.prog.underlying 69 = some (.array 16 4) := by kernel_rfl
theorem uSets : Tryd.prog.underlying 72 = some (.array 16 71) := by kernel_rfl
theorem szSet : (Tryd.prog.info? 71).map (·.size) = some 4 := by kernel_rfl
theorem szBs : (Tryd.prog.info? 69).map (·.size) = some 16 := by kernel_rfl
theorem szSets : (Tryd.prog.info? 72).map (·.size) = some 64 := by kernel_rfl
theorem inB : (Tryd.prog.info? 4).isSome = true := by kernel_rfl
theorem inU : (Tryd.prog.info? 41).isSome = true := by kernel_rfl
theorem inS : (Tryd.prog.info? 71).isSome = true := by kernel_rfl
theorem ceB : Tryd.prog.cellsOf 4 = 1 := by kernel_rfl
theorem ceU : Tryd.prog.cellsOf 41 = 1 := by kernel_rfl
theorem ceS : Tryd.prog.cellsOf 71 = 4 := by kernel_rfl
theorem ws_inj {s t : S4} (h : s.ws = t.ws) : s = t := by
  obtain ⟨a, b, c, d⟩ := s
  obtain ⟨a', b', c', d'⟩ := t
  simp [S4.ws] at h
  obtain ⟨rfl, rfl, rfl, rfl⟩ := h
  rfl
set_option maxRecDepth 100000 in
theorem eqIn_set (w : World) (d : Nat) (s t : S4) : (Op.equalIn (d + 2) 71 (.agg (scs s).toArray) (.agg (scs t).toArray)).run Tryd.prog w = .ok (decide (s = t)) w := by
  obtain ⟨i, hi⟩ := Option.isSome_iff_exists.1 inU
  rw [run_equalIn_array w (d + 1) _ _ uSet hi, ceU]
  have hp : ∀ (l : List Nat) i (h : i < l.length), (part 41 (wcs l).toArray (i * 1)).run Tryd.prog w = .ok (uw l[i]) w := fun l i h => run_part_plain w kU64 (by rw [Nat.mul_one]; simp [wcs, h])
  have he : ∀ x y : Nat, (Op.equalIn (d + 1) 41 (uw x) (uw y)).run Tryd.prog w = .ok (decide (x = y)) w := fun x y => by
    rw [show uw x = .int .u64 (x : Int) from rfl, show uw y = .int .u64 (y : Int) from rfl, run_equalIn_int w d _ .u64 .u64 _ _ uU64]
    congr 1
    rw [Bool.eq_iff_iff, beq_iff_eq, decide_eq_true_iff, Int.natCast_inj]
  have := eqItems_gen (P := Tryd.prog) w uw 41 1 (d + 1) (wcs s.ws).toArray (wcs t.ws).toArray s.ws t.ws (hp _) (hp _) he (List.range 4) (fun i hi => by
    have : i < 4 := by simpa using hi
    exact ⟨this, this⟩)
  rw [show (scs s) = wcs s.ws from rfl, show (scs t) = wcs t.ws from rfl, this, all_eq _ _ 4 rfl rfl]
  congr 1
  rw [Bool.eq_iff_iff, decide_eq_true_iff, decide_eq_true_iff]
  exact ⟨ws_inj, fun e => by rw [e]⟩
set_option maxRecDepth 100000 in
theorem run_neq_set (w : World) (p q : Operand) (s t : S4) : (do eqGuard .neq 71 p q (.agg (scs s).toArray) (.agg (scs t).toArray); binOp .neq 71 (.agg (scs s).toArray) (.agg (scs t).toArray) : Sem Value).run Tryd.prog w = .ok (.bool (!decide (s = t))) w := by
  have g : Tryd.prog.eqGuardType Tryd.prog.depth 71 = false := by kernel_rfl
  have h1 : (eqGuard .neq 71 p q (.agg (scs s).toArray) (.agg (scs t).toArray)).run Tryd.prog w = .ok () w := by simp [eqGuard, g]
  have h2 : (Op.equal 71 (.agg (scs s).toArray) (.agg (scs t).toArray)).run Tryd.prog w = .ok (decide (s = t)) w := by
    unfold Op.equal Op.maxDepth
    exact eqIn_set w 9998 s t
  rw [Sem.run_bind, h1]
  simp [binOp, h2]
/-! ### facts -/
def bcs (l : List Bool) : List Value := l.map Value.bool
def sets (l : List S4) : List Value := (l.map scs).flatten
def fcells (F : Fx) : List Value := bcs F.text ++ (bcs F.null ++ (sets F.first ++ sets F.follow))
theorem sets_len (l : List S4) : (sets l).length = l.length * 4 := flat_len scs (fun _ => rfl) l
theorem fcells_len {F : Fx} (h : F.Ok) : (fcells F).length = 160 := by
  unfold fcells
  rw [List.length_append, List.length_append, List.length_append, sets_len, sets_len, h.f, h.o]
  simp [bcs, h.t, h.n]
theorem eqIn_bools (w : World) (d : Nat) (l m : List Bool) (hl : l.length = 16) (hm : m.length = 16) : (Op.equalIn (d + 2) 69 (.agg (bcs l).toArray) (.agg (bcs m).toArray)).run Tryd.prog w = .ok (decide (l = m)) w := by
  obtain ⟨i, hi⟩ := Option.isSome_iff_exists.1 inB
  rw [run_equalIn_array w (d + 1) _ _ uBs hi, ceB]
  have hp : ∀ (l : List Bool) i (h : i < l.length), (part 4 (bcs l).toArray (i * 1)).run Tryd.prog w = .ok (Value.bool l[i]) w := fun l i h => run_part_plain w kB (by rw [Nat.mul_one]; simp [bcs, h])
  have he : ∀ x y : Bool, (Op.equalIn (d + 1) 4 (.bool x) (.bool y)).run Tryd.prog w = .ok (decide (x = y)) w := fun x y => by
    rw [run_equalIn_bool w d _ _ _ uB]
    cases x <;> cases y <;> rfl
  have := eqItems_gen (P := Tryd.prog) w Value.bool 4 1 (d + 1) (bcs l).toArray (bcs m).toArray l m (hp _) (hp _) he (List.range 16) (fun i hi => by
    have : i < 16 := by simpa using hi
    omega)
  rw [this, all_eq _ _ 16 hl hm]
theorem eqIn_sets (w : World) (d : Nat) (l m : List S4) (hl : l.length = 16) (hm : m.length = 16) : (Op.equalIn (d + 3) 72 (.agg (sets l).toArray) (.agg (sets m).toArray)).run Tryd.prog w = .ok (decide (l = m)) w := by
  obtain ⟨i, hi⟩ := Option.isSome_iff_exists.1 inS
  rw [run_equalIn_array w (d + 2) _ _ uSets hi, ceS]
  have hp : ∀ (l : List S4) i (h : i < l.length), (part 71 (sets l).toArray (i * 4)).run Tryd.prog w = .ok (Value.agg (scs l[i]).toArray) w := fun l i h => by
    rw [part_agg w (.inl ⟨_, _, uSet⟩) szSet, show sets l = (l.map scs).flatten from rfl, flat_part scs (fun _ => rfl) l i h]
  have := eqItems_gen (P := Tryd.prog) w (fun s => Value.agg (scs s).toArray) 71 4 (d + 2) (sets l).toArray (sets m).toArray l m (hp _) (hp _) (fun x y => eqIn_set w d x y) (List.range 16) (fun i hi => by
    have : i < 16 := by simpa using hi
    omega)
  rw [this, all_eq _ _ 16 hl hm]
theorem fieldsFx : Tryd.prog.underlying 74 = some (.struct (Tryd.prog.fieldsOf 74)) := by kernel_rfl
theorem stoodFx : Tryd.prog.stoodInHeld 74 = false := by kernel_rfl
theorem partsFx : (Tryd.prog.fieldsOf 74).toList.map (fun f => (f.name != "_", f.type, f.offset)) = [(true, 69, 0), (true, 69, 16), (true, 72, 32), (true, 72, 96)] := by kernel_rfl
theorem eqFields_cons (w : World) (d : Nat) (xs ys : Array Value) (f : Field) (fs : List Field) (a b : Value) (r : Bool) (hn : (f.name != "_") = true)
    (h1 : (part f.type xs f.offset).run Tryd.prog w = .ok a w) (h2 : (part f.type ys f.offset).run Tryd.prog w = .ok b w) (h3 : (Op.equalIn d f.type a b).run Tryd.prog w = .ok r w) (r' : Bool)
    (h4 : (Op.eqFields d xs ys fs).run Tryd.prog w = .ok r' w) : (Op.eqFields d xs ys (f :: fs)).run Tryd.prog w = .ok (r && r') w := by
  have hn' : f.name ≠ "_" := by simpa using hn
  simp only [Op.eqFields, hn', ne_eq, not_false_eq_true, if_true, Sem.run_bind, h1, h2, h3, Result.andThen_ok]
  cases r
  · simp
  · simpa using h4
theorem cut0 {F : Fx} (h : F.Ok) : ((fcells F).drop 0).take 16 = bcs F.text := by
  unfold fcells
  rw [List.drop_zero, List.take_append_of_le_length (by simp [bcs, h.t]), List.take_of_length_le (by simp [bcs, h.t])]
theorem cut1 {F : Fx} (h : F.Ok) : ((fcells F).drop 16).take 16 = bcs F.null := by
  have l1 : (bcs F.text).length = 16 := by simp [bcs, h.t]
  have l2 : (bcs F.null).length = 16 := by simp [bcs, h.n]
  unfold fcells
  rw [List.drop_append, List.drop_of_length_le (by rw [l1]; exact Nat.le_refl _), List.nil_append, l1, Nat.sub_self, List.drop_zero, List.take_append_of_le_length (by rw [l2]; exact Nat.le_refl _), List.take_of_length_le (by rw [l2]; exact Nat.le_refl _)]
theorem cut2 {F : Fx} (h : F.Ok) : ((fcells F).drop 32).take 64 = sets F.first := by
  have l1 : (bcs F.text).length = 16 := by simp [bcs, h.t]
  have l2 : (bcs F.null).length = 16 := by simp [bcs, h.n]
  have l3 : (sets F.first).length = 64 := by rw [sets_len, h.f]
  unfold fcells
  rw [List.drop_append, List.drop_of_length_le (by rw [l1]; decide), List.nil_append, l1, List.drop_append, List.drop_of_length_le (by rw [l2]; decide), List.nil_append, l2, show 32 - 16 - 16 = 0 from rfl, List.drop_zero, List.take_append_of_le_length (by rw [l3]; exact Nat.le_refl _), List.take_of_length_le (by rw [l3]; exact Nat.le_refl _)]
theorem cut3 {F : Fx} (h : F.Ok) : ((fcells F).drop 96).take 64 = sets F.follow := by
  have l1 : (bcs F.text).length = 16 := by simp [bcs, h.t]
  have l2 : (bcs F.null).length = 16 := by simp [bcs, h.n]
  have l3 : (sets F.first).length = 64 := by rw [sets_len, h.f]
  have l4 : (sets F.follow).length = 64 := by rw [sets_len, h.o]
  unfold fcells
  rw [List.drop_append, List.drop_of_length_le (by rw [l1]; decide), List.nil_append, l1, List.drop_append, List.drop_of_length_le (by rw [l2]; decide), List.nil_append, l2, List.drop_append, List.drop_of_length_le (by rw [l3]; decide), List.nil_append, l3, show 96 - 16 - 16 - 64 = 0 from rfl, List.drop_zero, List.take_of_length_le (by rw [l4]; exact Nat.le_refl _)]
theorem fx_decide (F G : Fx) : (decide (F.text = G.text) && (decide (F.null = G.null) && (decide (F.first = G.first) && (decide (F.follow = G.follow) && true)))) = decide (F = G) := by
  rw [Bool.eq_iff_iff]
  obtain ⟨a, b, c, d⟩ := F
  obtain ⟨a', b', c', d'⟩ := G
  simp
set_option maxRecDepth 100000 in
theorem run_equal_fx (w : World) (F G : Fx) (hF : F.Ok) (hG : G.Ok) : (Op.equal 74 (.agg (fcells F).toArray) (.agg (fcells G).toArray)).run Tryd.prog w = .ok (decide (F = G)) w := by
  unfold Op.equal Op.maxDepth
  rw [run_equalIn_struct w 9999 _ _ _ fieldsFx stoodFx]
  have hf := partsFx
  have hlen : (Tryd.prog.fieldsOf 74).toList.length = 4 := by simpa using congrArg List.length hf
  match hfl : (Tryd.prog.fieldsOf 74).toList, hlen with
  | [f0, f1, f2, f3], _ =>
    rw [hfl] at hf
    simp only [List.map_cons, List.map_nil, List.cons.injEq, Prod.mk.injEq, and_true] at hf
    obtain ⟨⟨n0, t0, o0⟩, ⟨n1, t1, o1⟩, ⟨n2, t2, o2⟩, n3, t3, o3⟩ := hf
    have e := eqFields_cons w 9999 (fcells F).toArray (fcells G).toArray f0 [f1, f2, f3] _ _ _ n0 (by rw [t0, o0, part_agg w (.inl ⟨_, _, uBs⟩) szBs, cut0 hF]) (by rw [t0, o0, part_agg w (.inl ⟨_, _, uBs⟩) szBs, cut0 hG]) (by rw [t0]; exact eqIn_bools w 9997 _ _ hF.t hG.t) _
      (eqFields_cons w 9999 _ _ f1 [f2, f3] _ _ _ n1 (by rw [t1, o1, part_agg w (.inl ⟨_, _, uBs⟩) szBs, cut1 hF]) (by rw [t1, o1, part_agg w (.inl ⟨_, _, uBs⟩) szBs, cut1 hG]) (by rw [t1]; exact eqIn_bools w 9997 _ _ hF.n hG.n) _
        (eqFields_cons w 9999 _ _ f2 [f3] _ _ _ n2 (by rw [t2, o2, part_agg w (.inl ⟨_, _, uSets⟩) szSets, cut2 hF]) (by rw [t2, o2, part_agg w (.inl ⟨_, _, uSets⟩) szSets, cut2 hG]) (by rw [t2]; exact eqIn_sets w 9996 _ _ hF.f hG.f) _
          (eqFields_cons w 9999 _ _ f3 [] _ _ _ n3 (by rw [t3, o3, part_agg w (.inl ⟨_, _, uSets⟩) szSets, cut3 hF]) (by rw [t3, o3, part_agg w (.inl ⟨_, _, uSets⟩) szSets, cut3 hG]) (by rw [t3]; exact eqIn_sets w 9996 _ _ hF.o hG.o) true (by simp [Op.eqFields]))))
    rw [e, fx_decide F G]
theorem run_neq_fx (w : World) (p q : Operand) (F G : Fx) (hF : F.Ok) (hG : G.Ok) : (do eqGuard .neq 74 p q (.agg (fcells F).toArray) (.agg (fcells G).toArray); binOp .neq 74 (.agg (fcells F).toArray) (.agg (fcells G).toArray) : Sem Value).run Tryd.prog w = .ok (.bool (!decide (F = G))) w := by
  have g : Tryd.prog.eqGuardType Tryd.prog.depth 74 = false := by kernel_rfl
  have h1 : (eqGuard .neq 74 p q (.agg (fcells F).toArray) (.agg (fcells G).toArray)).run Tryd.prog w = .ok () w := by simp [eqGuard, g]
  rw [Sem.run_bind, h1]
  simp [binOp, run_equal_fx w F G hF hG]
end Go.Proofs.YtiebpmpjclnpeaaDoor
/- Sets of bytes: meets, has, span. -/
namespace Go.Proofs.YtiebpmpjclnpeaaDoor
open Go.RowKit Nac Nac.Gram
set_option maxRecDepth 100000 in
set_option maxHeartbeats 1000000 in
theorem meets_calls (w : World) (s t : S4) (hs : s.ok) (ht : t.ok) :
    Calls Tryd.prog 44 #[.agg (scs s).toArray, .agg (scs t).toArray] w (RetG w (.bool (!decide (s.and t = .zero)))) := by
  have HS := Lib.hid hs
  have HT := Lib.hid ht
  clear hs ht
  go_enter Tryd.func44, Tryd.ntmps44
  go_wp2_with (first | ((with_reducible show wpList _ _ _ (Oper.mk (some 2) (Op.box 71 _) _ _ _ _ :: _) _ _); refine wpList_boxS (T := 71) rfl _ rfl (scs s) rfl ?_) | fail)
  intro w1 hb1 hg1 hs1
  obtain ⟨b2, hb2⟩ : ∃ b, b = w.heap.size := ⟨_, rfl⟩
  rw [← hb2] at hb1 ⊢
  have HX1 : Hid (b2 = w.heap.size ∧ w1.heap.size = b2 + 1) := Lib.hid ⟨hb2, by omega⟩
  clear hs1 hb2
  go_wp2_with (first | ((with_reducible show wpList _ _ _ (Oper.mk (some 3) (Op.box 71 _) _ _ _ _ :: _) _ _); refine wpList_boxS (T := 71) rfl _ rfl (scs t) rfl ?_) | fail)
  intro w2 hb2' hg2 hs2
  obtain ⟨b3, hb3⟩ : ∃ b, b = w1.heap.size := ⟨_, rfl⟩
  rw [← hb3] at hb2' ⊢
  have hB1 : Below w.heap.size w w1 := grown_below hg1 (Nat.le_refl _) fun k e => by cases e
  have HB2 : Hid (Below w.heap.size w w2) := Lib.hid (below_trans hB1 (grown_below hg2 hB1.size fun k e => by cases e))
  have HX2 : Hid (Blk w2 b2 (scs s)) := Lib.hid (hb1.grown hg2 (fun e => by cases e))
  have HX3 := Lib.hid hb2'
  have HNE : Hid (∀ (p q : Operand) (w : World), (do eqGuard .neq 71 p q (.agg (scs (s.and t)).toArray) (.agg (scs .zero).toArray); binOp .neq 71 (.agg (scs (s.and t)).toArray) (.agg (scs .zero).toArray) : Sem Value).run Tryd.prog w = .ok (.bool (!decide (s.and t = .zero))) w) := Lib.hid fun p q w => run_neq_set w p q _ _
  clear hb1 hg1 hb2' hg2 hs2 hb3 hB1 HX1
  go_wp2_with (first
    | ((with_reducible show wpList _ _ _ (Oper.mk (some 5) (Op.load 71 _) _ _ _ _ :: _) _ _); refine wpList_loadS sS4 rfl _ rfl b2 (scs s) rfl HX2.out rfl ?_)
    | ((with_reducible show wpList _ _ _ (Oper.mk (some 6) (Op.load 71 _) _ _ _ _ :: _) _ _); refine wpList_loadS sS4 rfl _ rfl b3 (scs t) rfl HX3.out rfl ?_)
    | fail)
  refine (and_calls w2 s t HS.out HT.out).mono ?_
  rintro e w3 ⟨rfl, hb3⟩
  have HB3 : Hid (Below w.heap.size w w3) := Lib.hid (below_trans HB2.out (hb3.mono HB2.out.size))
  have hbd : ∀ w, (Instr.build 71 #[]).run Tryd.prog w = .ok (.agg (scs .zero).toArray) w := fun w => run_build w _ _ _ (by kernel_rfl)
  clear hb3 HB2 HX2 HX3
  go_wp2_with (first
    | ((with_reducible show wpList _ _ _ (Oper.mk _ (Op.binOp BinOp.neq 71 _ _ _) _ _ _ _ :: _) _ _); refine wpList_binV (by rfl) _ _ _ _ _ rfl (.bool (!decide (s.and t = .zero))) (HNE.out _ _ _) ?_)
    | fail)
  go_ret
  exact ⟨rfl, HB3.out⟩
end Go.Proofs.YtiebpmpjclnpeaaDoor
/- Sets of bytes: has, span. -/
namespace Nac.Gram
theorem S4.has_num (s : S4) (c : Nat) : s.has c = decide ((s.word (c / 64) / 2 ^ (c % 64)) &&& 1 = 1) := by
  unfold S4.has
  rw [Nat.testBit, Nat.shiftRight_eq_div_pow]
  rcases (by have := Nat.and_le_right (n := s.word (c / 64) / 2 ^ (c % 64)) (m := 1); omega : (s.word (c / 64) / 2 ^ (c % 64)) &&& 1 = 0 ∨ (s.word (c / 64) / 2 ^ (c % 64)) &&& 1 = 1) with h | h
  · rw [Nat.and_comm, h]; rfl
  · rw [Nat.and_comm, h]; rfl
theorem ws_or_one (s : S4) {b : Nat} (hb : b < 256) : s.ws.set (b / 64) (s.word (b / 64) ||| 1 <<< (b % 64)) = (s.or (.one b)).ws := by
  unfold S4.one
  rcases (by omega : b / 64 = 0 ∨ b / 64 = 1 ∨ b / 64 = 2 ∨ b / 64 = 3) with h | h | h | h <;> rw [h] <;> simp [S4.ws, S4.or, S4.word]
end Nac.Gram
namespace Go.Proofs.YtiebpmpjclnpeaaDoor
open Go.RowKit Nac Nac.Gram
set_option maxRecDepth 100000 in
set_option maxHeartbeats 1000000 in
theorem has_calls (w : World) (s : S4) (c : Nat) (hs : s.ok) (hc : c < 256) :
    Calls Tryd.prog 35 #[.agg (scs s).toArray, .int .u8 (c : Int)] w (RetG w (.bool (s.has c))) := by
  have HC := Lib.hid hc
  have HQ : Hid (c / 64 < 4) := Lib.hid (by omega)
  obtain ⟨q, hq⟩ : ∃ q, q = c / 64 := ⟨_, rfl⟩
  obtain ⟨r, hr⟩ : ∃ r, r = c % 64 := ⟨_, rfl⟩
  obtain ⟨x, hx⟩ : ∃ x, x = s.word q := ⟨_, rfl⟩
  obtain ⟨y, hy⟩ : ∃ y, y = x / 2 ^ r := ⟨_, rfl⟩
  have HXL : Hid (x < 18446744073709551616) := Lib.hid (by rw [hx, hq]; exact S4.word_lt hs HQ.out)
  have HB : s.has c = decide (y &&& 1 = 1) := by rw [S4.has_num, hy, hx, hq, hr]
  have HG : Hid ((scs s)[q]? = some (.int .u64 (x : Int))) := Lib.hid (by rw [hx]; exact wcs_get (ws_get s (by rw [hq]; exact HQ.out)))
  rw [HB]
  have HEQ : Hid (q = c / 64 ∧ r = c % 64 ∧ y = x / 2 ^ r) := Lib.hid ⟨hq, hr, hy⟩
  clear hs hc hx hq hr hy
  go_enter Tryd.func35, Tryd.ntmps35
  go_wp2_with (first | ((with_reducible show wpList _ _ _ (Oper.mk (some 2) (Op.box 71 _) _ _ _ _ :: _) _ _); refine wpList_boxS (T := 71) rfl _ rfl (scs s) rfl ?_) | fail)
  intro w1 hb1 hg1 hs1
  have HB1 : Hid (Below w.heap.size w w1) := Lib.hid (grown_below hg1 (Nat.le_refl _) fun k e => by cases e)
  obtain ⟨b2, hb2⟩ : ∃ b, b = w.heap.size := ⟨_, rfl⟩
  rw [← hb2] at hb1 ⊢
  have HX1 : Hid (Blk w1 b2 (scs s)) := Lib.hid hb1
  clear hs1 hb2 hb1 hg1 HB
  have hc := HC.out
  have CX : w1.cell? ⟨b2, c / 64, none⟩ = some (.int .u64 (x : Int)) := by
    have := HX1.out.cell HG.out
    rw [HEQ.out.1] at this
    exact this
  go_wp2
  have hbt : bits .and .u64 ((x : Int) / 2 ^ (c % 64)) 1 = ((y &&& 1 : Nat) : Int) := by
    have h1 : ((x : Int) / 2 ^ (c % 64)) = ((y : Nat) : Int) := by rw [HEQ.out.2.2, HEQ.out.2.1, Int.natCast_ediv, Int.natCast_pow]; rfl
    have h2 : y < 18446744073709551616 := by rw [HEQ.out.2.2]; exact Nat.lt_of_le_of_lt (Nat.div_le_self _ _) HXL.out
    rw [h1, show (1 : Int) = ((1 : Nat) : Int) from rfl, bits_and_u64_nat _ _ h2 (by decide)]
  rw [hbt]
  have hbe : ((((y &&& 1 : Nat) : Int)) == 1) = decide (y &&& 1 = 1) := by
    rw [Bool.eq_iff_iff, beq_iff_eq, decide_eq_true_iff]
    omega
  rw [hbe]
  go_ret
  exact ⟨rfl, HB1.out⟩
/-- two blocks, made one after the other -/
structure B2 (w : World) (b2 b3 : Nat) (c2 c3 : List Value) (wr : World) : Prop where
  x2 : Blk wr b2 c2
  x3 : Blk wr b3 c3
  below : Below w.heap.size w wr
  l2 : w.heap.size ≤ b2
  n23 : b2 < b3
theorem B2.set3 {w wr w' : World} {b2 b3 : Nat} {c2 c3 c3' : List Value} (h : B2 w b2 b3 c2 c3 wr) (hb : Blk w' b3 c3') (hg : wr.grownBy w' (some b3)) : B2 w b2 b3 c2 c3' w' := by
  have h1 := h.n23
  have h3 := h.l2
  exact ⟨h.x2.grown hg (fun e => by injection e with e; omega), hb, below_trans h.below (grown_below hg h.below.size fun k e => by injection e with e; omega), h.l2, h.n23⟩
theorem B2.mono {w wr w' : World} {b2 b3 : Nat} {c2 c3 : List Value} (h : B2 w b2 b3 c2 c3 wr) (hb : Below wr.heap.size wr w') : B2 w b2 b3 c2 c3 w' :=
  ⟨h.x2.below hb h.x2.lt, h.x3.below hb h.x3.lt, below_trans h.below (hb.mono h.below.size), h.l2, h.n23⟩
set_option maxRecDepth 100000 in
set_option maxHeartbeats 1000000 in
theorem span_calls (w : World) (lo hi : Nat) (hl : lo < 256) (hh : hi < 256) :
    Calls Tryd.prog 45 #[.int .u8 (lo : Int), .int .u8 (hi : Int)] w (RetG w (.agg (scs (span lo hi)).toArray)) := by
  have HL := Lib.hid hl
  have HH := Lib.hid hh
  go_enter Tryd.func45, Tryd.ntmps45
  go_wp2_with (first | ((with_reducible show wpList _ _ _ (Oper.mk _ (Op.alloc 71) _ _ _ _ :: _) _ _); refine wpList_allocS _ zS4 rfl rfl ?_) | fail)
  intro w1 hb1 hg1 hs1
  obtain ⟨b4, hb4⟩ : ∃ b, b = w.heap.size := ⟨_, rfl⟩
  rw [← hb4] at hb1 ⊢
  have HX1 : Hid (b4 = w.heap.size ∧ w1.heap.size = b4 + 1) := Lib.hid ⟨hb4, by omega⟩
  clear hs1 hb4
  go_wp2_with (first | ((with_reducible show wpList _ _ _ (Oper.mk _ (Op.alloc 71) _ _ _ _ :: _) _ _); refine wpList_allocS _ zS4 rfl rfl ?_) | fail)
  intro w2 hb2' hg2 hs2
  obtain ⟨b5, hb5⟩ : ∃ b, b = w1.heap.size := ⟨_, rfl⟩
  rw [← hb5] at hb2' ⊢
  have hx1 := HX1.out
  have hB1 : Below w.heap.size w w1 := grown_below hg1 (Nat.le_refl _) fun k e => by cases e
  have H0 : Hid (B2 w b4 b5 (scs .zero) (scs (spanN lo 0)) w2) := Lib.hid ⟨hb1.grown hg2 (fun e => by cases e), hb2', below_trans hB1 (grown_below hg2 hB1.size fun k e => by cases e), by omega, by omega⟩
  clear hs2 hb5 hx1 HX1 hB1 hb1 hg1 hb2' hg2
  go_wp2
  go_loopw [6] (fun s6 wr => ∃ k : Nat, (k = 0 ∨ lo + k ≤ hi + 1) ∧ s6 = .int .i64 ((lo + k : Nat) : Int) ∧ B2 w b4 b5 (scs .zero) (scs (spanN lo k)) wr) (fun s6 _ => 256 - (intOf s6).toNat)
  case atStart => exact ⟨0, .inl rfl, by simp, H0.out⟩
  case round =>
    obtain ⟨k, hk, rfl, hr⟩ := hrel
    have HR := Lib.hid hr
    clear hr H0
    obtain ⟨i, hi'⟩ : ∃ i, i = lo + k := ⟨_, rfl⟩
    rw [← hi']
    by_cases hlt : i ≤ hi
    · have HI : Hid (i < 256) := Lib.hid (by omega)
      have HIE : Hid (i = lo + k) := Lib.hid hi'
      have hok : (spanN lo k).ok := spanN_ok lo k (by omega)
      have hq : i / 64 < 4 := by have := HI.out; omega
      obtain ⟨x, hx⟩ : ∃ x, x = (spanN lo k).word (i / 64) := ⟨_, rfl⟩
      obtain ⟨p, hp⟩ : ∃ p, p = 1 <<< (i % 64) := ⟨_, rfl⟩
      obtain ⟨z, hz⟩ : ∃ z, z = x ||| p := ⟨_, rfl⟩
      have hpl : p < 18446744073709551616 := by
        rw [hp, Nat.one_shiftLeft, show (18446744073709551616 : Nat) = 2 ^ 64 by decide]
        exact Nat.pow_lt_pow_right (by decide) (Nat.mod_lt _ (by decide))
      have HRD : Hid (B2 w b4 b5 (scs .zero) (scs (spanN lo k)) wr.drew) := Lib.hid (HR.out.mono ⟨rfl, rfl, rfl, Nat.le_refl _, fun _ _ => rfl⟩)
      have CX : Hid (∀ w', Below wr.drew.heap.size wr.drew w' → w'.cell? ⟨b5, i / 64, none⟩ = some (.int .u64 (x : Int))) := Lib.hid fun w' hb => (HRD.out.mono hb).x3.cell (wcs_get (by rw [hx]; exact ws_get _ hq))
      have HP : Hid (IntKind.u64.wrap (2 ^ ((i : Int) % 64).toNat) = (p : Int)) := Lib.hid (by
        have := hpl
        rw [hp, Nat.one_shiftLeft] at this
        rw [show ((i : Int) % 64).toNat = i % 64 by omega, show ((2 : Int) ^ (i % 64)) = ((2 ^ (i % 64) : Nat) : Int) by rw [Int.natCast_pow]; rfl, hp, Nat.one_shiftLeft]
        exact Int.emod_eq_of_lt (Int.natCast_nonneg _) (Int.ofNat_lt.2 this))
      have HZ : Hid (bits .or .u64 (x : Int) (p : Int) = ((z : Nat) : Int)) := Lib.hid (by rw [hz, bits_or_u64_nat _ _ (by rw [hx]; exact S4.word_lt hok hq) hpl])
      have HSET : Hid ((wcs (spanN lo k).ws).set (i / 64) (.int .u64 (z : Int)) = scs (spanN lo (k + 1))) := Lib.hid (by
        rw [wcs_set, hz, hx, hp, ws_or_one _ HI.out, HIE.out]; rfl)
      clear hx hp hz hpl hok hq hi'
      go_wp2_with fail
      refine region_tails 9 (fun ix9 => ([.is (.int .i64 (i : Int)), .is (.int .i64 ((i : Int) / 64)), .is (.pointer (some ⟨b5, i / 64, none⟩)), .is (.int .u64 (x : Int)), .is (.int .i64 (i : Int)), .is (.int .i64 ((i : Int) % 64)), .is (.int .u64 ((p : Nat) : Int)), .is (.int .u64 ((z : Nat) : Int)), .is (.pointer (some ⟨b5, i / 64, none⟩))] : List VD).getD ix9 (.is undef)) [some 15, some 16, some 17, some 18, some 19, some 20, some 21, some 22, some 23] (by kernel_rfl) (by kernel_rfl) (by kernel_rfl) (by kernel_rfl) rfl (fun ii hii => ?_) ?_
      · match ii, hii with
        | 0, _ => exact mstep_first rfl (mwant_none rfl) 6 (Or.inl rfl) (by kernel_rfl) (fun _ _ => rfl)
        | 1, _ => exact mstep_pure rfl (mwant_none rfl) (fun aa ww cc => ⟨.int .i64 ((i : Int) / 64), by have e0 : aa.tmps.getD 15 undef = .int .i64 (i : Int) := cc.slot 0 15 (by kernel_rfl) rfl; have qi := HI.out; have q : IntKind.i64.wrap ((i : Int) / 64) = (i : Int) / 64 := (by rw [IntKind.wrap_i64]; omega); simp only [execOp, Act.eval, e0]; go_simp, rfl⟩)
        | 2, _ => exact mstep_pure rfl (mwant_none rfl) (fun aa ww cc => ⟨.pointer (some ⟨b5, i / 64, none⟩), by have e0 : aa.tmps.getD 5 undef = .pointer (some ⟨b5, 0, none⟩) := (cc.orig 5 (by kernel_rfl)).trans rfl; have e1 : aa.tmps.getD 16 undef = .int .i64 ((i : Int) / 64) := cc.slot 1 16 (by kernel_rfl) rfl; have qi := HI.out; have q : 0 ≤ (i : Int) / 64 ∧ (i : Int) / 64 < 4 := ⟨by omega, by omega⟩; have q2 : ((i : Int) / 64).toNat = i / 64 := (by omega); simp only [execOp, Act.eval, e0, e1]; go_simp, rfl⟩)
        | 3, _ => exact mstep_pure rfl (mwant_none rfl) (fun aa ww cc => ⟨.int .u64 (x : Int), by have e0 : aa.tmps.getD 17 undef = .pointer (some ⟨b5, i / 64, none⟩) := cc.slot 2 17 (by kernel_rfl) rfl; have q := CX.out _ cc.below; simp only [execOp, Act.eval, e0]; go_simp, rfl⟩)
        | 4, _ => exact mstep_first rfl (mwant_none rfl) 6 (Or.inl rfl) (by kernel_rfl) (fun _ _ => rfl)
        | 5, _ => exact mstep_pure rfl (mwant_none rfl) (fun aa ww cc => ⟨.int .i64 ((i : Int) % 64), by have e0 : aa.tmps.getD 19 undef = .int .i64 (i : Int) := cc.slot 4 19 (by kernel_rfl) rfl; have qi := HI.out; have q : IntKind.i64.wrap ((i : Int) % 64) = (i : Int) % 64 := (by rw [IntKind.wrap_i64]; omega); have q3 : (i : Int).tmod 64 = (i : Int) % 64 := (Int.tmod_eq_emod_of_nonneg (by omega)); simp only [execOp, Act.eval, e0]; go_simp, rfl⟩)
        | 6, _ => exact mstep_pure rfl (mwant_none rfl) (fun aa ww cc => ⟨.int .u64 ((p : Nat) : Int), by have e0 : aa.tmps.getD 20 undef = .int .i64 ((i : Int) % 64) := cc.slot 5 20 (by kernel_rfl) rfl; have q : IntKind.u64.wrap (2 ^ ((i : Int) % 64).toNat) = (p : Int) := HP.out; simp only [execOp, Act.eval, e0]; go_simp, rfl⟩)
        | 7, _ => exact mstep_pure rfl (mwant_none rfl) (fun aa ww cc => ⟨.int .u64 ((z : Nat) : Int), by have e0 : aa.tmps.getD 18 undef = .int .u64 (x : Int) := cc.slot 3 18 (by kernel_rfl) rfl; have e1 : aa.tmps.getD 21 undef = .int .u64 ((p : Nat) : Int) := cc.slot 6 21 (by kernel_rfl) rfl; have q := HZ.out; simp only [execOp, Act.eval, e0, e1]; go_simp, rfl⟩)
        | 8, _ => exact mstep_pure rfl (mwant_none rfl) (fun aa ww cc => ⟨.pointer (some ⟨b5, i / 64, none⟩), by have e0 : aa.tmps.getD 5 undef = .pointer (some ⟨b5, 0, none⟩) := (cc.orig 5 (by kernel_rfl)).trans rfl; have e1 : aa.tmps.getD 16 undef = .int .i64 ((i : Int) / 64) := cc.slot 1 16 (by kernel_rfl) rfl; have qi := HI.out; have q : 0 ≤ (i : Int) / 64 ∧ (i : Int) / 64 < 4 := ⟨by omega, by omega⟩; have q2 : ((i : Int) / 64).toNat = i / 64 := (by omega); simp only [execOp, Act.eval, e0, e1]; go_simp, rfl⟩)
        | n + 9, h => exact absurd h (by show ¬ (n + 9 < 9); omega)
      · intro VV w5 hlen hb5 hok
        match VV, hlen with
        | [v0, v1, v2, v3, v4, v5, v6, v7, v8], _ =>
          obtain rfl : v0 = .int .i64 (i : Int) := hok 0 15 rfl
          obtain rfl : v1 = .int .i64 ((i : Int) / 64) := hok 1 16 rfl
          obtain rfl : v2 = .pointer (some ⟨b5, i / 64, none⟩) := hok 2 17 rfl
          obtain rfl : v3 = .int .u64 (x : Int) := hok 3 18 rfl
          obtain rfl : v4 = .int .i64 (i : Int) := hok 4 19 rfl
          obtain rfl : v5 = .int .i64 ((i : Int) % 64) := hok 5 20 rfl
          obtain rfl : v6 = .int .u64 ((p : Nat) : Int) := hok 6 21 rfl
          obtain rfl : v7 = .int .u64 ((z : Nat) : Int) := hok 7 22 rfl
          obtain rfl : v8 = .pointer (some ⟨b5, i / 64, none⟩) := hok 8 23 rfl
          have HR5 : Hid (B2 w b4 b5 (scs .zero) (scs (spanN lo k)) w5) := Lib.hid (HR.out.mono hb5)
          clear hb5 hok CX HP HZ HR HRD
          simp only [List.zip_cons_cons, List.zip_nil_right, putsL]
          go_simp
          go_wp2_with ((with_reducible show wpList _ _ _ (Oper.mk _ (Op.store _ _ _) _ _ _ _ :: _) _ _); refine wpList_storeB rfl 41 _ _ rfl b5 (i / 64) _ (.int .u64 (z : Int)) rfl rfl HR5.out.x3 (by rw [scs_len]; have := HI.out; omega) s1U64 rfl ?_)
          intro w6 hb6 hg6
          have HR6 : Hid (B2 w b4 b5 (scs .zero) (scs (spanN lo (k + 1))) w6) := Lib.hid (HR5.out.set3 (by have e := HSET.out; rw [show (wcs (spanN lo k).ws) = scs (spanN lo k) from rfl] at e; rw [e] at hb6; exact hb6) hg6)
          clear hb6 hg6 HR5 HSET
          have hi' := HI.out
          go_wp2
          go_roundw
          case rel => exact ⟨k + 1, .inr (by have := HIE.out; omega), by have := HIE.out; subst this; go_num, HR6.out⟩
          case measure => simp [intOf]; omega
    · have HE : Hid (spanN lo k = span lo hi) := Lib.hid (by
        unfold span
        congr 1
        omega)
      clear hi'
      go_wp2_with (first | ((with_reducible show wpList _ _ _ (Oper.mk _ (Op.load 71 _) _ _ _ _ :: _) _ _); refine wpList_loadS sS4 rfl _ rfl b5 (scs (spanN lo k)) rfl HR.out.x3 rfl ?_) | ((with_reducible show wpList _ _ _ (Oper.mk _ (Op.store 71 _ _) _ _ _ _ :: _) _ _); refine wpList_storeS sS4 rfl _ _ rfl b4 (scs .zero) (scs (spanN lo k)) rfl rfl HR.out.x2 rfl rfl (wcs_one _) ?_))
      intro w8 hb8 hg8
      have l8 := Lib.hid (run_loadS sS4 b4 _ hb8 rfl)
      have HRES : Hid (Below w.heap.size w w8) := Lib.hid (below_trans HR.out.below (grown_below hg8 HR.out.below.size fun k e => by injection e with e; have := HR.out.l2; have := HR.out.n23; omega))
      clear hb8 hg8
      go_wp2
      exact bodyPost_ret (v := .agg (scs (span lo hi)).toArray) (by rw [← HE.out]; simp [results, Tryd.results45, asAddr, Sem.run_bind, Sem.run_pure, l8.out]) rfl ⟨rfl, HRES.out⟩
end Go.Proofs.YtiebpmpjclnpeaaDoor
