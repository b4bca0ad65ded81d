/- A channel as a list of cells: 6 of its own, and 16 messages of 66. Over whatever program. -/
import Derived.Test.YtdjphdkoljfndaaBlk
namespace Nac
open Go Go.RowKit
structure Msg where
  b : List UInt8
  at_ : Nat
  deriving DecidableEq
def pad (l : List UInt8) : List UInt8 := l ++ List.replicate (64 - l.length) 0
def mcells (m : Msg) : List Value := (pad m.b).map bv ++ [.int .i64 m.b.length, .int .u64 m.at_]
def zmsg : Msg := ⟨[], 0⟩
/-- a channel, as far as the document tells -/
structure Ch where
  kind : Nat
  most : Nat
  size : Nat
  lost : Nat
  q : List Msg
  deriving DecidableEq
structure Ch.ok (C : Ch) : Prop where
  kind : C.kind ≤ 2
  most1 : 1 ≤ C.most
  most : C.most ≤ 16
  one : C.kind = 0 → C.most = 1
  size : C.size ≤ 64
  lost : C.lost ≤ 18446744073709551615
  len : C.q.length ≤ C.most
  fit : ∀ m ∈ C.q, m.b.length ≤ 64 ∧ m.at_ ≤ 18446744073709551615
def slotMsg (f : Nat) (q : List Msg) (s : Nat) : Msg := q.getD ((s + 16 - f) % 16) zmsg
def ringL (f : Nat) (q : List Msg) : List (List Value) := (List.range 16).map fun s => mcells (slotMsg f q s)
def hd (C : Ch) (f n : Nat) : List Value := [.int .i64 C.kind, .int .i64 C.most, .int .i64 C.size, .int .i64 f, .int .i64 n, .int .u64 C.lost]
def ccells (C : Ch) (f : Nat) : List Value := hd C f C.q.length ++ (ringL f C.q).flatten
theorem mcells_len (m : Msg) (h : m.b.length ≤ 64) : (mcells m).length = 66 := by simp [mcells, pad]; omega
theorem mcells_one (m : Msg) : ∀ v ∈ mcells m, v.oneCell' = true := by
  intro v hv
  simp only [mcells, List.mem_append, List.mem_map, List.mem_cons, List.not_mem_nil, or_false] at hv
  rcases hv with ⟨x, _, rfl⟩ | rfl | rfl <;> rfl
theorem slotMsg_fit (f : Nat) (q : List Msg) (s : Nat) (h : ∀ m ∈ q, m.b.length ≤ 64) : (slotMsg f q s).b.length ≤ 64 := by
  unfold slotMsg
  rw [List.getD_eq_getElem?_getD]
  cases e : q[(s + 16 - f) % 16]? with
  | none => simp [zmsg]
  | some m => exact h m (List.mem_of_getElem? e)
theorem ringL_len (f : Nat) (q : List Msg) : (ringL f q).length = 16 := by simp [ringL]
theorem ringL_each (f : Nat) (q : List Msg) (h : ∀ m ∈ q, m.b.length ≤ 64) : ∀ x ∈ ringL f q, x.length = 66 := by
  intro x hx
  simp only [ringL, List.mem_map] at hx
  obtain ⟨s, _, rfl⟩ := hx
  exact mcells_len _ (slotMsg_fit f q s h)
theorem ringL_get (f : Nat) (q : List Msg) (s : Nat) (h : s < (ringL f q).length) : (ringL f q)[s] = mcells (slotMsg f q s) := by simp [ringL]
theorem hd_len (C : Ch) (f n : Nat) : (hd C f n).length = 6 := rfl
/-- the cells of slot s -/
theorem ccells_slot (C : Ch) (hC : C.ok) (f s : Nat) (hs : s < 16) : ∃ pre post, ccells C f = pre ++ mcells (slotMsg f C.q s) ++ post ∧ pre.length = 6 + 66 * s := by
  obtain ⟨pre, post, h1, h2⟩ := flatten_at 66 (ringL f C.q) (ringL_each f C.q fun m hm => (hC.fit m hm).1) s (by rw [ringL_len]; exact hs)
  rw [ringL_get] at h1
  refine ⟨hd C f C.q.length ++ pre, post, ?_, by simp [hd_len, h2]⟩
  unfold ccells
  rw [h1]
  simp
theorem ccells_len (C : Ch) (hC : C.ok) (f : Nat) : (ccells C f).length = 1062 := by
  unfold ccells
  rw [List.length_append, hd_len, flatten_len 66 _ (ringL_each f C.q fun m hm => (hC.fit m hm).1), ringL_len]
/-- a message stored into slot s -/
theorem ccells_store (C : Ch) (hC : C.ok) (f s : Nat) (hs : s < 16) (m : Msg) (hm : m.b.length ≤ 64) :
    (ccells C f).take (6 + 66 * s) ++ mcells m ++ (ccells C f).drop (6 + 66 * s + (mcells m).length) = hd C f C.q.length ++ ((ringL f C.q).set s (mcells m)).flatten := by
  have hl := mcells_len m hm
  rw [hl]
  rw [← flatten_set 66 (ringL f C.q) (ringL_each f C.q fun m hm => (hC.fit m hm).1) s (by rw [ringL_len]; exact hs) (mcells m) hl]
  unfold ccells
  rw [List.take_append, List.drop_append, hd_len, List.take_of_length_le (by rw [hd_len]; omega), List.drop_of_length_le (by rw [hd_len]; omega)]
  rw [show 6 + 66 * s - 6 = 66 * s by omega, show 6 + 66 * s + 66 - 6 = 66 * s + 66 by omega]
  simp
theorem ring_push (f : Nat) (q : List Msg) (hf : f < 16) (hq : q.length < 16) (m : Msg) : (ringL f q).set ((f + q.length) % 16) (mcells m) = ringL f (q ++ [m]) := by
  apply List.ext_getElem (by simp [ringL_len])
  intro i h1 h2
  have hi : i < 16 := by simpa [ringL_len] using h2
  rw [List.getElem_set, ringL_get (f := f) (q := q ++ [m])]
  split
  · rename_i e
    congr 1
    unfold slotMsg
    have : (i + 16 - f) % 16 = q.length := by omega
    rw [this]
    simp
  · rename_i e
    rw [ringL_get]
    congr 1
    unfold slotMsg
    have hne : (i + 16 - f) % 16 ≠ q.length := by omega
    rw [List.getD_eq_getElem?_getD, List.getD_eq_getElem?_getD]
    rcases Nat.lt_or_ge ((i + 16 - f) % 16) q.length with c | c
    · rw [List.getElem?_append_left c]
    · rw [List.getElem?_eq_none c, List.getElem?_eq_none (by simp; omega)]
theorem ring_drop (f : Nat) (q : List Msg) (hf : f < 16) (hq : q.length ≤ 16) (hn : q ≠ []) : (ringL f q).set f (mcells zmsg) = ringL ((f + 1) % 16) q.tail := by
  apply List.ext_getElem (by simp [ringL_len])
  intro i h1 h2
  have hi : i < 16 := by simpa [ringL_len] using h2
  obtain ⟨a, r, rfl⟩ : ∃ a r, q = a :: r := by cases q with | nil => exact absurd rfl hn | cons a r => exact ⟨a, r, rfl⟩
  have hr : r.length ≤ 15 := by simpa using hq
  rw [List.getElem_set, ringL_get (f := (f + 1) % 16)]
  split
  · rename_i e
    subst e
    congr 1
    unfold slotMsg
    have : (f + 16 - (f + 1) % 16) % 16 = 15 := by omega
    rw [this, List.getD_eq_getElem?_getD, List.tail_cons, List.getElem?_eq_none (by omega)]
    rfl
  · rename_i e
    rw [ringL_get]
    congr 1
    unfold slotMsg
    have h3 : (i + 16 - f) % 16 = (i + 16 - (f + 1) % 16) % 16 + 1 := by omega
    rw [h3, List.getD_eq_getElem?_getD, List.getD_eq_getElem?_getD, List.getElem?_cons_succ, List.tail_cons]
theorem slot_front (f : Nat) (q : List Msg) (hf : f < 16) (m : Msg) (r : List Msg) (hq : q = m :: r) : slotMsg f q f = m := by
  subst hq
  unfold slotMsg
  have : (f + 16 - f) % 16 = 0 := by omega
  rw [this]
  rfl
theorem slot_nth (f : Nat) (q : List Msg) (hf : f < 16) (hq : q.length ≤ 16) (i : Nat) (hi : i < q.length) : slotMsg f q ((f + i) % 16) = q[i] := by
  unfold slotMsg
  have : ((f + i) % 16 + 16 - f) % 16 = i := by omega
  rw [this, List.getD_eq_getElem?_getD, List.getElem?_eq_getElem hi]
  rfl
/-! what the calls do, plainly -/
def Ch.send (C : Ch) (l : List UInt8) (now : Nat) : Ch × Int :=
  if C.size < l.length then (C, 1)
  else if C.q.length = C.most then
    if C.kind = 1 then (C, 5)
    else if C.kind = 2 then ({ C with lost := if C.lost < 18446744073709551615 then C.lost + 1 else C.lost }, 0)
    else ({ C with q := C.q.tail ++ [⟨l, now⟩] }, 0)
  else ({ C with q := C.q ++ [⟨l, now⟩] }, 0)
def Ch.recv (C : Ch) (now : Nat) : Ch × List UInt8 × Nat × Int :=
  match C.q with
  | [] => (C, [], 0, 6)
  | m :: r => (if C.kind = 0 then C else { C with q := r }, m.b, now - m.at_, 0)
theorem Ch.send_ok (C : Ch) (h : C.ok) (l : List UInt8) (now : Nat) (hn : now ≤ 18446744073709551615) : (C.send l now).1.ok := by
  unfold Ch.send
  split
  · exact h
  rename_i hl
  have hl64 : l.length ≤ 64 := by have := h.size; omega
  split
  · rename_i hm
    split
    · exact h
    split
    · refine ⟨h.kind, h.most1, h.most, h.one, h.size, ?_, h.len, h.fit⟩
      show (if C.lost < 18446744073709551615 then C.lost + 1 else C.lost) ≤ _
      have := h.lost
      split <;> omega
    · refine ⟨h.kind, h.most1, h.most, h.one, h.size, h.lost, ?_, ?_⟩
      · show (C.q.tail ++ [_]).length ≤ C.most
        have := h.len
        have := h.most1
        simp; omega
      · intro m hm'
        rcases List.mem_append.1 hm' with hm' | hm'
        · exact h.fit m (List.mem_of_mem_tail hm')
        · simp at hm'; subst hm'; exact ⟨hl64, hn⟩
  · rename_i hm
    refine ⟨h.kind, h.most1, h.most, h.one, h.size, h.lost, ?_, ?_⟩
    · show (C.q ++ [_]).length ≤ C.most
      have := h.len
      simp; omega
    · intro m hm'
      rcases List.mem_append.1 hm' with hm' | hm'
      · exact h.fit m hm'
      · simp at hm'; subst hm'; exact ⟨hl64, hn⟩
theorem Ch.recv_ok (C : Ch) (h : C.ok) (now : Nat) : (C.recv now).1.ok := by
  unfold Ch.recv
  split
  · exact h
  rename_i m r hq
  show (if C.kind = 0 then C else { C with q := r }).ok
  split
  · exact h
  · refine ⟨h.kind, h.most1, h.most, h.one, h.size, h.lost, ?_, ?_⟩
    · have := h.len; rw [hq] at this; show r.length ≤ C.most; simp at this; omega
    · intro m' hm'; exact h.fit m' (by rw [hq]; exact List.mem_cons_of_mem _ hm')
end Nac
