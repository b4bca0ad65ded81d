/- A machine in memory: 12 cells; trap, word. -/
import Derived.Test.YtlecpekgnlaneaaDoorPvmOps
import Derived.Test.YtlecpekgnlaneaaDoorWords
import Derived.RegionTactic
import Derived.ChangeAlike
import Derived.Deep.QuietTactic
import Derived.BigQuiet
namespace Go.Proofs.YtlecpekgnlaneaaDoor
open Go.RowKit Nac Nac.Pvm
def mcs (m : Mach) (A : Option Addr) (c : Nat) : List Value := .int .i64 m.place :: (m.r.map (Value.int .i64) ++ [.slice A m.mem.length c, .int .i64 m.state, .int .i64 m.trap])
section
variable {m : Mach} {A : Option Addr} {c : Nat}
theorem mcs_reg (h : m.r.length = 8) {a : Nat} (ha : a < 8) : (mcs m A c)[1 + a]? = some (.int .i64 (m.reg a)) := by
  unfold mcs Mach.reg
  rw [Nat.add_comm, List.getElem?_cons_succ, List.getElem?_append_left (by simp; omega)]
  simp [h, ha]
theorem mcs_mem (h : m.r.length = 8) : (mcs m A c)[9]? = some (.slice A m.mem.length c) := by
  unfold mcs
  rw [List.getElem?_cons_succ, List.getElem?_append_right (by simp [h])]
  simp [h]
theorem mcs_state (h : m.r.length = 8) : (mcs m A c)[10]? = some (.int .i64 m.state) := by
  unfold mcs
  rw [List.getElem?_cons_succ, List.getElem?_append_right (by simp [h])]
  simp [h]
theorem mcs_trap (h : m.r.length = 8) : (mcs m A c)[11]? = some (.int .i64 m.trap) := by
  unfold mcs
  rw [List.getElem?_cons_succ, List.getElem?_append_right (by simp [h])]
  simp [h]
theorem mcs_setPlace (z : Int) : (mcs m A c).set 0 (.int .i64 z) = mcs { m with place := z } A c := rfl
theorem mcs_setReg (h : m.r.length = 8) {a : Nat} (ha : a < 8) (z : Int) : (mcs m A c).set (1 + a) (.int .i64 z) = mcs { m with r := m.r.set a z } A c := by
  unfold mcs
  rw [Nat.add_comm, List.set_cons_succ, List.set_append_left _ _ (by simp; omega), List.map_set]
theorem mcs_setState (h : m.r.length = 8) (z : Int) : (mcs m A c).set 10 (.int .i64 z) = mcs { m with state := z } A c := by
  unfold mcs
  rw [List.set_cons_succ, List.set_append_right _ _ (by simp [h])]
  simp [h]
theorem mcs_setTrap (h : m.r.length = 8) (z : Int) : (mcs m A c).set 11 (.int .i64 z) = mcs { m with trap := z } A c := by
  unfold mcs
  rw [List.set_cons_succ, List.set_append_right _ _ (by simp [h])]
  simp [h]
end
/-- a machine at block b; its words in a row of the call's own -/
structure MM (w : World) (b base : Nat) (A : Option Addr) (c : Nat) (m : Mach) : Prop where
  blk : Blk w b (mcs m A c)
  len : m.r.length = 8
  own : OW w base A c m.mem
  ne : A.map (·.block) ≠ some b
/-- all stays but block b and the words' block -/
structure Fr2 (b : Nat) (A : Option Addr) (w w' : World) : Prop where
  os : w'.os = w.os
  tape : w'.tape = w.tape
  output : w'.output = w.output
  size : w.heap.size ≤ w'.heap.size
  block : ∀ k, k < w.heap.size → k ≠ b → A.map (·.block) ≠ some k → w'.heap[k]? = w.heap[k]?
section
variable {w w1 w2 : World} {b base c : Nat} {A : Option Addr} {m : Mach}
theorem Fr2.refl (b : Nat) (A : Option Addr) (w : World) : Fr2 b A w w := ⟨rfl, rfl, rfl, Nat.le_refl _, fun _ _ _ _ => rfl⟩
theorem Fr2.trans (h : Fr2 b A w w1) (h2 : Fr2 b A w1 w2) : Fr2 b A w w2 :=
  ⟨h2.os.trans h.os, h2.tape.trans h.tape, h2.output.trans h.output, Nat.le_trans h.size h2.size, fun k hk h1 h3 => (h2.block k (Nat.lt_of_lt_of_le hk h.size) h1 h3).trans (h.block k hk h1 h3)⟩
theorem Fr2.grown {row : Option Nat} (h : w.grownBy w1 row) (hr : ∀ k, row = some k → k = b ∨ A.map (·.block) = some k ∨ w.heap.size ≤ k) : Fr2 b A w w1 :=
  ⟨h.os, h.tape, h.output, h.size, fun k hk h1 h2 => h.block k hk fun e => by
    rcases hr k e.symm with h3 | h3 | h3
    · exact h1 h3
    · exact h2 h3
    · omega⟩
theorem Fr2.below (h : Below w.heap.size w w1) : Fr2 b A w w1 := ⟨h.os, h.tape, h.output, h.size, fun k hk _ _ => h.block k hk⟩
theorem MM.below (h : MM w b base A c m) (hb : Below w.heap.size w w1) : MM w1 b base A c m := ⟨h.blk.below hb h.blk.lt, h.len, h.own.below hb (Nat.le_refl _), h.ne⟩
end
theorem MM.drew {w : World} {b base c : Nat} {A : Option Addr} {m : Mach} (h : MM w b base A c m) : MM w.drew b base A c m := ⟨h.blk, h.len, h.own, h.ne⟩
theorem Fr2.drew {w w1 : World} {b : Nat} {A : Option Addr} (h : Fr2 b A w w1) : Fr2 b A w w1.drew := ⟨h.os, h.tape, h.output, h.size, h.block⟩
theorem MM.put {w : World} {b base c : Nat} {A : Option Addr} {m : Mach} (h : MM w b base A c m) (j : Nat) (v : Value) (m' : Mach) (hcs : (mcs m A c).set j v = mcs m' A c) (hl : m'.r.length = 8) (hm : m'.mem = m.mem) : MM (w.setCell ⟨b, j, none⟩ v) b base A c m' :=
  ⟨by rw [← hcs]; exact h.blk.setCell j v, hl, by rw [hm]; exact h.own.kept (grown_setCell w ⟨b, j, none⟩ v) (.inr h.ne), h.ne⟩
theorem fr2_set (w : World) (b j : Nat) (A : Option Addr) (v : Value) : Fr2 b A w (w.setCell ⟨b, j, none⟩ v) := Fr2.grown (grown_setCell w ⟨b, j, none⟩ v) (fun k e => .inl (by injection e with e; exact e.symm))
def RetEv (w : World) (b base : Nat) (A : Option Addr) (c : Nat) (x : Mach × Int × Int) (e : Ending) (w' : World) : Prop :=
  e = .returned (.agg #[.int .i64 x.2.1, .int .i64 x.2.2]) ∧ MM w' b base A c x.1 ∧ Fr2 b A w w'
set_option maxHeartbeats 2000000 in
theorem trap_calls (w : World) (b base : Nat) (A : Option Addr) (c : Nat) (m : Mach) (h : MM w b base A c m) (z : Int) :
    Calls Tryd.prog 32 #[.pointer (some ⟨b, 0, none⟩), .int .i64 z] w (RetEv w b base A c (trapM m z)) := by
  have c10 : w.cell? ⟨b, 10, none⟩ = some (.int .i64 m.state) := h.blk.cell (mcs_state h.len)
  have c11 : w.cell? ⟨b, 11, none⟩ = some (.int .i64 m.trap) := h.blk.cell (mcs_trap h.len)
  have f10 := h.blk.free 10
  have f11 := h.blk.free 11
  have hbl := h.blk.lt
  have HM := Lib.hid h
  clear h
  go_enter Tryd.func32, Tryd.ntmps32
  go_wp2
  have h1 := HM.out.put 10 (.int .i64 2) { m with state := 2 } (mcs_setState HM.out.len 2) HM.out.len rfl
  have h2 := h1.put 11 (.int .i64 z) { m with state := 2, trap := z } (mcs_setTrap h1.len z) HM.out.len rfl
  have hf := (fr2_set w b 10 A (.int .i64 2)).trans (fr2_set _ b 11 A (.int .i64 z))
  obtain ⟨w2, hw2⟩ : ∃ w2, w2 = (w.setCell ⟨b, 10, none⟩ (.int .i64 2)).setCell ⟨b, 11, none⟩ (.int .i64 z) := ⟨_, rfl⟩
  have hs : w.heap.size = w2.heap.size := by rw [hw2]; simp
  rw [← hw2] at h2 hf ⊢
  rw [hs]
  have ha : Below w2.heap.size w2 (w2.alloc (.cells #[.int .i64 3, .int .i64 z] 37)) := (Below.refl _ _).alloc (Nat.le_refl _) _
  exact bodyPost_ret (v := .agg #[.int .i64 3, .int .i64 z]) (by simp [results, Tryd.results32, go_sem]) rfl ⟨rfl, h2.below ha, hf.trans (Fr2.below ha)⟩
theorem Fr2.drewN {w w1 : World} {b : Nat} {A : Option Addr} (h : Fr2 b A w w1) (n : Nat) : Fr2 b A w (w1.drewN n) := ⟨h.os, h.tape, h.output, h.size, h.block⟩
theorem below_drewN' {B : Nat} {a w : World} (h : Below B a w) (n : Nat) : Below B a (w.drewN n) := ⟨h.os, h.tape, h.output, h.size, h.block⟩
set_option maxHeartbeats 2000000 in
theorem word_calls (w : World) (b base : Nat) (A : Option Addr) (c : Nat) (m : Mach) (h : MM w b base A c m) (i : Ins) (hb8 : i.b < 8) (hc : i.c < 256) (hm8 : m.mem.length ≤ 140737488351232) :
    Calls Tryd.prog 34 #[.pointer (some ⟨b, 0, none⟩), .agg #[.int .u8 i.op, .int .u8 i.a, .int .u8 i.b, .int .u8 i.c]] w (RetI w (wordAt m i)) := by
  have cr : w.cell? ⟨b, 1 + i.b, none⟩ = some (.int .i64 (m.reg i.b)) := h.blk.cell (mcs_reg h.len hb8)
  have c9 : w.cell? ⟨b, 9, none⟩ = some (.slice A m.mem.length c) := h.blk.cell (mcs_mem h.len)
  have hbl := h.blk.lt
  have HM := Lib.hid h
  obtain ⟨x, hx⟩ : ∃ x, x = wrap64 (m.reg i.b + i.c) := ⟨_, rfl⟩
  have hw : wordAt m i = if x < 0 ∨ (m.mem.length : Int) ≤ x then -1 else x := by unfold wordAt; rw [hx]
  have HW := Lib.hid hw
  have hx' : wrap64 (m.reg i.b + i.c) = x := hx.symm
  obtain ⟨rb, hrb⟩ : ∃ rb, rb = m.reg i.b := ⟨_, rfl⟩
  rw [← hrb] at hx' cr
  have HX := Lib.hid hx'
  clear h hw hx hx' hrb
  obtain ⟨op, a, b', c'⟩ := i
  simp only at *
  go_enter Tryd.func34, Tryd.ntmps34
  go_wp2
  go_quiet (fail)
  rw [HX.out]
  rcases (by omega : x < 0 ∨ (0 ≤ x ∧ (m.mem.length : Int) ≤ x) ∨ (0 ≤ x ∧ x < (m.mem.length : Int))) with hx | ⟨hx, hx2⟩ | ⟨hx, hx2⟩
  all_goals
    go_wp2
    go_ret
    refine retI ?_ (below_drewN' ((Below.refl _ _).alloc (Nat.le_refl _) _) _)
    rw [HW.out]
    first
      | rw [if_pos (by omega)]
      | rw [if_neg (by omega)]
end Go.Proofs.YtlecpekgnlaneaaDoor
