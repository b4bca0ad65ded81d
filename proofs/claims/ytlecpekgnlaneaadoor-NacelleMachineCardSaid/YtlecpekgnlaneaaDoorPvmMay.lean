/- pvm: May; bytes of a machine, in plain Lean. -/
import Derived.Test.YtlecpekgnlaneaaDoorPvmNew
import Derived.Test.YtlecpekgnlaneaaDoorCrcPlain
namespace Nac.Pvm
open Go Go.RowKit
def mayM (m : Mach) : Bool :=
  !(decide (m.place < 0) || decide (65535 < m.place) || decide (64 < m.mem.length)) && (if m.state = 0 ∨ m.state = 1 then decide (m.trap = 0) else if m.state = 2 then decide (80 ≤ m.trap ∧ m.trap ≤ 83) else false)
end Nac.Pvm
namespace Go.Proofs.YtlecpekgnlaneaaDoor
open Go.RowKit Nac Nac.Pvm
set_option maxRecDepth 100000 in
set_option maxHeartbeats 1000000 in
theorem May_calls (w : World) (A : Option Addr) (c : Nat) (m : Mach) (hl : m.r.length = 8) (hm8 : m.mem.length ≤ 140737488351232) : Calls Tryd.prog 25 #[mv m A c] w (RetB w (mayM m)) := by
  have HL := Lib.hid hl
  clear hl
  obtain ⟨p, hp⟩ : ∃ p, p = m.place := ⟨_, rfl⟩
  obtain ⟨n, hn⟩ : ∃ n, n = m.mem.length := ⟨_, rfl⟩
  obtain ⟨s, hs⟩ : ∃ s, s = m.state := ⟨_, rfl⟩
  obtain ⟨t, ht⟩ : ∃ t, t = m.trap := ⟨_, rfl⟩
  have HE : Hid (mayM m = (!(decide (p < 0) || decide (65535 < p) || decide (64 < n)) && (if s = 0 ∨ s = 1 then decide (t = 0) else if s = 2 then decide (80 ≤ t ∧ t ≤ 83) else false))) := Lib.hid (by unfold mayM; rw [hp, hn, hs, ht])
  rw [← hn] at hm8
  have HP := Lib.hid (And.intro hp (And.intro hn (And.intro hs ht)))
  clear hp hn hs ht
  go_enter Tryd.func25, Tryd.ntmps25
  go_wp2_with ((with_reducible show wpList _ _ _ (Oper.mk _ (Op.box _ _) _ _ _ _ :: _) _ _); refine wpList_boxS rfl _ rfl (mcs m A c) rfl ?_)
  intro w1 hb1 hg1 hs1
  obtain ⟨B0, hB0⟩ : ∃ B0, B0 = w.heap.size := ⟨_, rfl⟩
  rw [← hB0] at hb1 ⊢
  have HB := Lib.hid hb1
  have HG : Hid (Below w.heap.size w w1) := Lib.hid (gbelow hg1)
  have c0 : w1.cell? ⟨B0, 0, none⟩ = some (.int .i64 p) := by rw [HP.out.1]; exact hb1.cell rfl
  have c9 : w1.cell? ⟨B0, 9, none⟩ = some (.slice A n c) := by rw [HP.out.2.1]; exact hb1.cell (mcs_mem HL.out)
  have c10 : w1.cell? ⟨B0, 10, none⟩ = some (.int .i64 s) := by rw [HP.out.2.2.1]; exact hb1.cell (mcs_state HL.out)
  have c11 : w1.cell? ⟨B0, 11, none⟩ = some (.int .i64 t) := by rw [HP.out.2.2.2]; exact hb1.cell (mcs_trap HL.out)
  clear hb1 hg1 hs1 hB0 HP HB
  have hc1 : p < 0 ∨ (0 ≤ p ∧ 65535 < p) ∨ (0 ≤ p ∧ p ≤ 65535 ∧ 64 < n) ∨ (0 ≤ p ∧ p ≤ 65535 ∧ n ≤ 64) := by omega
  rcases hc1 with h | ⟨h, h2⟩ | ⟨h, h2, h3⟩ | ⟨h, h2, h3⟩
  · have HX : Hid (mayM m = false) := Lib.hid (by rw [HE.out]; simp [h])
    clear HE
    go_wp2
    go_ret
    exact ⟨by rw [HX.out]; rfl, HG.out⟩
  · have HX : Hid (mayM m = false) := Lib.hid (by rw [HE.out]; simp [h2])
    clear HE
    go_wp2
    go_ret
    exact ⟨by rw [HX.out]; rfl, HG.out⟩
  · have HX : Hid (mayM m = false) := Lib.hid (by rw [HE.out]; simp [h3])
    clear HE
    go_wp2
    go_ret
    exact ⟨by rw [HX.out]; rfl, HG.out⟩
  · have HX : Hid (mayM m = (if s = 0 ∨ s = 1 then decide (t = 0) else if s = 2 then decide (80 ≤ t ∧ t ≤ 83) else false)) := Lib.hid (by
      rw [HE.out]
      have e1 : decide (p < 0) = false := by simpa using h
      have e2 : decide (65535 < p) = false := by simpa using h2
      have e3 : decide (64 < n) = false := by simpa using h3
      rw [e1, e2, e3]; simp)
    clear HE
    have hs : s = 0 ∨ s = 1 ∨ s = 2 ∨ ((s == 0) = false ∧ (s == 1) = false ∧ (s == 2) = false) := by
      by_cases h0 : s = 0
      · exact .inl h0
      by_cases h1 : s = 1
      · exact .inr (.inl h1)
      by_cases h2 : s = 2
      · exact .inr (.inr (.inl h2))
      exact .inr (.inr (.inr ⟨by simpa using h0, by simpa using h1, by simpa using h2⟩))
    rcases hs with rfl | rfl | rfl | ⟨h4, h5, h6⟩
    · have HY : Hid (mayM m = (t == 0)) := Lib.hid (by rw [HX.out]; simp; rfl)
      clear HX
      go_wp2
      go_ret
      exact ⟨by rw [HY.out]; rfl, HG.out⟩
    · have HY : Hid (mayM m = (t == 0)) := Lib.hid (by rw [HX.out]; simp; rfl)
      clear HX
      go_wp2
      go_ret
      exact ⟨by rw [HY.out]; rfl, HG.out⟩
    · have HY : Hid (mayM m = decide (80 ≤ t ∧ t ≤ 83)) := Lib.hid (by rw [HX.out]; simp)
      clear HX
      rcases (by omega : t < 80 ∨ (80 ≤ t ∧ 83 < t) ∨ (80 ≤ t ∧ t ≤ 83)) with h4 | ⟨h4, h5⟩ | ⟨h4, h5⟩
      · have h6 : decide (80 ≤ t) = false := by simpa using h4
        have HZ : Hid (mayM m = false) := Lib.hid (by rw [HY.out]; simp; omega)
        clear HY
        go_wp2
        go_ret
        exact ⟨by rw [HZ.out]; rfl, HG.out⟩
      · have h6 : decide (t ≤ 83) = false := by simpa using h5
        have HZ : Hid (mayM m = false) := Lib.hid (by rw [HY.out]; simp; omega)
        clear HY
        go_wp2
        go_ret
        exact ⟨by rw [HZ.out]; rfl, HG.out⟩
      · have HZ : Hid (mayM m = true) := Lib.hid (by rw [HY.out]; simp; omega)
        clear HY
        go_wp2
        go_ret
        exact ⟨by rw [HZ.out]; rfl, HG.out⟩
    · have HY : Hid (mayM m = false) := Lib.hid (by
        rw [HX.out, if_neg, if_neg]
        · simpa using h6
        · simp at h4 h5; omega)
      clear HX
      go_wp2
      go_ret
      exact ⟨by rw [HY.out]; rfl, HG.out⟩
end Go.Proofs.YtlecpekgnlaneaaDoor
