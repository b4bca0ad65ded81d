/- procs: isProcess, isResource, State, Count, Last, wake. -/
import Derived.Test.YtgeffkdobnipgaaProcMem2
import Derived.Lib.MinMax
import Derived.Deep.MidRow
import Derived.WalkLawsBesides
import Derived.RegionTactic
import Derived.ChangeAlike
import Derived.Deep.QuietTactic
import Derived.BigQuiet
namespace Go.Proofs.Ytgeffkdobnipgaa
open Go.RowKit Nac Nac.Procs
def RetBw (w : World) (b : Bool) (e : Ending) (w' : World) : Prop := e = .returned (.bool b) ∧ w = w'
def RetIw (w : World) (z : Int) (e : Ending) (w' : World) : Prop := e = .returned (.int .i64 z) ∧ w = w'
theorem isProcess_calls (w : World) (S : Nat) (P : PSet) (A : Nat → Option Addr) (c : Nat → Nat) (h : SetM w S P A c) (p : Int) : Calls Try.prog 24 #[.pointer (some ⟨S, 0, none⟩), .int .i64 p] w (RetBw w (isP P p)) := by
  have c0 : w.cell? ⟨S, 0, none⟩ = some (.slice (A 0) P.ps.length (c 0)) := h.blk.cell rfl
  obtain ⟨n, hn⟩ : ∃ n, n = P.ps.length := ⟨_, rfl⟩
  have HB : Hid (isP P p = (decide (0 ≤ p) && decide (p < n))) := Lib.hid (by unfold isP; rw [hn])
  rw [← hn] at c0
  clear h hn
  by_cases hp : 0 ≤ p
  · have HB' : Hid (isP P p = decide (p < n)) := Lib.hid (by rw [HB.out]; simp [hp])
    clear HB
    go_enter Try.func24, Try.ntmps24
    go_wp2
    go_ret
    exact ⟨by rw [HB'.out]; rfl, rfl⟩
  · have hp' : decide (0 ≤ p) = false := by simpa using hp
    have HB' : Hid (isP P p = false) := Lib.hid (by rw [HB.out, hp']; rfl)
    clear HB hp
    go_enter Try.func24, Try.ntmps24
    go_wp2
    go_ret
    exact ⟨by rw [HB'.out]; rfl, rfl⟩
theorem isResource_calls (w : World) (S : Nat) (P : PSet) (A : Nat → Option Addr) (c : Nat → Nat) (h : SetM w S P A c) (p : Int) : Calls Try.prog 28 #[.pointer (some ⟨S, 0, none⟩), .int .i64 p] w (RetBw w (isR P p)) := by
  have c0 : w.cell? ⟨S, 1, none⟩ = some (.slice (A 1) P.rs.length (c 1)) := h.blk.cell rfl
  obtain ⟨n, hn⟩ : ∃ n, n = P.rs.length := ⟨_, rfl⟩
  have HB : Hid (isR P p = (decide (0 ≤ p) && decide (p < n))) := Lib.hid (by unfold isR; rw [hn])
  rw [← hn] at c0
  clear h hn
  by_cases hp : 0 ≤ p
  · have HB' : Hid (isR P p = decide (p < n)) := Lib.hid (by rw [HB.out]; simp [hp])
    clear HB
    go_enter Try.func28, Try.ntmps28
    go_wp2
    go_ret
    exact ⟨by rw [HB'.out]; rfl, rfl⟩
  · have hp' : decide (0 ≤ p) = false := by simpa using hp
    have HB' : Hid (isR P p = false) := Lib.hid (by rw [HB.out, hp']; rfl)
    clear HB hp
    go_enter Try.func28, Try.ntmps28
    go_wp2
    go_ret
    exact ⟨by rw [HB'.out]; rfl, rfl⟩
theorem State_calls (w : World) (S : Nat) (P : PSet) (A : Nat → Option Addr) (c : Nat → Nat) (h : SetM w S P A c) (h8 : P.ps.length ≤ 1000) (p : Int) : Calls Try.prog 19 #[.pointer (some ⟨S, 0, none⟩), .int .i64 p] w (RetIw w (stateI P p)) := by
  have H := Lib.hid h
  cases hip : isP P p with
  | false =>
    have HX : Hid (stateI P p = 0) := Lib.hid (by unfold stateI; rw [hip]; rfl)
    have HI := Lib.hid hip
    clear h hip
    go_enter Try.func19, Try.ntmps19
    go_wp2_with fail
    refine (isProcess_calls w S P A c H.out p).mono ?_
    rintro e w1 ⟨rfl, rfl⟩
    rw [HI.out]
    go_wp2
    go_ret
    exact ⟨by rw [HX.out]; rfl, rfl⟩
  | true =>
    obtain ⟨k, rfl⟩ : ∃ k : Nat, p = k := ⟨p.toNat, by unfold isP at hip; simp at hip; omega⟩
    have hk : k < P.ps.length := by unfold isP at hip; simp at hip; omega
    have HX : Hid (stateI P k = (P.proc k).st) := Lib.hid (by unfold stateI; rw [hip]; rfl)
    obtain ⟨g, hA, hg, hf, hc⟩ := h.pcell hk
    have c0 : w.cell? ⟨S, 0, none⟩ = some (.slice (some ⟨g, 0, none⟩) P.ps.length (c 0)) := by rw [← hA]; exact h.blk.cell rfl
    have c1 := hc 1 _ rfl
    obtain ⟨n, hn⟩ : ∃ n, n = P.ps.length := ⟨_, rfl⟩
    rw [← hn] at c0 hk h8
    have HI := Lib.hid hip
    clear h hip hA hg hf hc hn
    go_enter Try.func19, Try.ntmps19
    go_wp2_with fail
    refine (isProcess_calls w S P A c H.out k).mono ?_
    rintro e w1 ⟨rfl, rfl⟩
    rw [HI.out]
    go_wp2
    go_ret
    exact ⟨by rw [HX.out]; rfl, rfl⟩
theorem Count_calls (w : World) (S : Nat) (P : PSet) (A : Nat → Option Addr) (c : Nat → Nat) (h : SetM w S P A c) (h8 : P.rs.length ≤ 1000) (p : Int) : Calls Try.prog 14 #[.pointer (some ⟨S, 0, none⟩), .int .i64 p] w (RetIw w (countI P p)) := by
  have H := Lib.hid h
  cases hip : isR P p with
  | false =>
    have HX : Hid (countI P p = 0) := Lib.hid (by unfold countI; rw [hip]; rfl)
    have HI := Lib.hid hip
    clear h hip
    go_enter Try.func14, Try.ntmps14
    go_wp2_with fail
    refine (isResource_calls w S P A c H.out p).mono ?_
    rintro e w1 ⟨rfl, rfl⟩
    rw [HI.out]
    go_wp2
    go_ret
    exact ⟨by rw [HX.out]; rfl, rfl⟩
  | true =>
    obtain ⟨k, rfl⟩ : ∃ k : Nat, p = k := ⟨p.toNat, by unfold isR at hip; simp at hip; omega⟩
    have hk : k < P.rs.length := by unfold isR at hip; simp at hip; omega
    have HX : Hid (countI P k = (P.rsc k).count) := Lib.hid (by unfold countI; rw [hip]; rfl)
    obtain ⟨g, hA, hg, hf, hc⟩ := h.rcell hk
    have c0 : w.cell? ⟨S, 1, none⟩ = some (.slice (some ⟨g, 0, none⟩) P.rs.length (c 1)) := by rw [← hA]; exact h.blk.cell rfl
    have c1 := hc 1 _ rfl
    obtain ⟨n, hn⟩ : ∃ n, n = P.rs.length := ⟨_, rfl⟩
    rw [← hn] at c0 hk h8
    have HI := Lib.hid hip
    clear h hip hA hg hf hc hn
    go_enter Try.func14, Try.ntmps14
    go_wp2_with fail
    refine (isResource_calls w S P A c H.out k).mono ?_
    rintro e w1 ⟨rfl, rfl⟩
    rw [HI.out]
    go_wp2
    go_ret
    exact ⟨by rw [HX.out]; rfl, rfl⟩
end Go.Proofs.Ytgeffkdobnipgaa
