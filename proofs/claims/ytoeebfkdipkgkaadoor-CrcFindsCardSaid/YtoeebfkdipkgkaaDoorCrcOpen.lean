/- crc.Open: what is before the check, or the error. -/
import Derived.Test.YtoeebfkdipkgkaaDoorCrcSeal
import Derived.Test.YtoeebfkdipkgkaaDoorOctNum
namespace Go.Proofs.YtoeebfkdipkgkaaDoor
open Go.RowKit Nac Nac.Crc
def openB (l : List UInt8) : List UInt8 × Int := if l.length < 4 then ([], 2) else if good l = true then (l.take (l.length - 4), 0) else ([], 8)
def RetOpen (w : World) (l : List UInt8) (e : Ending) (w' : World) : Prop :=
  ∃ A c, e = .returned (.tuple #[.slice A (openB l).1.length c, .int .i64 (openB l).2]) ∧ OB w' w.heap.size A c (openB l).1 ∧ Below w.heap.size w w'
set_option maxHeartbeats 1000000 in
theorem open_short (w : World) (A : Option Addr) (c : Nat) (l : List UInt8) (h4 : l.length < 4) :
    Calls Tryd.prog 14 #[.slice A l.length c] w (RetOpen w l) := by
  have ho : openB l = ([], 2) := by unfold openB; rw [if_pos h4]
  have HO := Lib.hid ho; clear ho
  go_enter Tryd.func14, Tryd.ntmps14
  go_wp2
  go_ret2
  refine ⟨none, 0, by rw [HO.out]; rfl, by rw [HO.out]; exact OB.nil _ _, Below.refl _ _⟩
set_option maxHeartbeats 1000000 in
theorem open_long (w : World) (B : Nat) (A : Option Addr) (c : Nat) (l : List UInt8) (ht : Nib w) (h : RB w B A l) (hc : l.length ≤ c) (h4 : 4 ≤ l.length) (h8 : l.length ≤ 140737488355328) :
    Calls Tryd.prog 14 #[.slice A l.length c] w (RetOpen w l) := by
  obtain ⟨b, o, rfl, hb, hcell⟩ := h (by rintro rfl; simp at h4)
  obtain ⟨t, ht4⟩ : ∃ t, t = l.drop (l.length - 4) := ⟨_, rfl⟩
  obtain ⟨m, hm4⟩ : ∃ m, m = l.take (l.length - 4) := ⟨_, rfl⟩
  have hrt : RB w B (some ⟨b, o + (l.length - 4), none⟩) t := by rw [ht4]; exact h.drop _
  have hrm : RB w B (some ⟨b, o, none⟩) m := by rw [hm4]; exact h.take _
  have hlt : l.length - (l.length - 4) = t.length := by rw [ht4]; simp
  have hlm : l.length - 4 = m.length := by rw [hm4]; simp
  obtain ⟨a, ha⟩ : ∃ a, a = le t := ⟨_, rfl⟩
  obtain ⟨v, hv⟩ : ∃ v, v = (of m).toNat := ⟨_, rfl⟩
  have hv2 : v < 4294967296 := by rw [hv]; exact (of m).isLt
  have c1 := get_calls_n w B _ _ (c - (l.length - 4)) t hlt hrt (by omega) (by omega)
  have c2 := of_callsW_n w B _ _ c m hlm ht hrm (by omega)
  rw [← ha] at c1
  rw [← hv] at c2
  have C1 := Lib.hid c1; clear c1
  have C2 := Lib.hid c2; clear c2
  have hopen : openB l = if a = v then (m, 0) else ([], 8) := by
    unfold openB
    rw [if_neg (by omega)]
    unfold good
    rw [← ht4, ← hm4, ← ha, ← hv]
    simp only [beq_iff_eq]
  have HA := Lib.hid ha; clear ha
  have HV := Lib.hid hv; clear hv
  have HT := Lib.hid ht4; clear ht4
  have HM := Lib.hid hm4; clear hm4
  have HLT := Lib.hid hlt; clear hlt
  have HLM := Lib.hid hlm; clear hlm
  by_cases hav : a = v
  · rw [if_pos hav] at hopen
    have HO := Lib.hid hopen; clear hopen
    have h1 : a ≤ v := by omega
    have h2 : v ≤ a := by omega
    clear hav
    go_enter Tryd.func14, Tryd.ntmps14
    go_wp2_with fail
    refine C1.out.mono ?_
    rintro e w' ⟨rfl, rfl⟩
    go_wp2_with fail
    refine C2.out.mono ?_
    rintro e w' ⟨rfl, rfl⟩
    go_wp2_with (at_builtin; refine wpList_app_bytes _ rfl _ _ rfl w.heap.size none 0 [] 0 rfl rfl (OB.nil _ _) (some ⟨b, o, none⟩) c m _ rfl HLM.out hrm (by have := HLM.out; simp; omega) (Nat.le_refl _) ?_)
    intro A2 c2 L w2 HL hown hgr _
    have hb2 := below_app (Below.refl _ _) hgr (OB.nil _ _) (Nat.le_refl _) (Nat.le_refl _)
    have HL2 : Hid (L = m) := HL.out
    clear hgr HL
    go_wp2
    go_ret2
    have := HL2.out
    subst this
    exact ⟨A2, c2, by rw [HO.out]; rfl, by rw [HO.out]; exact hown, hb2⟩
  · rw [if_neg hav] at hopen
    have HO := Lib.hid hopen; clear hopen
    go_enter Tryd.func14, Tryd.ntmps14
    go_wp2_with fail
    refine C1.out.mono ?_
    rintro e w' ⟨rfl, rfl⟩
    go_wp2_with fail
    refine C2.out.mono ?_
    rintro e w' ⟨rfl, rfl⟩
    go_wp2
    go_ret2
    exact ⟨none, 0, by rw [HO.out]; rfl, by rw [HO.out]; exact OB.nil _ _, Below.refl _ _⟩
theorem open_callsW (w : World) (B : Nat) (A : Option Addr) (n c : Nat) (l : List UInt8) (hn : n = l.length) (ht : Nib w) (h : RB w B A l) (hc : l.length ≤ c) (h8 : l.length ≤ 140737488355328) :
    Calls Tryd.prog 14 #[.slice A n c] w (RetOpen w l) := by
  subst hn
  by_cases h4 : l.length < 4
  · exact open_short w A c l h4
  · exact open_long w B A c l ht h hc (by omega) h8
theorem open_calls (w : World) (B : Nat) (A : Option Addr) (n c : Nat) (l : List UInt8) (hn : n = l.length) (ht : Nib w) (h : RB w B A l) (hc : l.length ≤ c) (h8 : l.length ≤ 140737488351232) :
    Calls Tryd.prog 14 #[.slice A n c] w (RetOpen w l) := open_callsW w B A n c l hn ht h hc (by omega)
end Go.Proofs.YtoeebfkdipkgkaaDoor
