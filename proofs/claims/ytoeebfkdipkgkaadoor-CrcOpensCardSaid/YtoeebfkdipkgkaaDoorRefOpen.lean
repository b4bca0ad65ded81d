/- The reference's Open. -/
import Derived.Test.YtoeebfkdipkgkaaDoorRefSeal
import Derived.Test.YtoeebfkdipkgkaaDoorConv
import Derived.Deep.RegionWith
namespace Go.Proofs.YtoeebfkdipkgkaaDoor
open Go.RowKit Nac Nac.Crc
theorem good_sealed (l : List UInt8) (h4 : 4 ≤ l.length) : good l = true ↔ sealedB (l.take (l.length - 4)) = l := by
  have hd : (l.drop (l.length - 4)).length = 4 := by simp; omega
  have hsplit : l.take (l.length - 4) ++ l.drop (l.length - 4) = l := List.take_append_drop _ _
  unfold good sealedB
  rw [beq_iff_eq]
  constructor
  · intro h
    rw [← h]
    have := lbs_le (l.drop (l.length - 4))
    rw [hd] at this
    rw [this, hsplit]
  · intro h
    have h2 := congrArg (fun x => x.drop (l.length - 4)) h
    have e : (l.take (l.length - 4)).length = l.length - 4 := by simp
    rw [List.drop_append, e, Nat.sub_self, List.drop_zero, List.drop_of_length_le (by omega), List.nil_append] at h2
    rw [← h2, le_lbs]
    exact Nat.mod_eq_of_lt (by have := (of (l.take (l.length - 4))).isLt; omega)
def RetRef (w : World) (l : List UInt8) (e : Ending) (w' : World) : Prop :=
  ∃ A c, e = .returned (.tuple #[.slice A (openB l).1.length c, .int .i64 (openB l).2]) ∧ RB w' w'.heap.size A (openB l).1 ∧ Below w.heap.size w w'
set_option maxHeartbeats 1000000 in
theorem refopen_short (w : World) (A : Option Addr) (c : Nat) (l : List UInt8) (h4 : l.length < 4) :
    Calls Tryd.prog 15 #[.slice A l.length c] w (RetRef w l) := by
  have ho : openB l = ([], 2) := by unfold openB; rw [if_pos h4]
  have HO := Lib.hid ho; clear ho
  go_enter Tryd.func15, Tryd.ntmps15
  go_wp2
  go_ret2
  refine ⟨none, 0, by rw [HO.out]; rfl, by rw [HO.out]; exact RB.nil _ _ _, Below.refl _ _⟩
set_option maxHeartbeats 2000000 in
theorem refopen_long (w : World) (B : Nat) (A : Option Addr) (c : Nat) (l : List UInt8) (h : RB w B A l) (hB : B ≤ w.heap.size) (hc : l.length ≤ c) (h4 : 4 ≤ l.length) (h8 : l.length ≤ 140737488351232) :
    Calls Tryd.prog 15 #[.slice A l.length c] w (RetRef w l) := by
  obtain ⟨b, o, rfl, hb, hcell⟩ := h (by rintro rfl; simp at h4)
  obtain ⟨m, hm4⟩ : ∃ m, m = l.take (l.length - 4) := ⟨_, rfl⟩
  have hrm : RB w B (some ⟨b, o, none⟩) m := by rw [hm4]; exact h.take _
  have hlm : l.length - 4 = m.length := by rw [hm4]; simp
  have c2 := refseal_calls w.drew B _ _ c m hlm hrm hB (by omega)
  have C2 := Lib.hid c2; clear c2
  obtain ⟨s, hs⟩ : ∃ s, s = sealedB m := ⟨_, rfl⟩
  obtain ⟨S, hS⟩ : ∃ S, S = strB s := ⟨_, rfl⟩
  obtain ⟨T, hT⟩ : ∃ T, T = strB l := ⟨_, rfl⟩
  have k1 : ∀ W n, n = l.length → RB W B (some ⟨b, o, none⟩) l → (convert 23 9 (.slice (some ⟨b, o, none⟩) n c)).run Tryd.prog W = .ok (.string T) W := fun W n hn hW => by rw [hT]; exact run_conv W hW n c hn
  have k2 : ∀ W A n c', n = s.length → RB W W.heap.size A s → (convert 23 9 (.slice A n c')).run Tryd.prog W = .ok (.string S) W := fun W A n c' hn hW => by rw [hS]; exact run_conv W hW n c' hn
  have K1 := Lib.hid k1; clear k1
  have K2 := Lib.hid k2; clear k2
  have hd : RB w.drew B (some ⟨b, o, none⟩) l := h
  have e0 := K1.out w.drew _ rfl hd
  have heq : (S.toList == T.toList) = decide (s = l) := by
    rw [hS, hT, strB_toList, strB_toList, Bool.eq_iff_iff]; simp
  have hopen : openB l = if s = l then (m, 0) else ([], 8) := by
    unfold openB
    rw [if_neg (by omega)]
    have := good_sealed l h4
    rw [← hm4, ← hs] at this
    rw [← hm4]
    by_cases hg : s = l
    · rw [if_pos (this.2 hg), if_pos hg]
    · rw [if_neg (fun h => hg (this.1 h)), if_neg hg]
  rw [← hs] at C2
  have HS := Lib.hid hs; clear hs
  have HS2 := Lib.hid hS; clear hS
  have HT := Lib.hid hT; clear hT
  have HM := Lib.hid hm4; clear hm4
  have HLM := Lib.hid hlm; clear hlm
  by_cases hg : s = l
  · rw [if_pos hg] at hopen
    have HO := Lib.hid hopen; clear hopen
    have ht : (S.toList == T.toList) = true := by rw [heq, decide_eq_true hg]
    have ht2 : S.toList = T.toList := by simpa using ht
    have HG := Lib.hid hg; clear hg heq
    go_enter Tryd.func15, Tryd.ntmps15
    go_wp2_with fail
    have q1 : IntKind.i64.wrap ((l.length : Int) - 4) = (l.length : Int) - 4 := IntWalk.i64_in _ (by omega)
    have q2 : (0 : Int) ≤ (l.length : Int) - 4 := by omega
    have q3 : ((l.length : Int) - 4).toNat = l.length - 4 := by omega
    have q4 : (l.length : Int) - 4 ≤ (c : Int) := by omega
    go_region_with (go_at_call 17; (refine C2.out.mono ?_; rintro e w' ⟨A2, c3, rfl, hown, hbel⟩; have e1 := K1.out w' _ rfl (hd.below (hbel.mono hB)); have e2 := K2.out w' A2 _ c3 rfl hown.rb))
    all_goals
      go_wp2
      go_ret2
      have hb9 := (by assumption : Below w.drew.heap.size w.drew _)
      have hm9 : RB w.drew w.drew.heap.size (some ⟨b, o, none⟩) m := hrm.mono hB
      exact ⟨some ⟨b, o, none⟩, c, by rw [HO.out, ← HLM.out]; rfl, by rw [HO.out]; exact (hm9.below hb9).mono hb9.size, ⟨hb9.os, hb9.tape, hb9.output, hb9.size, hb9.block⟩⟩
  · rw [if_neg hg] at hopen
    have HO := Lib.hid hopen; clear hopen
    have ht : (S.toList == T.toList) = false := by rw [heq, decide_eq_false hg]
    have ht2 : ¬ S.toList = T.toList := by simpa using ht
    have HG := Lib.hid hg; clear hg heq
    go_enter Tryd.func15, Tryd.ntmps15
    go_wp2_with fail
    have q1 : IntKind.i64.wrap ((l.length : Int) - 4) = (l.length : Int) - 4 := IntWalk.i64_in _ (by omega)
    have q2 : (0 : Int) ≤ (l.length : Int) - 4 := by omega
    have q3 : ((l.length : Int) - 4).toNat = l.length - 4 := by omega
    have q4 : (l.length : Int) - 4 ≤ (c : Int) := by omega
    go_region_with (go_at_call 17; (refine C2.out.mono ?_; rintro e w' ⟨A2, c3, rfl, hown, hbel⟩; have e1 := K1.out w' _ rfl (hd.below (hbel.mono hB)); have e2 := K2.out w' A2 _ c3 rfl hown.rb))
    all_goals
      go_wp2
      go_ret2
      have hb9 := (by assumption : Below w.drew.heap.size w.drew _)
      exact ⟨none, 0, by rw [HO.out]; rfl, by rw [HO.out]; exact RB.nil _ _ _, ⟨hb9.os, hb9.tape, hb9.output, hb9.size, hb9.block⟩⟩
theorem refopen_calls (w : World) (B : Nat) (A : Option Addr) (n c : Nat) (l : List UInt8) (hn : n = l.length) (h : RB w B A l) (hB : B ≤ w.heap.size) (hc : l.length ≤ c) (h8 : l.length ≤ 140737488351232) :
    Calls Tryd.prog 15 #[.slice A n c] w (RetRef w l) := by
  subst hn
  by_cases h4 : l.length < 4
  · exact refopen_short w A c l h4
  · exact refopen_long w B A c l h hB hc (by omega) h8
end Go.Proofs.YtoeebfkdipkgkaaDoor
