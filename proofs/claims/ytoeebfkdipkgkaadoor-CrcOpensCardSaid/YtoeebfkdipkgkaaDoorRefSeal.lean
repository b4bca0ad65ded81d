/- The reference's Seal. -/
import Derived.Test.YtoeebfkdipkgkaaDoorRefPut
import Derived.Test.YtoeebfkdipkgkaaDoorRefOn
import Derived.Test.YtoeebfkdipkgkaaDoorCrcOpen
namespace Go.Proofs.YtoeebfkdipkgkaaDoor
open Go.RowKit Nac Nac.Crc
set_option maxHeartbeats 1000000 in
theorem refseal_calls (w : World) (B : Nat) (A : Option Addr) (n c : Nat) (l : List UInt8) (hn : n = l.length) (h : RB w B A l) (hB : B ≤ w.heap.size) (h8 : l.length ≤ 140737488351232) :
    Calls Tryd.prog 17 #[.slice A n c] w (RetOB w (sealedB l)) := by
  subst hn
  obtain ⟨v, hv⟩ : ∃ v, v = (of l).toNat := ⟨_, rfl⟩
  have hv2 : v < 4294967296 := by rw [hv]; exact (of l).isLt
  have HV := Lib.hid hv; clear hv
  go_enter Tryd.func17, Tryd.ntmps17
  go_wp2_with (at_builtin; refine wpList_app_bytes _ rfl _ _ rfl w.heap.size (some ⟨w.heap.size, 0, none⟩) 0 [] _ rfl rfl (OB.new w (Nat.le_refl _) [] (by simp)) A c l _ rfl rfl ((h.mono hB).below ((Below.refl _ _).alloc (Nat.le_refl _) _)) (by simp; omega) (by simp) ?_)
  intro A2 c2 L2 w2 HL2 hown2 hgr2 _
  have hb1 : Below w.heap.size w (w.alloc (.cells #[] 5)) := (Below.refl _ _).alloc (Nat.le_refl _) _
  have hb2 := below_app hb1 hgr2 (OB.new w (Nat.le_refl _) [] (by simp)) hb1.size (Nat.le_refl _)
  have hr2 := (h.mono hB).below hb2
  clear hgr2 hb1
  go_wp2_with fail
  refine (refof_calls _ _ A _ c l rfl hr2 h8).mono ?_
  rintro e w' ⟨rfl, rfl⟩
  rw [← HV.out]
  go_wp2_with fail
  refine (refput_calls w2 v 4 (by omega) (by omega)).mono ?_
  rintro e w3 ⟨A3, c3, rfl, hown3, hb3⟩
  obtain ⟨P3, HP3⟩ : ∃ P, Hid (P = lbs v (4 : Int).toNat) := ⟨_, rfl⟩
  rw [← HP3.out] at hown3 ⊢
  have hown2' := hown2.below hb3 (Nat.le_refl _)
  have hb23 := hb2.trans (hb3.mono hb2.size)
  have hl3 : P3.length = 4 := by rw [HP3.out]; exact lbs_length 4 v
  have HLN := Lib.hid hl3; clear hl3
  go_wp2_with (at_builtin; refine wpList_app_bytes _ rfl _ _ rfl w.heap.size A2 c2 L2 _ rfl rfl hown2' A3 c3 P3 _ rfl rfl hown3.rb (by rw [HLN.out, HL2.out]; simp; omega) (by have := hb23.size; omega) ?_)
  intro A4 c4 L4 w4 HL4 hown4 hgr4 _
  have hb4 := below_app hb23 hgr4 hown2' hb23.size (Nat.le_refl _)
  have HL : Hid (L4 = sealedB l) := by show L4 = _; rw [HL4.out, HL2.out, HP3.out, HV.out]; rfl
  clear hgr4 HL4 hown2' hown3
  go_wp2
  go_ret
  have := HL.out
  subst this
  exact ⟨A4, c4, rfl, hown4, hb4⟩
end Go.Proofs.YtoeebfkdipkgkaaDoor
