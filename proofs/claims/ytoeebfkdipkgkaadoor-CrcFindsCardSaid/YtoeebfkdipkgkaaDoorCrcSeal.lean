/- crc.Seal: the bytes, and their check in four bytes. -/
import Derived.Test.YtoeebfkdipkgkaaDoorOctPut
import Derived.Test.YtoeebfkdipkgkaaDoorCrcOn
namespace Go.Proofs.YtoeebfkdipkgkaaDoor
open Go.RowKit Nac Nac.Crc
def sealedB (l : List UInt8) : List UInt8 := l ++ lbs (of l).toNat 4
set_option maxHeartbeats 1000000 in
theorem seal_calls (w : World) (B : Nat) (A : Option Addr) (c : Nat) (l : List UInt8) (ht : Nib w) (hg : 0 < w.heap.size) (h : RB w B A l) (hB : B ≤ w.heap.size) (h8 : l.length ≤ 140737488351232) :
    Calls Tryd.prog 16 #[.slice A l.length c] w (RetOB w (sealedB l)) := by
  obtain ⟨v, hv⟩ : ∃ v, v = (of l).toNat := ⟨_, rfl⟩
  have hv2 : v < 4294967296 := by rw [hv]; exact (of l).isLt
  have HV := Lib.hid hv; clear hv
  go_enter Tryd.func16, Tryd.ntmps16
  go_wp2_with (at_make; refine wpList_make0_bytes w rfl _ _ rfl w.heap.size .i64 .i64 ((l.length : Int) + 4) (l.length + 4) rfl rfl (by omega) (by omega) (Nat.le_refl _) ?_)
  intro w1 hown1 hgr1
  have hb1 : Below w.heap.size w w1 := (Below.refl _ _).grown hgr1 (Nat.le_refl _) (fun k hk => by cases hk)
  have hr1 := (h.mono hB).below hb1
  go_wp2_with (at_builtin; refine wpList_app_bytes _ rfl _ _ rfl w.heap.size _ _ [] _ rfl rfl hown1 A c l _ rfl rfl hr1 (by simp; omega) hb1.size ?_)
  intro A2 c2 L2 w2 HL2 hown2 hgr2 _
  have hb2 := below_app hb1 hgr2 hown1 hb1.size (Nat.le_refl _)
  have hr2 := (h.mono hB).below hb2
  have ht2 := ht.below hg hb2
  clear hgr1 hgr2 hown1
  go_wp2_with fail
  refine (of_calls _ _ A c l ht2 hr2 h8).mono ?_
  rintro e w' ⟨rfl, rfl⟩
  rw [← HV.out]
  go_wp2_with fail
  refine (put_calls w2 v 4 (by omega) (by omega)).mono ?_
  rintro e w' ⟨rfl, rfl⟩
  go_wp2_with (at_builtin; refine wpList_app_bytes _ rfl _ _ rfl w.heap.size A2 c2 L2 _ rfl rfl (hown2.alloc _) (some ⟨w2.heap.size, 0, none⟩) 4 (lbs v 4) _ rfl (lbs_length 4 v).symm (rb_new w2 _ _) (by rw [lbs_length, HL2.out]; omega) (by have := hb2.size; simp; omega) ?_)
  intro A3 c3 L3 w3 HL3 hown3 hgr3 _
  have hb3 := below_app (hb2.alloc hb2.size _) hgr3 (hown2.alloc _) (by have := hb2.size; simp; omega) (Nat.le_refl _)
  have hL : L3 = sealedB l := by rw [HL3.out, HL2.out, HV.out]; rfl
  have HL := Lib.hid hL; clear hL HL3
  clear hgr3 hown2
  go_wp2
  go_ret
  have := HL.out
  subst this
  exact ⟨A3, c3, rfl, hown3, hb3⟩
end Go.Proofs.YtoeebfkdipkgkaaDoor
