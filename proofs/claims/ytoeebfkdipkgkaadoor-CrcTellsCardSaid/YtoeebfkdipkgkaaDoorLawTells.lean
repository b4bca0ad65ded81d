/- The law CrcTells, walked: it returns true, and nothing that was there turns. -/
import Derived.Test.YtoeebfkdipkgkaaDoorCrcAwake
import Derived.Test.YtoeebfkdipkgkaaDoorRefOn
import Derived.Test.YtoeebfkdipkgkaaDoorConv
namespace Go.Proofs.YtoeebfkdipkgkaaDoor
open Go.RowKit Nac Nac.Crc
set_option maxHeartbeats 2000000 in
theorem tells_calls (w : World) (A : Option Addr) (c : Nat) (l : List UInt8) (sum : W32) (ht : Nib w) (hg : 0 < w.heap.size) (h : RB w w.heap.size A l) (h8 : l.length ≤ 140737488351232) :
    Calls Tryd.prog 3 #[.int .u32 (sum.toNat : Int), .slice A l.length c] w fun e w' => e = .returned (.bool true) ∧ Below w.heap.size w w' := by
  go_enter Tryd.func3, Tryd.ntmps3
  go_wp2_with (at_builtin; refine wpList_app_bytes _ rfl _ _ rfl w.heap.size (some ⟨w.heap.size, 0, none⟩) 0 [] _ rfl rfl (OB.new w (Nat.le_refl _) [] (by simp)) A c l _ rfl rfl (h.below ((Below.refl _ _).alloc (Nat.le_refl _) _)) (by simp; omega) (by simp) ?_)
  intro A2 c2 L w2 HL hown2 hgr2 _
  have hL : L = l := HL.out
  subst hL
  have hb1 : Below w.heap.size w (w.alloc (.cells #[] 5)) := (Below.refl _ _).alloc (Nat.le_refl _) _
  have hb2 := below_app hb1 hgr2 (OB.new w (Nat.le_refl _) [] (by simp)) hb1.size (Nat.le_refl _)
  clear hgr2 hb1
  go_wp2_with fail
  refine (awake_calls w2 (ht.below hg hb2) (by have := hb2.size; omega)).mono ?_
  rintro e w3 ⟨rfl, hb3⟩
  have hr2 := hown2.rb.below hb3
  have hb13 := hb2.trans (hb3.mono hb2.size)
  have hr1 := h.below hb13
  have ht3 := ht.below hg hb13
  clear hb3 hown2
  go_wp2_with fail
  refine (on_calls w3 _ A c L sum ht3 hr1 h8).mono ?_
  rintro e w' ⟨rfl, rfl⟩
  go_wp2_with fail
  refine (refon_calls w3 _ A2 c2 L sum hr2 h8).mono ?_
  rintro e w' ⟨rfl, rfl⟩
  go_wp2_with fail
  refine (of_calls w3 _ A c L ht3 hr1 h8).mono ?_
  rintro e w' ⟨rfl, rfl⟩
  go_wp2_with fail
  refine (refof_calls w3 _ A2 _ c2 L rfl hr2 h8).mono ?_
  rintro e w' ⟨rfl, rfl⟩
  have e1 := run_conv w3 hr1 L.length c rfl
  have e2 := run_conv w3 hr2 L.length c2 rfl
  go_wp2
  go_ret
  exact ⟨rfl, hb13⟩
end Go.Proofs.YtoeebfkdipkgkaaDoor
