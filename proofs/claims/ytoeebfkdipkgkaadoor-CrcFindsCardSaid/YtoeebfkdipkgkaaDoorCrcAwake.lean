/- The chapter's examples hold: 'awake' returns true, and nothing that was there turns. -/
import Derived.Test.YtoeebfkdipkgkaaDoorCrcOpen
import Derived.Lib.SlBytesConst
namespace Go.Proofs.YtoeebfkdipkgkaaDoor
open Go.RowKit Nac Nac.Crc
theorem ex1 : openB [0, 0, 0, 1] = ([], 8) := by decide +kernel
theorem ex2 : openB [0, 0, 0, 0] = ([], 0) := by decide +kernel
theorem ex3 : (of [49, 50, 51, 52, 53, 54, 55, 56, 57]).toNat = 3808858755 := by decide +kernel
theorem ex4 : (of []).toNat = 0 := by decide +kernel
theorem ex5 : sealedB [] = [0, 0, 0, 0] := by decide +kernel
theorem rb_marked (w : World) (t : TypeId) (l : List UInt8) (fr : Nat × Nat) : RB (w.alloc (.cells (l.map bv).toArray t fr)) (w.heap.size + 1) (some ⟨w.heap.size, 0, none⟩) l := fun _ => by
  refine ⟨w.heap.size, 0, rfl, by omega, fun j hj => ?_⟩
  rw [cell_of_row _ w.heap.size (0 + j) _ t fr (heap_alloc_new w _)]
  simp [bv, hj]
set_option maxHeartbeats 2000000 in
theorem awake_calls (w : World) (ht : Nib w) (hg : 0 < w.heap.size) :
    Calls Tryd.prog 9 #[] w fun e w' => e = .returned (.bool true) ∧ Below w.heap.size w w' := by
  have kc := fun (w : World) (C : Array Value) (n c : Nat) => Lib.run_convert_bytes_const (P := Tryd.prog) w 23 5 C n c Tryd.underlying23 Tryd.underlying5
  have KC := Lib.hid kc; clear kc
  go_enter Tryd.func9, Tryd.ntmps9
  go_wp2_with fail
  have hb1 : Below w.heap.size w (w.alloc (.cells ([0, 0, 0, 1].map bv).toArray 5)) := (Below.refl _ _).alloc (Nat.le_refl _) _
  refine (open_calls _ (w.heap.size + 1) (some ⟨w.heap.size, 0, none⟩) 4 4 [0, 0, 0, 1] rfl (ht.below hg hb1) (rb_new w _ _) (by decide) (by decide)).mono ?_
  rintro e w2 ⟨A, c, rfl, _, hb2⟩
  rw [ex1]
  have hb12 := hb1.trans (hb2.mono hb1.size)
  obtain ⟨hx1, hx2⟩ : w.heap.size ≤ w2.heap.size ∧ Nib w2 := ⟨hb12.size, ht.below hg hb12⟩
  clear hb1 hb2
  go_wp2_with fail
  have hb3 := hb12.alloc hb12.size (.cells ([0, 0, 0, 0].map bv).toArray 5)
  refine (open_calls _ (w2.heap.size + 1) (some ⟨w2.heap.size, 0, none⟩) 4 4 [0, 0, 0, 0] rfl (ht.below hg hb3) (rb_new w2 _ _) (by decide) (by decide)).mono ?_
  rintro e w3 ⟨A3, c3, rfl, _, hb4⟩
  rw [ex2]
  have hb13 := hb3.trans (hb4.mono hb3.size)
  clear hb3 hb4
  obtain ⟨hx3, hx4⟩ : w.heap.size ≤ w3.heap.size ∧ Nib w3 := ⟨hb13.size, ht.below hg hb13⟩
  have kc := KC.out
  go_wp2_with fail
  clear kc
  have hb5 := hb13.alloc hb13.size (.cells ([49, 50, 51, 52, 53, 54, 55, 56, 57].map bv).toArray 5 (9, 10))
  refine (of_calls_n _ (w3.heap.size + 1) (some ⟨w3.heap.size, 0, none⟩) 9 9 [49, 50, 51, 52, 53, 54, 55, 56, 57] rfl (ht.below hg hb5) (rb_marked w3 _ _ _) (by decide)).mono ?_
  rintro e w4 ⟨rfl, hw4⟩
  rw [ex3]
  have hb6 : Below w.heap.size w w4 := by rw [← hw4]; exact hb5
  clear hb5 hw4
  go_wp2_with fail
  refine (of_calls_n w4 0 none 0 0 [] rfl (ht.below hg hb6) (RB.nil _ _ _) (by decide)).mono ?_
  rintro e w5 ⟨rfl, rfl⟩
  rw [ex4]
  go_wp2_with fail
  refine (seal_calls w4 0 none 0 [] (ht.below hg hb6) (by have := hb6.size; omega) (RB.nil _ _ _) (by omega) (by decide)).mono ?_
  rintro e w6 ⟨A6, c6, rfl, _, hb7⟩
  rw [ex5]
  have hb8 := hb6.trans (hb7.mono hb6.size)
  clear hb6 hb7
  go_wp2
  go_ret
  exact ⟨rfl, hb8⟩
end Go.Proofs.YtoeebfkdipkgkaaDoor
