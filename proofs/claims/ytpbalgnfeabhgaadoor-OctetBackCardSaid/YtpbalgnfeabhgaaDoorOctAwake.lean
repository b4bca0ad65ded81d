/- octet's chapter's examples. -/
import Derived.Test.YtpbalgnfeabhgaaDoorOctText
import Derived.Test.YtpbalgnfeabhgaaDoorOctPut
import Derived.Test.YtpbalgnfeabhgaaDoorFault
namespace Go.Proofs.YtpbalgnfeabhgaaDoor
open Go.RowKit Nac Nac.Crc
set_option maxHeartbeats 4000000 in
theorem awake_calls (w : World) (hd : Hdl w) :
    Calls Tryd.prog 8 #[] w fun e w' => e = .returned (.bool true) ∧ Below w.heap.size w w' := by
  have HD := Lib.hid hd
  clear hd
  go_enter Tryd.func8, Tryd.ntmps8
  go_wp2_with fail
  have hb1 : Below w.heap.size w (w.alloc (.cells #[.int .u8 2, .int .u8 1] 5)) := (Below.refl _ _).alloc (Nat.le_refl _) _
  have hr1 : RB (w.alloc (.cells #[.int .u8 2, .int .u8 1] 5)) (w.heap.size + 1) (some ⟨w.heap.size, 0, none⟩) [2, 1] := rb_new w 5 [2, 1]
  obtain ⟨w1, hw1⟩ : ∃ w1, w1 = w.alloc (.cells #[.int .u8 2, .int .u8 1] 5) := ⟨_, rfl⟩
  rw [← hw1] at hb1 hr1 ⊢
  clear hw1
  refine (get_calls_n w1 _ _ 2 2 [2, 1] rfl hr1 (by decide) (by decide)).mono ?_
  rintro e w2 ⟨rfl, rfl⟩
  rw [show le [2, 1] = 258 by decide]
  have HB1 := Lib.hid hb1
  clear hb1 hr1
  go_wp2_with fail
  have hb2 : Below w.heap.size w (w1.alloc (.cells #[.int .u8 1, .int .u8 0, .int .u8 9] 5)) := HB1.out.alloc HB1.out.size _
  have hr2 : RB (w1.alloc (.cells #[.int .u8 1, .int .u8 0, .int .u8 9] 5)) (w1.heap.size + 1) (some ⟨w1.heap.size, 0, none⟩) [1, 0, 9] := rb_new w1 5 [1, 0, 9]
  have hs2 : (w1.alloc (.cells #[.int .u8 1, .int .u8 0, .int .u8 9] 5)).heap.size = w1.heap.size + 1 := by simp
  obtain ⟨w2, hw2⟩ : ∃ w2, w2 = w1.alloc (.cells #[.int .u8 1, .int .u8 0, .int .u8 9] 5) := ⟨_, rfl⟩
  rw [← hw2] at hb2 hr2 hs2 ⊢
  clear hw2
  refine (read_calls w2 (w1.heap.size + 1) _ 3 [1, 0, 9] hr2 (by omega) (by decide)).mono ?_
  rintro e w3 ⟨b, A, c, rfl, hm, hbb, hb3⟩
  have HM := Lib.hid hm
  have HB3 : Hid (Below w.heap.size w w3) := hb2.trans (hb3.mono hb2.size)
  have HBb : Hid (w.heap.size ≤ b) := Lib.hid (Nat.le_trans hb2.size hbb)
  clear hb2 hr2 hs2 hm hbb hb3 HB1
  go_wp2_with fail
  refine (put_calls w3 258 2 (by decide) (by decide)).mono ?_
  rintro e w4 ⟨rfl, hw4⟩
  rw [show lbs 258 2 = [2, 1] by decide] at hw4
  have hr4 : RB w4 (w3.heap.size + 1) (some ⟨w3.heap.size, 0, none⟩) [2, 1] := by rw [← hw4]; exact rb_new w3 5 [2, 1]
  have h34 : Below w3.heap.size w3 w4 := by rw [← hw4]; exact (Below.refl _ _).alloc (Nat.le_refl _) _
  have hs4 : w4.heap.size = w3.heap.size + 1 := by rw [← hw4]; simp
  have HB4 : Hid (Below w.heap.size w w4) := HB3.out.trans (h34.mono HB3.out.size)
  have HM4 : Hid (RdM w4 b A c ⟨[1, 0, 9], 0, 0⟩) := HM.out.below h34 HM.out.blk.lt
  have HS4 := Lib.hid hs4
  clear hw4 h34 HM HB3 hs4
  go_wp2_with fail
  have hb5 : Below w.heap.size w (w4.alloc (.cells #[.int .u8 2, .int .u8 1] 5)) := HB4.out.alloc HB4.out.size _
  have h45 : Below w4.heap.size w4 (w4.alloc (.cells #[.int .u8 2, .int .u8 1] 5)) := (Below.refl _ _).alloc (Nat.le_refl _) _
  have hr5 : RB (w4.alloc (.cells #[.int .u8 2, .int .u8 1] 5)) (w4.heap.size + 1) (some ⟨w4.heap.size, 0, none⟩) [2, 1] := rb_new w4 5 [2, 1]
  obtain ⟨w5, hw5⟩ : ∃ w5, w5 = w4.alloc (.cells #[.int .u8 2, .int .u8 1] 5) := ⟨_, rfl⟩
  rw [← hw5] at hb5 hr5 h45 ⊢
  clear hw5
  have hr45 := hr4.below (h45.mono (Nat.le_of_eq HS4.out.symm))
  refine (same_calls w5 _ _ 2 [2, 1] hr45 _ _ 2 [2, 1] hr5).mono ?_
  rintro e w6 ⟨rfl, rfl⟩
  rw [show decide (([2, 1] : List UInt8) = [2, 1]) = true by decide]
  have HB5 := Lib.hid hb5
  have HM5 : Hid (RdM w5 b A c ⟨[1, 0, 9], 0, 0⟩) := HM4.out.below h45 HM4.out.blk.lt
  clear hb5 h45 hr45 hr4 hr5 HS4 HB4 HM4
  go_wp2_with fail
  refine (text_calls w5 [97, 98] (by decide)).mono ?_
  rintro e w6 ⟨A6, c6, rfl, ho6, hb6⟩
  rw [show textB [97, 98] = [2, 97, 98] by decide] at ho6 ⊢
  have HM6 : Hid (RdM w6 b A c ⟨[1, 0, 9], 0, 0⟩) := HM5.out.below hb6 HM5.out.blk.lt
  have HB6 : Hid (Below w.heap.size w w6) := HB5.out.trans (hb6.mono HB5.out.size)
  have hr6 := ho6.rb
  clear HM5 HB5 ho6 hb6
  go_wp2_with fail
  have hb7 : Below w.heap.size w (w6.alloc (.cells #[.int .u8 2, .int .u8 97, .int .u8 98] 5)) := HB6.out.alloc HB6.out.size _
  have h67 : Below w6.heap.size w6 (w6.alloc (.cells #[.int .u8 2, .int .u8 97, .int .u8 98] 5)) := (Below.refl _ _).alloc (Nat.le_refl _) _
  have hr7 : RB (w6.alloc (.cells #[.int .u8 2, .int .u8 97, .int .u8 98] 5)) (w6.heap.size + 1) (some ⟨w6.heap.size, 0, none⟩) [2, 97, 98] := rb_new w6 5 [2, 97, 98]
  obtain ⟨w7, hw7⟩ : ∃ w7, w7 = w6.alloc (.cells #[.int .u8 2, .int .u8 97, .int .u8 98] 5) := ⟨_, rfl⟩
  rw [← hw7] at hb7 hr7 h67 ⊢
  clear hw7
  refine (same_calls w7 _ A6 c6 [2, 97, 98] (hr6.below h67) _ _ 3 [2, 97, 98] hr7).mono ?_
  rintro e w8 ⟨rfl, rfl⟩
  rw [show decide (([2, 97, 98] : List UInt8) = [2, 97, 98]) = true by decide]
  have HB7 := Lib.hid hb7
  have HM7 : Hid (RdM w7 b A c ⟨[1, 0, 9], 0, 0⟩) := HM6.out.below h67 HM6.out.blk.lt
  skip
  clear hb7 h67 hr7 hr6 HB6 HM6
  go_wp2_with fail
  refine (num_calls w7 b A c ⟨[1, 0, 9], 0, 0⟩ HM7.out (by decide) 2).mono ?_
  rintro e w8 ⟨rfl, hm8, hg8⟩
  rw [show (Rdr.num ⟨[1, 0, 9], 0, 0⟩ 2) = (⟨[1, 0, 9], 2, 0⟩, 1) from rfl] at hm8 ⊢
  have HM8 := Lib.hid hm8
  have HB8 : Hid (Below w.heap.size w w8) := HB7.out.grown hg8 HB7.out.size (fun k e => by injection e with e; subst e; exact HBb.out)
  clear hm8 hg8 HM7 HB7
  go_wp2_with fail
  refine (end_calls w8 b A c ⟨[1, 0, 9], 2, 0⟩ HM8.out (by decide)).mono ?_
  rintro e w9 ⟨⟨v, rfl, hv⟩, hb9⟩
  rw [show (Rdr.fin ⟨[1, 0, 9], 2, 0⟩) = some (7, 2) by decide] at hv
  obtain ⟨g, rfl, hbox⟩ := hv
  have HB9 : Hid (Below w.heap.size w w9) := HB8.out.trans (hb9.mono HB8.out.size)
  have HX := Lib.hid hbox
  have HD9 : Hid (Hdl w9) := HD.out.below HB9.out HD.out.lt
  clear hbox hb9 HM8 HB8
  go_wp2_with fail
  refine (code_hit w9 g 7 2 HD9.out HX.out).mono ?_
  rintro e w10 ⟨rfl, hb10⟩
  have HB10 : Hid (Below w.heap.size w w10) := HB9.out.trans (hb10.mono HB9.out.size)
  clear hb10 HX HD9 HB9
  go_wp2
  go_ret
  exact ⟨rfl, HB10.out⟩
end Go.Proofs.YtpbalgnfeabhgaaDoor
