/- octet: the reference's Text; OctetPuts. -/
import Derived.Test.YtpbalgnfeabhgaaDoorOctUnlike
import Derived.Test.YtpbalgnfeabhgaaDoorRefPut
import Derived.Lib.ConvBytes
namespace Go.Proofs.YtpbalgnfeabhgaaDoor
open Go.RowKit Nac Nac.Crc
/-- bytes that the call has made, or none -/
def RetRB (w : World) (l : List UInt8) (e : Ending) (w' : World) : Prop := ∃ A c, e = .returned (.slice A l.length c) ∧ RB w' w'.heap.size A l ∧ Below w.heap.size w w'
theorem RetOB.rb {w w' : World} {l : List UInt8} {e : Ending} (h : RetOB w l e w') : RetRB w l e w' := by
  obtain ⟨A, c, h1, h2, h3⟩ := h
  exact ⟨A, c, h1, h2.rb, h3⟩
theorem retRB_nil (w : World) : RetRB w [] (.returned (.slice none 0 0)) w := ⟨none, 0, rfl, fun h => absurd rfl h, Below.refl _ _⟩
theorem below_bytesWorld (w : World) (t : TypeId) (s : ByteArray) : Below w.heap.size w (Lib.bytesWorld w t s) :=
  ⟨by simp [Lib.bytesWorld, World.freeze, World.alloc, World.drew, -World.alloc_eq, -World.drew_eq], by simp [Lib.bytesWorld, World.freeze, World.alloc, World.drew, -World.alloc_eq, -World.drew_eq], by simp [Lib.bytesWorld, World.freeze, World.alloc, World.drew, -World.alloc_eq, -World.drew_eq], by rw [Lib.bytesWorld_size]; omega, fun k hk => Lib.bytesWorld_at_old w t s k hk⟩
theorem rb_bytesWorld (w : World) (t : TypeId) (l : List UInt8) : RB (Lib.bytesWorld w t (strB l)) (Lib.bytesWorld w t (strB l)).heap.size (some ⟨w.heap.size, 0, none⟩) l := fun _ => by
  refine ⟨w.heap.size, 0, rfl, by rw [Lib.bytesWorld_size]; omega, fun j hj => ?_⟩
  have := Lib.bytesWorld_cell w t (strB l) j (by show j < (strB l).size; exact hj)
  rw [Nat.zero_add, this]
  simp [strB, hj]
def putB (n : Nat) (size : Int) : List UInt8 := if 1 ≤ size ∧ size ≤ 8 then lbs n size.toNat else []
theorem put_any (w : World) (n : Nat) (size : Int) : Calls Tryd.prog 10 #[.int .u64 n, .int .i64 size] w (RetRB w (putB n size)) := by
  by_cases h : 1 ≤ size ∧ size ≤ 8
  · obtain ⟨k, rfl⟩ : ∃ k : Nat, size = k := ⟨size.toNat, by omega⟩
    have e : putB n k = lbs n k := if_pos h
    rw [e]
    refine (put_rets w n k (by omega) (by omega)).mono ?_
    rintro e w' ⟨A, rfl, hr, hb⟩
    exact ⟨A, k, by rw [lbs_length], hr, hb⟩
  · have e : putB n size = [] := if_neg h
    rw [e]
    refine (put_bad w n size (by omega)).mono ?_
    rintro e w' ⟨rfl, rfl⟩
    exact retRB_nil w
theorem refput_any (w : World) (n : Nat) (size : Int) (hn : n ≤ 18446744073709551615) : Calls Tryd.prog 11 #[.int .u64 n, .int .i64 size] w (RetRB w (putB n size)) := by
  by_cases h8 : size ≤ 8
  · have e : putB n size = lbs n size.toNat := by
      unfold putB
      split
      · rfl
      · rw [show size.toNat = 0 by omega]; rfl
    rw [e]
    exact (refput_calls w n size hn h8).mono fun e w' h => h.rb
  · have e : putB n size = [] := if_neg (by omega)
    have HE := Lib.hid e
    clear e
    have h9 : 8 < size := by omega
    go_enter Tryd.func11, Tryd.ntmps11
    go_wp2
    go_ret
    rw [HE.out]
    exact retRB_nil w
set_option maxHeartbeats 1000000 in
set_option maxRecDepth 100000 in
theorem reftext_calls (w : World) (l : List UInt8) :
    Calls Tryd.prog 13 #[.string (strB l)] w (RetRB w (textB l)) := by
  have hsz : (strB l).size = l.length := rfl
  by_cases hl : 255 < l.length
  · have ht : textB l = [] := if_pos hl
    have HT := Lib.hid ht
    clear ht
    go_enter Tryd.func13, Tryd.ntmps13
    go_wp2
    go_ret
    rw [HT.out]
    exact retRB_nil w
  · have ht : textB l = UInt8.ofNat l.length :: l := if_neg hl
    have HT := Lib.hid ht
    have hl2 : l.length ≤ 255 := by omega
    have k1 : IntKind.u8.wrap (l.length : Int) = (l.length : Int) := by rw [IntKind.wrap_u8]; omega
    have hr := rb_new w 5 [UInt8.ofNat l.length]
    rw [List.map_cons, List.map_nil, byte_small _ hl2] at hr
    have hb1 : Below w.heap.size w (w.alloc (.cells #[.int .u8 l.length] 5)) := (Below.refl w.heap.size w).alloc (Nat.le_refl _) _
    obtain ⟨w1, hw1⟩ : ∃ w1, w1 = w.alloc (.cells #[.int .u8 l.length] 5) := ⟨_, rfl⟩
    rw [← hw1] at hr hb1
    have rc := run_conv w1 hr 1 1 rfl
    have ea : strB [UInt8.ofNat l.length] ++ strB l = strB (textB l) := by rw [ht]; exact ByteArray.mk_append_mk _ _
    have hs1 : (strB [UInt8.ofNat l.length]).size ≤ 1 := Nat.le_refl 1
    obtain ⟨s1, hs1e⟩ : ∃ s, s = strB [UInt8.ofNat l.length] := ⟨_, rfl⟩
    obtain ⟨s2, hs2e⟩ : ∃ s, s = strB l := ⟨_, rfl⟩
    obtain ⟨s3, hs3e⟩ : ∃ s, s = strB (textB l) := ⟨_, rfl⟩
    have hlen : ((textB l).length = s3.size) := by rw [hs3e]; rfl
    have rb := Lib.run_convert_string_bytes (P := Tryd.prog) w1 9 25 5 (strB (textB l)) Tryd.underlying9 Tryd.underlying25 Tryd.underlying5
    have hrb := rb_bytesWorld w1 5 (textB l)
    have hz : w1.heap.size = w.heap.size + 1 := by rw [hw1]; simp
    rw [hz] at hrb
    have hbb : Below w.heap.size w (Lib.bytesWorld w1 5 (strB (textB l))) := hb1.trans ((below_bytesWorld w1 5 (strB (textB l))).mono hb1.size)
    rw [← hs1e] at rc hs1 ea
    rw [← hs2e] at ea hsz ⊢
    rw [← hs3e] at ea rb hrb hbb
    obtain ⟨w2, hw2⟩ : ∃ w2, w2 = Lib.bytesWorld w1 5 s3 := ⟨_, rfl⟩
    rw [← hw2] at rb hrb hbb
    obtain ⟨cx, hcx⟩ : ∃ cx, cx = grownCap w1 s3.size 0 5 := ⟨_, rfl⟩
    rw [← hcx] at rb
    have radd := run_string_add_sum (P := Tryd.prog) w1 s1 s2 (by omega)
    rw [ea] at radd
    have HRB := Lib.hid hrb
    have HBB := Lib.hid hbb
    have HL := Lib.hid hlen
    clear hrb hbb hr ht hl hz ea hs1e hs2e hs3e hw2 hcx hb1 hlen
    subst hw1
    go_enter Tryd.func13, Tryd.ntmps13
    go_wp2
    go_ret
    exact ⟨_, cx, by rw [HL.out]; rfl, HRB.out, HBB.out⟩
theorem text_any (w : World) (l : List UInt8) : Calls Tryd.prog 12 #[.string (strB l)] w (RetRB w (textB l)) := by
  by_cases hl : 255 < l.length
  · have hsz : (strB l).size = l.length := rfl
    have ht : textB l = [] := if_pos hl
    have HT := Lib.hid ht
    clear ht
    go_enter Tryd.func12, Tryd.ntmps12
    go_wp2
    go_ret
    rw [HT.out]
    exact retRB_nil w
  · exact (text_calls w l (by omega)).mono fun e w' h => h.rb
set_option maxHeartbeats 2000000 in
theorem puts_calls (w : World) (hd : Hdl w) (n : Nat) (hn : n ≤ 18446744073709551615) (size : Int) (l : List UInt8) :
    Calls Tryd.prog 3 #[.int .u64 n, .int .i64 size, .string (strB l)] w fun e w' => e = .returned (.bool true) ∧ Below w.heap.size w w' := by
  have HD := Lib.hid hd
  clear hd
  go_enter Tryd.func3, Tryd.ntmps3
  go_wp2_with fail
  refine (awake_calls w HD.out).mono ?_
  rintro e w1 ⟨rfl, hb1⟩
  have HB1 := Lib.hid hb1
  clear hb1
  go_wp2_with fail
  refine (put_any w1 n size).mono ?_
  rintro e w2 ⟨A2, c2, rfl, hr2, hb2⟩
  have HR2 := Lib.hid hr2
  have HB2 : Hid (Below w.heap.size w w2) := HB1.out.trans (hb2.mono HB1.out.size)
  clear hr2 hb2 HB1
  go_wp2_with fail
  refine (refput_any w2 n size hn).mono ?_
  rintro e w3 ⟨A3, c3, rfl, hr3, hb3⟩
  have HR3 := Lib.hid hr3
  have HR23 := Lib.hid (HR2.out.below hb3)
  have HB3 : Hid (Below w.heap.size w w3) := HB2.out.trans (hb3.mono HB2.out.size)
  clear hr3 hb3 HB2 HR2
  go_wp2_with fail
  refine (same_calls w3 _ A2 c2 (putB n size) HR23.out _ A3 c3 (putB n size) HR3.out).mono ?_
  rintro e w4 ⟨rfl, rfl⟩
  rw [decide_eq_true rfl]
  clear HR3 HR23
  go_wp2_with fail
  refine (text_any w3 l).mono ?_
  rintro e w4 ⟨A4, c4, rfl, hr4, hb4⟩
  have HR4 := Lib.hid hr4
  have HB4 : Hid (Below w.heap.size w w4) := HB3.out.trans (hb4.mono HB3.out.size)
  clear hr4 hb4 HB3
  go_wp2_with fail
  refine (reftext_calls w4 l).mono ?_
  rintro e w5 ⟨A5, c5, rfl, hr5, hb5⟩
  have HR5 := Lib.hid hr5
  have HR45 := Lib.hid (HR4.out.below hb5)
  have HB5 : Hid (Below w.heap.size w w5) := HB4.out.trans (hb5.mono HB4.out.size)
  clear hr5 hb5 HB4 HR4
  go_wp2_with fail
  refine (same_calls w5 _ A4 c4 (textB l) HR45.out _ A5 c5 (textB l) HR5.out).mono ?_
  rintro e w6 ⟨rfl, rfl⟩
  rw [decide_eq_true rfl]
  go_wp2
  go_ret
  exact ⟨rfl, HB5.out⟩
end Go.Proofs.YtpbalgnfeabhgaaDoor
