/- The law CrcOwn, walked. -/
import Derived.Test.YtoeebfkdipkgkaaDoorCrcOver
import Derived.Test.YtoeebfkdipkgkaaDoorCrcAwake
import Derived.Test.YtoeebfkdipkgkaaDoorMonoB
namespace Go.Proofs.YtoeebfkdipkgkaaDoor
open Go.RowKit Nac Nac.Crc
theorem open_sealed (l : List UInt8) : openB (sealedB l) = (l, 0) := by
  have hl : (sealedB l).length = l.length + 4 := by simp [sealedB, lbs_length]
  unfold openB
  rw [if_neg (by omega), if_pos (show good (sealedB l) = true from good_seal l)]
  simp [sealedB, lbs_length]
set_option maxHeartbeats 4000000 in
theorem own_calls (w : World) (A : Option Addr) (c : Nat) (l : List UInt8) (ht : Nib w) (hg : 0 < w.heap.size) (h : RB w w.heap.size A l) (h8 : l.length ≤ 140737488351232) :
    Calls Tryd.prog 8 #[.slice A l.length c] w fun e w' => e = .returned (.bool true) ∧ Below w.heap.size w w' := by
  have hsl : (sealedB l).length = l.length + 4 := by simp [sealedB, lbs_length]
  have hos := open_sealed l
  go_enter Tryd.func8, Tryd.ntmps8
  go_wp2_with fail
  refine (seal_calls w _ A c l ht hg h (Nat.le_refl _) h8).mono ?_
  rintro e w1 ⟨As, cs, rfl, hs1, hb1⟩
  obtain ⟨s, hs⟩ : ∃ s, Hid (s = sealedB l) := ⟨_, rfl⟩
  rw [← hs.out] at hs1 hsl hos ⊢
  have HOS := Lib.hid hos; clear hos
  have hs8 : s.length ≤ 140737488351236 := by omega
  have HSL := Lib.hid hsl; clear hsl
  have hg1 : 0 < w1.heap.size := Nat.lt_of_lt_of_le hg hb1.size
  have ht1 := ht.below hg hb1
  go_wp2_with fail
  refine (open_callsW w1 _ As _ cs s rfl ht1 hs1.rb hs1.len (by omega)).mono ?_
  rintro e w2 ⟨Ax, cx, rfl, hx2, hb2⟩
  rw [HOS.out] at hx2 ⊢
  simp only at hx2 ⊢
  go_wp2_with fail
  go_loopw [6] (fun i wr => ∃ k : Nat, ∃ L : List UInt8, k ≤ l.length ∧ i = .int .i64 k ∧ OB wr w1.heap.size Ax cx L ∧ Below w1.heap.size w1 wr ∧ L.length ≤ l.length ∧ l.length ≤ L.length) (fun i _ => l.length - (intOf i).toNat)
  case atStart => exact ⟨0, l, Nat.zero_le _, rfl, hx2, hb2, Nat.le_refl _, Nat.le_refl _⟩
  case round =>
    obtain ⟨k, L, hk, rfl, hx, hbr, hL1, hL2⟩ := hrel
    by_cases hlt : k < l.length
    · obtain ⟨g, rfl, hg0, hg1', cc, cf⟩ := hx.at (k := k) (by omega)
      have HX := Lib.hid hx; clear hx hx2
      go_wp2
      go_roundw
      case rel => exact ⟨k + 1, L.set k (L[k] ^^^ 255), by omega, by go_num, HX.out.set k (L[k] ^^^ 255) (by rw [bv, UInt8.toNat_xor]; congr 1; exact xor8 _ 255 L[k].toNat_lt (by decide)), hbr.setCell hg0 _, by simpa using hL1, by simpa using hL2⟩
      case measure => simp [intOf]; omega
    · have hb3 := hb1.trans (hbr.mono hb1.size)
      have ht3 := ht1.below hg1 hbr
      have hs3 := hs1.below hbr (Nat.le_refl _)
      have h3 := h.below hb3
      clear hx hx2
      go_wp2_with fail
      refine (open_callsW wr _ As _ cs s rfl ht3 hs3.rb hs3.len (by omega)).mono ?_
      rintro e w4 ⟨Ay, cy, rfl, hy4, hb4⟩
      rw [HOS.out] at hy4 ⊢
      simp only at hy4 ⊢
      have hb5 := hb3.trans (hb4.mono hb3.size)
      have ht5 := ht3.below (Nat.lt_of_lt_of_le hg hb3.size) hb4
      have hs5 := hs3.below hb4 (Nat.le_refl _)
      have h5 := h.below hb5
      go_wp2_with fail
      refine (seal_calls w4 _ A c l ht5 (Nat.lt_of_lt_of_le hg hb5.size) (h5.mono hb5.size) (Nat.le_refl _) h8).mono ?_
      rintro e w6 ⟨At, ct, rfl, ht6, hb6⟩
      rw [← hs.out] at ht6 ⊢
      go_wp2_with fail
      go_loopw [10] (fun i wq => ∃ k : Nat, ∃ L : List UInt8, k ≤ s.length ∧ i = .int .i64 k ∧ OB wq w4.heap.size At ct L ∧ Below w4.heap.size w4 wq ∧ L.length ≤ s.length ∧ s.length ≤ L.length) (fun i _ => s.length - (intOf i).toNat)
      case atStart => exact ⟨0, s, Nat.zero_le _, rfl, ht6, hb6, Nat.le_refl _, Nat.le_refl _⟩
      case round =>
        obtain ⟨j, L', hj, rfl, hx', hbq, hL1', hL2'⟩ := hrel
        by_cases hlt2 : j < s.length
        · obtain ⟨g, rfl, hg0, hg1', cc, cf⟩ := hx'.at (k := j) (by omega)
          have HX := Lib.hid hx'; clear hx' ht6
          go_wp2
          go_roundw
          case rel => exact ⟨j + 1, L'.set j 0, by omega, by go_num, HX.out.set j 0 rfl, hbq.setCell hg0 _, by simpa using hL1', by simpa using hL2'⟩
          case measure => simp [intOf]; omega
        · have hb7 := hb5.trans (hbq.mono hb5.size)
          have d1 : RB wr.drew wr.drew.heap.size Ay l := (hy4.rb.below hbq).mono hbq.size
          have d2 : RB wr.drew wr.drew.heap.size A l := (h.below hb7).mono hb7.size
          have d3 : RB wr.drew wr.drew.heap.size As s := (hs5.rb.below hbq).mono hbq.size
          have d4 : Nib wr.drew := ht.below hg hb7.drew
          have d5 : 0 < wr.drew.heap.size := Nat.lt_of_lt_of_le hg hb7.size
          clear hx' ht6 hy4 hs5 h5 ht5 hs3 h3 ht3 hs1
          go_wp2_with fail
          have F1 : ∀ w', Below wr.drew.heap.size wr.drew w' → RBy l (.slice Ay l.length cy) w' := fun w' hb => rby_mono _ _ wr.drew w' ⟨Ay, cy, rfl, d1⟩ hb
          have F2 : ∀ w', Below wr.drew.heap.size wr.drew w' → RBy l (.slice A l.length c) w' := fun w' hb => rby_mono _ _ wr.drew w' ⟨A, c, rfl, d2⟩ hb
          have F3 : ∀ w', Below wr.drew.heap.size wr.drew w' → RBy s (.slice As s.length cs) w' := fun w' hb => rby_mono _ _ wr.drew w' ⟨As, cs, rfl, d3⟩ hb
          have G1 : ∀ v w', Below wr.drew.heap.size wr.drew w' → RBy l v w' → Calls Tryd.prog 16 #[v] w' fun e w'' => ∃ v, e = .returned v ∧ RBy s v w'' ∧ Below w'.heap.size w' w'' := by
            rintro v w' hb ⟨A', c', rfl, h2⟩
            refine (seal_calls w' _ A' c' l (d4.below d5 hb) (Nat.lt_of_lt_of_le d5 hb.size) h2 (Nat.le_refl _) h8).mono ?_
            rintro e w'' ⟨A4, c4, rfl, hown4, hb4⟩
            rw [← hs.out] at hown4 ⊢
            exact ⟨_, rfl, ⟨A4, c4, rfl, hown4.rb⟩, hb4⟩
          let D : Nat → VD := fun i => ([.is (.bool true), .is (.bool true), byt l, .is (.string (strB l)), byt l, .is (.string (strB l)), .is (.bool true), .is (.bool true), .is (.bool true), .is (.int .i64 0), .is (.bool true), .is (.bool true), .is (.bool true), byt l, byt s, .is (.string (strB s)), byt s, .is (.string (strB s)), .is (.bool true), .is (.bool true), .is (.bool true)] : List VD).getD i (.is undef)
          refine region_mono D (by kernel_rfl) (by kernel_rfl) (by kernel_rfl) (fun i hi => ?_) ?_
          · match i, hi with
            | 0, _ => exact mstep_call0 rfl (mwant_none rfl) _ _ rfl (enters_of Tryd.func9 (by kernel_rfl) rfl) (fun w hb => (awake_calls w (d4.below d5 hb) (Nat.lt_of_lt_of_le d5 hb.size)).mono (fun e w' h => ⟨_, h.1, rfl, h.2⟩))
            | 1, _ => exact mstep_copy rfl (mwant_none rfl) 48 (Or.inl rfl) 0 (by kernel_rfl) rfl rfl
            | 2, _ => exact mstep_first rfl (mwant 1 true 49 rfl (by kernel_rfl) rfl rfl (by kernel_rfl)) 7 (Or.inl rfl) (by kernel_rfl) (fun w hb => F1 w hb)
            | 3, _ => exact mstep_conv rfl (mwant 1 true 49 rfl (by kernel_rfl) rfl rfl (by kernel_rfl)) 50 rfl 2 (by kernel_rfl) rfl _ rfl rfl
            | 4, _ => exact mstep_first rfl (mwant 1 true 49 rfl (by kernel_rfl) rfl rfl (by kernel_rfl)) 0 (Or.inl rfl) (by kernel_rfl) (fun w hb => F2 w hb)
            | 5, _ => exact mstep_conv rfl (mwant 1 true 49 rfl (by kernel_rfl) rfl rfl (by kernel_rfl)) 52 rfl 4 (by kernel_rfl) rfl _ rfl rfl
            | 6, _ => exact mstep_bin rfl (mwant 1 true 49 rfl (by kernel_rfl) rfl rfl (by kernel_rfl)) _ _ _ 51 53 rfl 3 5 (by kernel_rfl) (by kernel_rfl) rfl rfl _ _ _ rfl rfl rfl (fun w => by go_simp)
            | 7, _ => exact mstep_pick rfl (mwant_none rfl) 49 54 _ rfl 1 6 (by kernel_rfl) (by kernel_rfl) rfl rfl rfl rfl
            | 8, _ => exact mstep_copy rfl (mwant_none rfl) 55 (Or.inl rfl) 7 (by kernel_rfl) rfl rfl
            | 9, _ => exact mstep_first rfl (mwant 8 true 56 rfl (by kernel_rfl) rfl rfl (by kernel_rfl)) 8 (Or.inl rfl) (by kernel_rfl) (fun w hb => rfl)
            | 10, _ => exact mstep_binc rfl (mwant 8 true 56 rfl (by kernel_rfl) rfl rfl (by kernel_rfl)) _ _ _ 57 _ rfl 9 (by kernel_rfl) rfl _ _ rfl rfl (fun w => by go_simp)
            | 11, _ => exact mstep_pick rfl (mwant_none rfl) 56 58 _ rfl 8 10 (by kernel_rfl) (by kernel_rfl) rfl rfl rfl rfl
            | 12, _ => exact mstep_copy rfl (mwant_none rfl) 59 (Or.inl rfl) 11 (by kernel_rfl) rfl rfl
            | 13, _ => exact mstep_first rfl (mwant 12 true 60 rfl (by kernel_rfl) rfl rfl (by kernel_rfl)) 0 (Or.inl rfl) (by kernel_rfl) (fun w hb => F2 w hb)
            | 14, _ => exact mstep_call1 rfl (mwant 12 true 60 rfl (by kernel_rfl) rfl rfl (by kernel_rfl)) _ 61 _ rfl (enters_of Tryd.func16 (by kernel_rfl) rfl) 13 (by kernel_rfl) rfl (G1)
            | 15, _ => exact mstep_conv rfl (mwant 12 true 60 rfl (by kernel_rfl) rfl rfl (by kernel_rfl)) 62 rfl 14 (by kernel_rfl) rfl _ rfl rfl
            | 16, _ => exact mstep_first rfl (mwant 12 true 60 rfl (by kernel_rfl) rfl rfl (by kernel_rfl)) 3 (Or.inl rfl) (by kernel_rfl) (fun w hb => F3 w hb)
            | 17, _ => exact mstep_conv rfl (mwant 12 true 60 rfl (by kernel_rfl) rfl rfl (by kernel_rfl)) 64 rfl 16 (by kernel_rfl) rfl _ rfl rfl
            | 18, _ => exact mstep_bin rfl (mwant 12 true 60 rfl (by kernel_rfl) rfl rfl (by kernel_rfl)) _ _ _ 63 65 rfl 15 17 (by kernel_rfl) (by kernel_rfl) rfl rfl _ _ _ rfl rfl rfl (fun w => by go_simp)
            | 19, _ => exact mstep_pick rfl (mwant_none rfl) 60 66 _ rfl 12 18 (by kernel_rfl) (by kernel_rfl) rfl rfl rfl rfl
            | 20, _ => exact mstep_copy rfl (mwant_none rfl) 67 (Or.inr rfl) 19 (by kernel_rfl) rfl rfl
            | n + 21, h => exact absurd h (by show ¬ (n + 21 < 21); omega)
          · intro a w' hb hde _ hok _
            have hv : a.tmps.getD 2 undef = .bool true := hok 20 2 rfl
            refine (by assumption : ∀ (a : Act) (w : World), Code.wp _ Code.ret _ a w → _) _ _ (wp_ret (bodyPost_ret (results_tmp rfl _ _ _) hde ?_))
            rw [hv]
            exact ⟨rfl, hb7.trans (hb.mono hb7.size)⟩
end Go.Proofs.YtoeebfkdipkgkaaDoor
