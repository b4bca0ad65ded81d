/- The law CrcOpens, walked. -/
import Derived.Test.YtoeebfkdipkgkaaDoorCrcAwake
import Derived.Test.YtoeebfkdipkgkaaDoorRefOpen
import Derived.Test.YtoeebfkdipkgkaaDoorMonoB
namespace Go.Proofs.YtoeebfkdipkgkaaDoor
open Go.RowKit Nac Nac.Crc
set_option maxHeartbeats 4000000 in
theorem opens_calls (w : World) (A : Option Addr) (c : Nat) (l : List UInt8) (ht : Nib w) (hg : 0 < w.heap.size) (h : RB w w.heap.size A l) (hc : l.length ≤ c) (h8 : l.length ≤ 140737488351232) :
    Calls Tryd.prog 4 #[.slice A l.length c] w fun e w' => e = .returned (.bool true) ∧ Below w.heap.size w w' := by
  go_enter Tryd.func4, Tryd.ntmps4
  go_wp2_with fail
  refine (open_calls w _ A _ c l rfl ht h hc h8).mono ?_
  rintro e w1 ⟨A1, c1, rfl, hown1, hb1⟩
  have hx1 := h.below hb1
  obtain ⟨m, hm⟩ : ∃ m, Hid (m = (openB l).1) := ⟨_, rfl⟩
  obtain ⟨z, hz⟩ : ∃ z, Hid (z = (openB l).2) := ⟨_, rfl⟩
  rw [← hm.out] at hown1 ⊢
  rw [← hz.out]
  go_wp2_with fail
  refine (refopen_calls w1 _ A _ c l rfl (hx1.mono hb1.size) (Nat.le_refl _) hc h8).mono ?_
  rintro e w2 ⟨A2, c2, rfl, hr2, hb2⟩
  rw [← hm.out] at hr2 ⊢
  rw [← hz.out]
  have hr1 := hown1.rb.below hb2
  have hb12 := hb1.trans (hb2.mono hb1.size)
  have hx2 := h.below hb12
  have ht2 := ht.below hg hb12
  have hg2 : 0 < w2.heap.size := by have := hb12.size; omega
  obtain ⟨s, hs⟩ : ∃ s, Hid (s = sealedB l) := ⟨_, rfl⟩
  have d1 : RB w2.drew w2.drew.heap.size A1 m := hr1.mono hb2.size
  have d2 : RB w2.drew w2.drew.heap.size A2 m := hr2
  have d3 : RB w2.drew w2.drew.heap.size A l := hx2.mono hb12.size
  have d4 : Nib w2.drew := ht2
  have d5 : 0 < w2.drew.heap.size := hg2
  clear hown1 hr1 hr2 hx2 ht2 hg2
  go_wp2_with fail
  have F1 : ∀ w', Below w2.drew.heap.size w2.drew w' → RBy m (.slice A1 m.length c1) w' := fun w' hb => rby_mono _ _ w2.drew w' ⟨A1, c1, rfl, d1⟩ hb
  have F2 : ∀ w', Below w2.drew.heap.size w2.drew w' → RBy m (.slice A2 m.length c2) w' := fun w' hb => rby_mono _ _ w2.drew w' ⟨A2, c2, rfl, d2⟩ hb
  have F3 : ∀ w', Below w2.drew.heap.size w2.drew w' → RBy l (.slice A l.length c) w' := fun w' hb => rby_mono _ _ w2.drew w' ⟨A, c, rfl, d3⟩ hb
  have G1 : ∀ v w', Below w2.drew.heap.size w2.drew w' → RBy l v w' → Calls Tryd.prog 16 #[v] w' fun e w'' => ∃ v, e = .returned v ∧ RBy s v w'' ∧ Below w'.heap.size w' w'' := by
    rintro v w' hb ⟨A', c', rfl, h2⟩
    refine (seal_calls w' _ A' c' l (d4.below d5 hb) (Nat.lt_of_lt_of_le d5 hb.size) h2 (Nat.le_refl _) h8).mono ?_
    rintro e w'' ⟨A4, c4, rfl, hown4, hb4⟩
    rw [← hs.out] at hown4 ⊢
    exact ⟨_, rfl, ⟨A4, c4, rfl, hown4.rb⟩, hb4⟩
  have G2 : ∀ v w', RBy l v w' → Calls Tryd.prog 17 #[v] w' fun e w'' => ∃ v, e = .returned v ∧ RBy s v w'' ∧ Below w'.heap.size w' w'' := by
    rintro v w' ⟨A', c', rfl, h2⟩
    refine (refseal_calls w' _ A' _ c' l rfl h2 (Nat.le_refl _) h8).mono ?_
    rintro e w'' ⟨A4, c4, rfl, hown4, hb4⟩
    rw [← hs.out] at hown4 ⊢
    exact ⟨_, rfl, ⟨A4, c4, rfl, hown4.rb⟩, hb4⟩
  let D : Nat → VD := fun i => ([.is (.bool true), .is (.bool true), byt m, .is (.string (strB m)), byt m, .is (.string (strB m)), .is (.bool true), .is (.bool true), .is (.bool true), .is (.int .i64 z), .is (.int .i64 z), .is (.bool true), .is (.bool true), .is (.bool true), byt l, byt s, .is (.string (strB s)), byt l, byt s, .is (.string (strB s)), .is (.bool true), .is (.bool true), .is (.bool true)] : List VD).getD i (.is undef)
  refine region_mono D (by kernel_rfl) (by kernel_rfl) (by kernel_rfl) (fun i hi => ?_) ?_
  · match i, hi with
    | 0, _ => exact mstep_call0 rfl (mwant_none rfl) _ _ rfl (enters_of Tryd.func9 (by kernel_rfl) rfl) (fun w hb => (awake_calls w (d4.below d5 hb) (Nat.lt_of_lt_of_le d5 hb.size)).mono (fun e w' h => ⟨_, h.1, rfl, h.2⟩))
    | 1, _ => exact mstep_copy rfl (mwant_none rfl) 17 (Or.inl rfl) 0 (by kernel_rfl) rfl rfl
    | 2, _ => exact mstep_first rfl (mwant 1 true 18 rfl (by kernel_rfl) rfl rfl (by kernel_rfl)) 3 (Or.inl rfl) (by kernel_rfl) (fun w hb => F1 w hb)
    | 3, _ => exact mstep_conv rfl (mwant 1 true 18 rfl (by kernel_rfl) rfl rfl (by kernel_rfl)) 19 rfl 2 (by kernel_rfl) rfl _ rfl rfl
    | 4, _ => exact mstep_first rfl (mwant 1 true 18 rfl (by kernel_rfl) rfl rfl (by kernel_rfl)) 5 (Or.inl rfl) (by kernel_rfl) (fun w hb => F2 w hb)
    | 5, _ => exact mstep_conv rfl (mwant 1 true 18 rfl (by kernel_rfl) rfl rfl (by kernel_rfl)) 21 rfl 4 (by kernel_rfl) rfl _ rfl rfl
    | 6, _ => exact mstep_bin rfl (mwant 1 true 18 rfl (by kernel_rfl) rfl rfl (by kernel_rfl)) _ _ _ 20 22 rfl 3 5 (by kernel_rfl) (by kernel_rfl) rfl rfl _ _ _ rfl rfl rfl (fun w => by go_simp)
    | 7, _ => exact mstep_pick rfl (mwant_none rfl) 18 23 _ rfl 1 6 (by kernel_rfl) (by kernel_rfl) rfl rfl rfl rfl
    | 8, _ => exact mstep_copy rfl (mwant_none rfl) 24 (Or.inl rfl) 7 (by kernel_rfl) rfl rfl
    | 9, _ => exact mstep_first rfl (mwant 8 true 25 rfl (by kernel_rfl) rfl rfl (by kernel_rfl)) 4 (Or.inl rfl) (by kernel_rfl) (fun w hb => rfl)
    | 10, _ => exact mstep_first rfl (mwant 8 true 25 rfl (by kernel_rfl) rfl rfl (by kernel_rfl)) 6 (Or.inl rfl) (by kernel_rfl) (fun w hb => rfl)
    | 11, _ => exact mstep_bin rfl (mwant 8 true 25 rfl (by kernel_rfl) rfl rfl (by kernel_rfl)) _ _ _ 26 27 rfl 9 10 (by kernel_rfl) (by kernel_rfl) rfl rfl _ _ _ rfl rfl rfl (fun w => by go_simp)
    | 12, _ => exact mstep_pick rfl (mwant_none rfl) 25 28 _ rfl 8 11 (by kernel_rfl) (by kernel_rfl) rfl rfl rfl rfl
    | 13, _ => exact mstep_copy rfl (mwant_none rfl) 29 (Or.inl rfl) 12 (by kernel_rfl) rfl rfl
    | 14, _ => exact mstep_first rfl (mwant 13 true 30 rfl (by kernel_rfl) rfl rfl (by kernel_rfl)) 0 (Or.inl rfl) (by kernel_rfl) (fun w hb => F3 w hb)
    | 15, _ => exact mstep_call1 rfl (mwant 13 true 30 rfl (by kernel_rfl) rfl rfl (by kernel_rfl)) _ 31 _ rfl (enters_of Tryd.func16 (by kernel_rfl) rfl) 14 (by kernel_rfl) rfl (G1)
    | 16, _ => exact mstep_conv rfl (mwant 13 true 30 rfl (by kernel_rfl) rfl rfl (by kernel_rfl)) 32 rfl 15 (by kernel_rfl) rfl _ rfl rfl
    | 17, _ => exact mstep_first rfl (mwant 13 true 30 rfl (by kernel_rfl) rfl rfl (by kernel_rfl)) 0 (Or.inl rfl) (by kernel_rfl) (fun w hb => F3 w hb)
    | 18, _ => exact mstep_call1 rfl (mwant 13 true 30 rfl (by kernel_rfl) rfl rfl (by kernel_rfl)) _ 34 _ rfl (enters_of Tryd.func17 (by kernel_rfl) rfl) 17 (by kernel_rfl) rfl (fun v w _ h => G2 v w h)
    | 19, _ => exact mstep_conv rfl (mwant 13 true 30 rfl (by kernel_rfl) rfl rfl (by kernel_rfl)) 35 rfl 18 (by kernel_rfl) rfl _ rfl rfl
    | 20, _ => exact mstep_bin rfl (mwant 13 true 30 rfl (by kernel_rfl) rfl rfl (by kernel_rfl)) _ _ _ 33 36 rfl 16 19 (by kernel_rfl) (by kernel_rfl) rfl rfl _ _ _ rfl rfl rfl (fun w => by go_simp)
    | 21, _ => exact mstep_pick rfl (mwant_none rfl) 30 37 _ rfl 13 20 (by kernel_rfl) (by kernel_rfl) rfl rfl rfl rfl
    | 22, _ => exact mstep_copy rfl (mwant_none rfl) 38 (Or.inr rfl) 21 (by kernel_rfl) rfl rfl
    | n + 23, h => exact absurd h (by show ¬ (n + 23 < 23); omega)
  · intro a w' hb hde _ hok _
    have hv : a.tmps.getD 2 undef = .bool true := hok 22 2 rfl
    refine (by assumption : ∀ (a : Act) (w : World), Code.wp _ Code.ret _ a w → _) _ _ (wp_ret (bodyPost_ret (results_tmp rfl _ _ _) hde ?_))
    rw [hv]
    exact ⟨rfl, hb12.trans (hb.mono hb12.size)⟩
end Go.Proofs.YtoeebfkdipkgkaaDoor
