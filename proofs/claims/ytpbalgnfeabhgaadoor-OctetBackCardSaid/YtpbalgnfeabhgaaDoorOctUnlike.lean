/- OctetUnlike. -/
import Derived.Test.YtpbalgnfeabhgaaDoorOctGets
import Derived.Test.YtpbalgnfeabhgaaDoorMonoV
namespace Go.Proofs.YtpbalgnfeabhgaaDoor
open Go.RowKit Nac Nac.Crc
theorem put_bad (w : World) (n : Nat) (size : Int) (h : size < 1 ∨ 8 < size) :
    Calls Tryd.prog 10 #[.int .u64 n, .int .i64 size] w fun e w' => e = .returned (.slice none 0 0) ∧ w = w' := by
  have h' : size < 1 ∨ (1 ≤ size ∧ 8 < size) := by omega
  clear h
  rcases h' with h | ⟨h, h2⟩
  all_goals
    go_enter Tryd.func10, Tryd.ntmps10
    go_wp2
    go_ret
    exact ⟨rfl, rfl⟩
/-- a new row of the call's own -/
theorem put_rets (w : World) (n size : Nat) (h1 : 1 ≤ size) (h8 : size ≤ 8) :
    Calls Tryd.prog 10 #[.int .u64 n, .int .i64 size] w fun e w' => ∃ A, e = .returned (.slice A size size) ∧ RB w' w'.heap.size A (lbs n size) ∧ Below w.heap.size w w' := by
  refine (put_calls w n size h1 h8).mono ?_
  rintro e w' ⟨rfl, rfl⟩
  refine ⟨_, rfl, ?_, (Below.refl _ _).alloc (Nat.le_refl _) _⟩
  have := rb_new w 5 (lbs n size)
  rw [show (w.alloc (.cells ((lbs n size).map bv).toArray 5)).heap.size = w.heap.size + 1 by simp]
  exact this
theorem same_calls_n (w : World) (B : Nat) (A : Option Addr) (n c : Nat) (l : List UInt8) (hn : n = l.length) (h : RB w B A l) (B' : Nat) (A' : Option Addr) (n' c' : Nat) (m : List UInt8) (hn' : n' = m.length) (h' : RB w B' A' m) :
    Calls Tryd.prog 9 #[.slice A n c, .slice A' n' c'] w fun e w' => e = .returned (.bool (decide (l = m))) ∧ w = w' := by
  subst hn hn'; exact same_calls w B A c l h B' A' c' m h'
theorem pow256_le7 (k : Nat) (h : k ≤ 7) : 256 ^ k ≤ 72057594037927936 := by
  have h2 : 256 ^ k ≤ 256 ^ 7 := Nat.pow_le_pow_right (by decide) h
  have h3 : (256 : Nat) ^ 7 = 72057594037927936 := by decide
  omega
theorem shl_eq (k : Nat) (h : k ≤ 7) : IntKind.u64.wrap ((2 : Int) ^ (8 * k)) = ((256 ^ k : Nat) : Int) := by
  have e : (2 : Int) ^ (8 * k) = ((256 ^ k : Nat) : Int) := by rw [Int.pow_mul]; simp
  have := pow256_le7 k h
  rw [e, IntKind.wrap_u64]
  generalize 256 ^ k = q at this ⊢
  omega
theorem p256_8 : (256 : Nat) ^ 8 = 18446744073709551616 := by decide
theorem lbs_inj (k n m : Nat) (hn : n < 256 ^ k) (hm : m < 256 ^ k) : decide (lbs n k = lbs m k) = decide (n = m) := by
  by_cases e : n = m
  · subst e; simp
  · have : ¬ lbs n k = lbs m k := fun h => e (by
      have := congrArg le h
      rwa [le_lbs, le_lbs, Nat.mod_eq_of_lt hn, Nat.mod_eq_of_lt hm] at this)
    simp [e, this]
set_option maxHeartbeats 4000000 in
theorem unlike_calls (w : World) (hd : Hdl w) (n m : Nat) (hn : n ≤ 18446744073709551615) (hm : m ≤ 18446744073709551615) (size : Int) :
    Calls Tryd.prog 5 #[.int .u64 n, .int .u64 m, .int .i64 size] w fun e w' => e = .returned (.bool true) ∧ Below w.heap.size w w' := by
  have HD := Lib.hid hd
  clear hd
  by_cases hs : size < 1 ∨ 8 < size
  · have HS := Lib.hid hs
    have hs' : size < 1 ∨ (1 ≤ size ∧ 8 < size) := by omega
    clear hs
    rcases hs' with hl | ⟨hl, hl2⟩
    all_goals
      go_enter Tryd.func5, Tryd.ntmps5
      go_wp2_with fail
      refine (awake_calls w HD.out).mono ?_
      rintro e w2 ⟨rfl, hb2⟩
      have HB2 := Lib.hid hb2
      clear hb2
      go_wp2_with fail
      refine (put_bad w2 n size HS.out).mono ?_
      rintro e w3 ⟨rfl, rfl⟩
      go_wp2
      go_ret
      exact ⟨rfl, HB2.out⟩
  · obtain ⟨k, rfl⟩ : ∃ k : Nat, size = k := ⟨size.toNat, by omega⟩
    have hk1 : 1 ≤ k := by omega
    have hk8 : k ≤ 8 := by omega
    clear hs
    by_cases hk : k < 8
    · obtain ⟨P, hP⟩ : ∃ P, P = 256 ^ k := ⟨_, rfl⟩
      obtain ⟨s8, hs8⟩ : ∃ s8, s8 = 8 * k := ⟨_, rfl⟩
      have hp0 : 0 < P := by rw [hP]; exact Nat.pow_pos (by decide)
      have hp9 : P ≤ 72057594037927936 := by rw [hP]; exact pow256_le7 k (by omega)
      obtain ⟨n1, hn1⟩ : ∃ n1, n1 = n % P := ⟨_, rfl⟩
      obtain ⟨m1, hm1⟩ : ∃ m1, m1 = m % P := ⟨_, rfl⟩
      have HN9 : Hid (n1 < 256 ^ k) := Lib.hid <| by rw [← hP, hn1]; exact Nat.mod_lt _ hp0
      have HM9 : Hid (m1 < 256 ^ k) := Lib.hid <| by rw [← hP, hm1]; exact Nat.mod_lt _ hp0
      have K1 : Hid (IntKind.i64.wrap (8 * (k : Int)) = (s8 : Int)) := Lib.hid <| by rw [IntKind.wrap_i64]; omega
      have K2 : Hid (IntKind.u64.wrap (s8 : Int) = (s8 : Int)) := Lib.hid <| by rw [IntKind.wrap_u64]; omega
      have K3 : Hid (IntKind.u64.wrap ((2 : Int) ^ s8) = (P : Int)) := Lib.hid <| by rw [hs8, hP]; exact shl_eq k (by omega)
      have K4 : Hid ((n : Int).tmod (P : Int) = (n1 : Int)) := Lib.hid <| by rw [hn1]; exact (Int.ofNat_tmod n P).symm
      have K5 : Hid ((m : Int).tmod (P : Int) = (m1 : Int)) := Lib.hid <| by rw [hm1]; exact (Int.ofNat_tmod m P).symm
      have K6 : Hid (min s8 64 = s8) := Lib.hid <| by omega
      have KP : Hid (P ≠ 0) := Lib.hid <| by omega
      have HJ0 : Hid (Below w.heap.size w w.drew) := Lib.hid ((Below.refl w.heap.size w).drew)
      have hn19 : n1 ≤ 18446744073709551615 := by rw [hn1]; have := Nat.mod_lt n hp0; omega
      have hm19 : m1 ≤ 18446744073709551615 := by rw [hm1]; have := Nat.mod_lt m hp0; omega
      clear hP hs8 hn1 hm1
      go_enter Tryd.func5, Tryd.ntmps5
      go_wp2_with fail
      refine region_vals [.int .u64 (n : Int), .int .i64 (k : Int), .int .i64 (s8 : Int), .int .u64 (s8 : Int), .int .u64 (P : Int), .int .u64 (n1 : Int), .int .u64 (m : Int), .int .i64 (k : Int), .int .i64 (s8 : Int), .int .u64 (s8 : Int), .int .u64 (P : Int), .int .u64 (m1 : Int), .int .u64 (n1 : Int), .int .u64 (m1 : Int)] [some 27, some 28, some 29, some 30, some 31, some 32, some 33, some 34, some 35, some 36, some 37, some 38, some 0, some 1] (fun _ w' => Below w.heap.size w w') (by kernel_rfl) (by kernel_rfl) (by kernel_rfl) rfl rfl HJ0.out (fun ii hii => ?_) ?_
      · match ii, hii with
        | 0, _ => exact vstep_first rfl (vwant_none rfl) (fun _ _ h => h) 0 (Or.inl rfl) (by kernel_rfl) rfl
        | 1, _ => exact vstep_first rfl (vwant_none rfl) (fun _ _ h => h) 2 (Or.inl rfl) (by kernel_rfl) rfl
        | 2, _ => exact vstep_pure rfl (vwant_none rfl) (fun _ _ h => h) (fun LL aa ww cc => ⟨.int .i64 (s8 : Int), by have e0 : aa.tmps.getD 28 undef = .int .i64 (k : Int) := cc.slot 1 28 (by kernel_rfl) rfl; have kq := K1.out; simp only [execOp, Act.eval, e0]; go_simp, rfl⟩)
        | 3, _ => exact vstep_pure rfl (vwant_none rfl) (fun _ _ h => h) (fun LL aa ww cc => ⟨.int .u64 (s8 : Int), by have e0 : aa.tmps.getD 29 undef = .int .i64 (s8 : Int) := cc.slot 2 29 (by kernel_rfl) rfl; have kq := K2.out; simp only [execOp, Act.eval, e0]; go_simp, rfl⟩)
        | 4, _ => exact vstep_pure rfl (vwant_none rfl) (fun _ _ h => h) (fun LL aa ww cc => ⟨.int .u64 (P : Int), by have e0 : aa.tmps.getD 30 undef = .int .u64 (s8 : Int) := cc.slot 3 30 (by kernel_rfl) rfl; have kq := K3.out; have kr := K6.out; simp only [execOp, Act.eval, e0]; go_simp, rfl⟩)
        | 5, _ => exact vstep_pure rfl (vwant_none rfl) (fun _ _ h => h) (fun LL aa ww cc => ⟨.int .u64 (n1 : Int), by have e0 : aa.tmps.getD 27 undef = .int .u64 (n : Int) := cc.slot 0 27 (by kernel_rfl) rfl; have e1 : aa.tmps.getD 31 undef = .int .u64 (P : Int) := cc.slot 4 31 (by kernel_rfl) rfl; have kq := K4.out; have kp := KP.out; simp only [execOp, Act.eval, e0, e1]; go_simp, rfl⟩)
        | 6, _ => exact vstep_first rfl (vwant_none rfl) (fun _ _ h => h) 1 (Or.inl rfl) (by kernel_rfl) rfl
        | 7, _ => exact vstep_first rfl (vwant_none rfl) (fun _ _ h => h) 2 (Or.inl rfl) (by kernel_rfl) rfl
        | 8, _ => exact vstep_pure rfl (vwant_none rfl) (fun _ _ h => h) (fun LL aa ww cc => ⟨.int .i64 (s8 : Int), by have e0 : aa.tmps.getD 34 undef = .int .i64 (k : Int) := cc.slot 7 34 (by kernel_rfl) rfl; have kq := K1.out; simp only [execOp, Act.eval, e0]; go_simp, rfl⟩)
        | 9, _ => exact vstep_pure rfl (vwant_none rfl) (fun _ _ h => h) (fun LL aa ww cc => ⟨.int .u64 (s8 : Int), by have e0 : aa.tmps.getD 35 undef = .int .i64 (s8 : Int) := cc.slot 8 35 (by kernel_rfl) rfl; have kq := K2.out; simp only [execOp, Act.eval, e0]; go_simp, rfl⟩)
        | 10, _ => exact vstep_pure rfl (vwant_none rfl) (fun _ _ h => h) (fun LL aa ww cc => ⟨.int .u64 (P : Int), by have e0 : aa.tmps.getD 36 undef = .int .u64 (s8 : Int) := cc.slot 9 36 (by kernel_rfl) rfl; have kq := K3.out; have kr := K6.out; simp only [execOp, Act.eval, e0]; go_simp, rfl⟩)
        | 11, _ => exact vstep_pure rfl (vwant_none rfl) (fun _ _ h => h) (fun LL aa ww cc => ⟨.int .u64 (m1 : Int), by have e0 : aa.tmps.getD 33 undef = .int .u64 (m : Int) := cc.slot 6 33 (by kernel_rfl) rfl; have e1 : aa.tmps.getD 37 undef = .int .u64 (P : Int) := cc.slot 10 37 (by kernel_rfl) rfl; have kq := K5.out; have kp := KP.out; simp only [execOp, Act.eval, e0, e1]; go_simp, rfl⟩)
        | 12, _ => exact vstep_copy rfl (vwant_none rfl) (fun _ _ h => h) 32 (Or.inr rfl) 5 (by kernel_rfl) rfl (fun _ h => h)
        | 13, _ => exact vstep_copy rfl (vwant_none rfl) (fun _ _ h => h) 38 (Or.inr rfl) 11 (by kernel_rfl) rfl (fun _ h => h)
        | n + 14, h => exact absurd h (by show ¬ (n + 14 < 14); omega)
      · intro LL w5 hall hb5
        have HB5 := Lib.hid hb5
        have HL : Hid (le (lbs n1 k) = n1) := Lib.hid <| by rw [le_lbs, Nat.mod_eq_of_lt HN9.out]
        have HI := Lib.hid (lbs_inj k n1 m1 HN9.out HM9.out)
        clear hb5 hall HJ0 K1 K2 K3 K4 K5 K6 KP
        refine (by assumption : ∀ (a : Act) (w : World), Code.wp _ _ _ a w → _) _ _ ?_
        simp only [List.zip_cons_cons, List.zip_nil_right, putsL]
        go_simp
        go_wp2_with fail
        refine (put_rets w5 n1 k hk1 hk8).mono ?_
        rintro e w6 ⟨A1, rfl, hr6, hb6⟩
        have HB6 : Hid (Below w.heap.size w w6) := HB5.out.trans (hb6.mono HB5.out.size)
        have HR6 := Lib.hid hr6
        clear hr6 hb6 HB5
        go_wp2_with fail
        refine (put_rets w6 m1 k hk1 hk8).mono ?_
        rintro e w7 ⟨A2, rfl, hr7, hb7⟩
        have HM7 : Hid (w6.heap.size ≤ w7.heap.size) := Lib.hid hb7.size
        have HB7 : Hid (Below w.heap.size w w7) := HB6.out.trans (hb7.mono HB6.out.size)
        have HR67 : Hid (RB w7 w6.heap.size A1 (lbs n1 k)) := HR6.out.below hb7
        have HR7 := Lib.hid hr7
        clear hr7 hb7 HB6 HR6
        go_wp2_with fail
        refine (get_calls_n w7 _ A1 k k (lbs n1 k) (lbs_length k n1).symm HR67.out (by rw [lbs_length]; exact hk1) (by rw [lbs_length]; exact hk8)).mono ?_
        rintro e w8 ⟨rfl, rfl⟩
        rw [HL.out]
        have HD7 : Hid (Hdl w7) := HD.out.below HB7.out HD.out.lt
        go_wp2_with fail
        refine (awake_calls w7 HD7.out).mono ?_
        rintro e w8 ⟨rfl, hb8⟩
        have HB8 : Hid (Below w.heap.size w w8) := HB7.out.trans (hb8.mono HB7.out.size)
        have HR8 : Hid (RB w8 w7.heap.size A2 (lbs m1 k)) := HR7.out.below hb8
        have HR68 : Hid (RB w8 w7.heap.size A1 (lbs n1 k)) := Lib.hid <| by
          have := HR67.out.below (hb8.mono HM7.out)
          exact this.mono HM7.out
        go_wp2_with fail
        refine (same_calls_n w8 _ A1 k k (lbs n1 k) (lbs_length k n1).symm HR68.out _ A2 k k (lbs m1 k) (lbs_length k m1).symm HR8.out).mono ?_
        rintro e w9 ⟨rfl, rfl⟩
        rw [HI.out]
        by_cases heq : n1 = m1
        · subst heq
          rw [decide_eq_true rfl]
          go_wp2
          go_ret
          refine ⟨?_, HB8.out⟩
          rfl
        · rw [decide_eq_false heq]
          have hq : ¬ (n1 : Int) = (m1 : Int) := by omega
          go_wp2
          go_ret
          refine ⟨?_, HB8.out⟩
          show Ending.returned (.bool (!((n1 : Int) == (m1 : Int)))) = _
          rw [beq_eq_false_iff_ne.2 hq]
          rfl
    · have hke : k = 8 := by omega
      have HL : Hid (le (lbs n k) = n) := Lib.hid <| by rw [le_lbs, hke, Nat.mod_eq_of_lt (by have := p256_8; omega)]
      have HI := Lib.hid (lbs_inj k n m (by have := p256_8; rw [hke]; omega) (by have := p256_8; rw [hke]; omega))
      clear hke
      have HB5 : Hid (Below w.heap.size w w) := Lib.hid (Below.refl w.heap.size w)
      go_enter Tryd.func5, Tryd.ntmps5
      go_wp2_with fail
      refine (put_rets w n k hk1 hk8).mono ?_
      rintro e w6 ⟨A1, rfl, hr6, hb6⟩
      have HB6 : Hid (Below w.heap.size w w6) := HB5.out.trans (hb6.mono HB5.out.size)
      have HR6 := Lib.hid hr6
      clear hr6 hb6 HB5
      go_wp2_with fail
      refine (put_rets w6 m k hk1 hk8).mono ?_
      rintro e w7 ⟨A2, rfl, hr7, hb7⟩
      have HM7 : Hid (w6.heap.size ≤ w7.heap.size) := Lib.hid hb7.size
      have HB7 : Hid (Below w.heap.size w w7) := HB6.out.trans (hb7.mono HB6.out.size)
      have HR67 : Hid (RB w7 w6.heap.size A1 (lbs n k)) := HR6.out.below hb7
      have HR7 := Lib.hid hr7
      clear hr7 hb7 HB6 HR6
      go_wp2_with fail
      refine (get_calls_n w7 _ A1 k k (lbs n k) (lbs_length k n).symm HR67.out (by rw [lbs_length]; exact hk1) (by rw [lbs_length]; exact hk8)).mono ?_
      rintro e w8 ⟨rfl, rfl⟩
      rw [HL.out]
      have HD7 : Hid (Hdl w7) := HD.out.below HB7.out HD.out.lt
      go_wp2_with fail
      refine (awake_calls w7 HD7.out).mono ?_
      rintro e w8 ⟨rfl, hb8⟩
      have HB8 : Hid (Below w.heap.size w w8) := HB7.out.trans (hb8.mono HB7.out.size)
      have HR8 : Hid (RB w8 w7.heap.size A2 (lbs m k)) := HR7.out.below hb8
      have HR68 : Hid (RB w8 w7.heap.size A1 (lbs n k)) := Lib.hid <| by
        have := HR67.out.below (hb8.mono HM7.out)
        exact this.mono HM7.out
      go_wp2_with fail
      refine (same_calls_n w8 _ A1 k k (lbs n k) (lbs_length k n).symm HR68.out _ A2 k k (lbs m k) (lbs_length k m).symm HR8.out).mono ?_
      rintro e w9 ⟨rfl, rfl⟩
      rw [HI.out]
      by_cases heq : n = m
      · subst heq
        rw [decide_eq_true rfl]
        go_wp2
        go_ret
        refine ⟨?_, HB8.out⟩
        rfl
      · rw [decide_eq_false heq]
        have hq : ¬ (n : Int) = (m : Int) := by omega
        go_wp2
        go_ret
        refine ⟨?_, HB8.out⟩
        show Ending.returned (.bool (!((n : Int) == (m : Int)))) = _
        rw [beq_eq_false_iff_ne.2 hq]
        rfl
end Go.Proofs.YtpbalgnfeabhgaaDoor
