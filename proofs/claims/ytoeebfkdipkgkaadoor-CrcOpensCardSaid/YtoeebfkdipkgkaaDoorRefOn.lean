/- The reference's On and Of: bit by bit. -/
import Derived.Test.YtoeebfkdipkgkaaDoorCrcOn
import Derived.Deep.LoopGhost
namespace Go.Proofs.YtoeebfkdipkgkaaDoor
open Go.RowKit Nac Nac.Crc
theorem bit_cond (r : W32) (x : UInt8) (k : Nat) : (r.getLsbD 0 ^^ x.toNat.testBit k) = decide ((r.toNat % 2 + x.toNat / 2 ^ k % 2) % 2 = 1) := by
  have h1 : r.getLsbD 0 = decide (r.toNat % 2 = 1) := by
    show r.toNat.testBit 0 = _
    rw [Nat.testBit_zero]
  rw [h1, Nat.testBit_eq_decide_div_mod_eq]
  have := Nat.mod_two_eq_zero_or_one r.toNat
  have := Nat.mod_two_eq_zero_or_one (x.toNat / 2 ^ k)
  rcases Nat.mod_two_eq_zero_or_one r.toNat with a | a <;> rcases Nat.mod_two_eq_zero_or_one (x.toNat / 2 ^ k) with b | b <;> simp [a, b]
theorem bit_yes (r : W32) (x : UInt8) (k : Nat) (h : (r.toNat % 2 + x.toNat / 2 ^ k % 2) % 2 = 1) : bits .xor .u32 ((r.toNat / 2 : Nat) : Int) 2197175160 = ((feedBit r (x.toNat.testBit k)).toNat : Int) := by
  have := r.isLt
  have e := u32_xor_nat (r.toNat / 2) 2197175160 (by omega) (by omega)
  rw [show ((2197175160 : Nat) : Int) = 2197175160 from rfl] at e
  rw [e]
  unfold feedBit
  rw [bit_cond, decide_eq_true h, if_pos rfl, BitVec.toNat_xor, BitVec.toNat_ushiftRight, Nat.shiftRight_eq_div_pow]
  rfl
theorem bit_no (r : W32) (x : UInt8) (k : Nat) (h : ¬ (r.toNat % 2 + x.toNat / 2 ^ k % 2) % 2 = 1) : r.toNat / 2 = (feedBit r (x.toNat.testBit k)).toNat := by
  unfold feedBit
  rw [bit_cond, decide_eq_false h, if_neg (by simp), BitVec.xor_zero, BitVec.toNat_ushiftRight, Nat.shiftRight_eq_div_pow]
theorem ref_cond (d x j : Nat) : ((((d : Int) + (x : Int) / 2 ^ j) % 2 == 1) = true) ↔ (d % 2 + x / 2 ^ j % 2) % 2 = 1 := by
  have e : (x : Int) / 2 ^ j = ((x / 2 ^ j : Nat) : Int) := by simp
  rw [e, beq_iff_eq]
  generalize x / 2 ^ j = y
  omega
theorem ref_yes (r : W32) (x : UInt8) (j d : Nat) (hd : d = r.toNat) (h : (((d : Int) + (x.toNat : Int) / 2 ^ j) % 2 == 1) = true) : bits .xor .u32 ((d : Int) / 2) 2197175160 = ((feedBit r (x.toNat.testBit j)).toNat : Int) := by
  subst hd
  have e := bit_yes r x j ((ref_cond _ _ _).1 h)
  rwa [show ((r.toNat / 2 : Nat) : Int) = (r.toNat : Int) / 2 from by omega] at e
theorem ref_no (r : W32) (x : UInt8) (j d : Nat) (hd : d = r.toNat) (h : (((d : Int) + (x.toNat : Int) / 2 ^ j) % 2 == 1) = false) : (d : Int) / 2 = ((feedBit r (x.toNat.testBit j)).toNat : Int) := by
  subst hd
  have e := bit_no r x j (fun h' => by rw [(ref_cond _ _ _).2 h'] at h; cases h)
  omega
set_option maxHeartbeats 1000000 in
theorem refon_calls (w : World) (B : Nat) (A : Option Addr) (c : Nat) (l : List UInt8) (sum : W32) (h : RB w B A l) (h8 : l.length ≤ 140737488351232) :
    Calls Tryd.prog 11 #[.int .u32 (sum.toNat : Int), .slice A l.length c] w fun e w' => e = .returned (.int .u32 ((on sum l).toNat : Int)) ∧ w = w' := by
  obtain ⟨s, hs0⟩ : ∃ s, s = sum.toNat := ⟨_, rfl⟩
  have hs1 : s < 4294967296 := by rw [hs0]; exact sum.isLt
  rw [← hs0]
  have HS := Lib.hid hs0; clear hs0
  go_enter Tryd.func11, Tryd.ntmps11
  go_wp2
  go_loop [5, 6, 7, 8, 9] (fun r i s7 s8 s9 => ∃ k a : Nat, k ≤ l.length ∧ i = .int .i64 k ∧ r = .int .u32 a ∧ a < 4294967296 ∧ a = (reg (~~~ sum) (l.take k)).toNat) (fun _ i _ _ _ => l.length - (intOf i).toNat)
  case atStart => exact ⟨0, 4294967295 - s, Nat.zero_le _, rfl, by go_num, by omega, by rw [HS.out]; simp [reg]⟩
  case round =>
    obtain ⟨k, a, hk, rfl, rfl, ha32, ha⟩ := hrel
    by_cases hlt : k < l.length
    · obtain ⟨b, o, rfl, _, hc⟩ := h.get hlt
      have hx := l[k].toNat_lt
      have HA := Lib.hid ha; clear ha
      go_wp2
      go_loop [5, 7, 8, 9] (fun r i s8 s9 => ∃ j d : Nat, j ≤ 8 ∧ i = .int .i64 j ∧ r = .int .u32 d ∧ d < 4294967296 ∧ d = (feedBits (reg (~~~ sum) (l.take k)) l[k] j).toNat) (fun _ i _ _ => 8 - (intOf i).toNat)
      case atStart => exact ⟨0, a, by omega, rfl, rfl, ha32, HA.out⟩
      case round =>
        obtain ⟨j, d, hj, rfl, rfl, hd32, hd⟩ := hrel
        by_cases hlt2 : j < 8
        · have HD := Lib.hid hd; clear hd
          go_wp2
          · go_round
            case rel => exact ⟨j + 1, _, by omega, by go_num, by rw [ref_yes _ _ _ _ HD.out (by assumption)], (feedBit _ _).isLt, rfl⟩
            case measure => simp [intOf]; omega
          · go_round
            case rel => exact ⟨j + 1, _, by omega, by go_num, by rw [ref_no _ _ _ _ HD.out (by assumption)], (feedBit _ _).isLt, rfl⟩
            case measure => simp [intOf]; omega
        · obtain rfl : j = 8 := by omega
          have HD := Lib.hid hd; clear hd
          go_wp2
          go_round
          case rel => exact ⟨k + 1, d, by omega, by go_num, rfl, hd32, by rw [HD.out, feedBits_eq, List.take_succ_eq_append_getElem hlt, reg_snoc]⟩
          case measure => simp [intOf]; omega
    · have HA := Lib.hid ha; clear ha
      go_wp2
      go_ret
      refine ⟨?_, rfl⟩
      show Ending.returned (.int .u32 (4294967295 - (a : Int))) = _
      have e : (4294967295 : Int) - a = ((on sum l).toNat : Int) := by
        unfold on
        rw [HA.out, List.take_of_length_le (by omega), BitVec.toNat_not]
        have := (reg (~~~sum) l).isLt
        omega
      rw [e]
theorem refof_calls (w : World) (B : Nat) (A : Option Addr) (n c : Nat) (l : List UInt8) (hn : n = l.length) (h : RB w B A l) (h8 : l.length ≤ 140737488351232) :
    Calls Tryd.prog 13 #[.slice A n c] w fun e w' => e = .returned (.int .u32 ((of l).toNat : Int)) ∧ w = w' := by
  subst hn
  have H := Lib.hid (refon_calls w B A c l 0#32 h h8)
  go_enter Tryd.func13, Tryd.ntmps13
  go_wp2_with (go_at_call 11; refine H.out.mono ?_; rintro e w' ⟨rfl, rfl⟩)
  go_ret
  exact ⟨rfl, rfl⟩
end Go.Proofs.YtoeebfkdipkgkaaDoor
