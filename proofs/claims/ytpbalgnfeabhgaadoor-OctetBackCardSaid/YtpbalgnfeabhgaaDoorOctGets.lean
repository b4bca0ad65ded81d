/- The document's Number; OctetGets. -/
import Derived.Test.YtpbalgnfeabhgaaDoorOctAwake
namespace Go.Proofs.YtpbalgnfeabhgaaDoor
open Go.RowKit Nac Nac.Crc
theorem le_take8 (l : List UInt8) (h8 : l.length ≤ 8) : le l < 18446744073709551616 := by
  have h := le_lt l
  have h2 : 256 ^ l.length ≤ 256 ^ 8 := Nat.pow_le_pow_right (by decide) h8
  have h3 : (256 : Nat) ^ 8 = 18446744073709551616 := by decide
  omega
/-- 256 to the k, as a word holds it -/
def unitW (k : Nat) : Nat := if k < 8 then 256 ^ k else 0
theorem unitW_step (k : Nat) (h : k < 8) : IntKind.u64.wrap ((unitW k : Int) * 256) = (unitW (k + 1) : Int) := by
  have h2 : ∀ k : Fin 8, IntKind.u64.wrap ((unitW k.val : Int) * 256) = (unitW (k.val + 1) : Int) := by decide
  exact h2 ⟨k, h⟩
theorem unitW_le (k : Nat) : unitW k ≤ 18446744073709551615 := by
  unfold unitW
  split
  · have h2 : 256 ^ k ≤ 256 ^ 7 := Nat.pow_le_pow_right (by decide) (by omega)
    have h3 : (256 : Nat) ^ 7 = 72057594037927936 := by decide
    omega
  · omega
theorem le_step (l : List UInt8) (k : Nat) (hk : k < l.length) (h8 : l.length ≤ 8) :
    IntKind.u64.wrap ((le (l.take k) : Int) + IntKind.u64.wrap ((l[k].toNat : Int) * (unitW k : Int))) = (le (l.take (k + 1)) : Int) := by
  have hx := l[k].toNat_lt
  have hu : unitW k = 256 ^ k := if_pos (by omega)
  have hlt := le_take8 (l.take (k + 1)) (by simp; omega)
  rw [le_take_succ l k hk] at hlt ⊢
  have e : ((l[k].toNat : Int) * (unitW k : Int)) = ((256 ^ k * l[k].toNat : Nat) : Int) := by rw [hu, ← Int.natCast_mul, Nat.mul_comm]
  rw [e]
  generalize 256 ^ k * l[k].toNat = m at hlt ⊢
  generalize le (l.take k) = n at hlt ⊢
  rw [IntKind.wrap_u64 (m : Int), Int.emod_eq_of_lt (by omega) (by omega), IntKind.wrap_u64]
  omega
set_option maxHeartbeats 1000000 in
theorem refnum_calls (w : World) (B : Nat) (A : Option Addr) (c : Nat) (l : List UInt8) (h : RB w B A l) (h8 : l.length ≤ 8) :
    Calls Tryd.prog 15 #[.slice A l.length c] w fun e w' => e = .returned (.int .u64 (le l : Int)) ∧ w = w' := by
  go_enter Tryd.func15, Tryd.ntmps15
  go_wp2
  go_loop [3, 4, 5] (fun s3 s4 s5 => ∃ (k n u : Nat), k ≤ l.length ∧ s5 = .int .i64 k ∧ s3 = .int .u64 n ∧ s4 = .int .u64 u ∧ n ≤ 18446744073709551615 ∧ u ≤ 18446744073709551615 ∧ Hid (n = le (l.take k)) ∧ Hid (u = unitW k)) (fun _ _ s5 => l.length - (intOf s5).toNat)
  case atStart => exact ⟨0, 0, 1, Nat.zero_le _, rfl, rfl, rfl, by omega, by omega, rfl, rfl⟩
  case round =>
    obtain ⟨k, n, u, hk, rfl, rfl, rfl, hn9, hu9, HN, HU⟩ := hrel
    by_cases hlt : k < l.length
    · obtain ⟨b, o, rfl, _, hc⟩ := h.get hlt
      have hle := le_step l k hlt h8
      have hus := unitW_step k (by omega)
      rw [← HN.out, ← HU.out] at hle
      rw [← HU.out] at hus
      obtain ⟨n', hn'⟩ : ∃ n', n' = le (l.take (k + 1)) := ⟨_, rfl⟩
      obtain ⟨u', hu'⟩ : ∃ u', u' = unitW (k + 1) := ⟨_, rfl⟩
      obtain ⟨x, hx⟩ : ∃ x, x = l[k].toNat := ⟨_, rfl⟩
      have hx9 : x < 256 := by rw [hx]; exact l[k].toNat_lt
      have hn9' : n' ≤ 18446744073709551615 := by rw [hn']; have := le_take8 (l.take (k + 1)) (by simp; omega); omega
      have hu9' : u' ≤ 18446744073709551615 := by rw [hu']; exact unitW_le _
      rw [← hn', ← hx] at hle
      rw [← hu'] at hus
      rw [← hx] at hc
      have HN' := Lib.hid hn'
      have HU' := Lib.hid hu'
      have k1 : IntKind.u64.wrap (x : Int) = (x : Int) := by rw [IntKind.wrap_u64]; omega
      clear hn' hu' hx HN HU
      go_wp2
      go_round
      case rel => exact ⟨k + 1, n', u', by omega, by go_num, by first | rfl | rw [hle], by first | rfl | rw [hus], hn9', hu9', HN', HU'⟩
      case measure => simp [intOf]; omega
    · have HL : Hid (n = le l) := Lib.hid <| by rw [HN.out, List.take_of_length_le (by omega)]
      clear HN HU
      go_wp2
      go_ret
      rw [← HL.out]
      exact ⟨rfl, rfl⟩
theorem get_bad (w : World) (A : Option Addr) (n c : Nat) (hn : n < 1 ∨ 8 < n) (h8 : n ≤ 140737488351232) :
    Calls Tryd.prog 14 #[.slice A n c] w fun e w' => e = .returned (.tuple #[.int .u64 0, .int .i64 1]) ∧ w = w' := by
  have hn' : n < 1 ∨ (1 ≤ n ∧ 8 < n) := by omega
  clear hn
  rcases hn' with hn | ⟨hn, hn2⟩
  all_goals
    go_enter Tryd.func14, Tryd.ntmps14
    go_wp2
    go_ret2
    exact ⟨rfl, rfl⟩
set_option maxHeartbeats 2000000 in
theorem gets_calls (w : World) (hd : Hdl w) (B : Nat) (A : Option Addr) (c : Nat) (l : List UInt8) (h : RB w w.heap.size A l) (h8 : l.length ≤ 140737488351232) :
    Calls Tryd.prog 4 #[.slice A l.length c] w fun e w' => e = .returned (.bool true) ∧ Below w.heap.size w w' := by
  have HD := Lib.hid hd
  clear hd
  by_cases hl : l.length < 1 ∨ 8 < l.length
  · have hb := get_bad w A l.length c hl h8
    have HB := Lib.hid hb
    clear hb
    have hl' : l.length < 1 ∨ (1 ≤ l.length ∧ 8 < l.length) := by omega
    clear hl
    rcases hl' with hl | ⟨hl, hl2⟩
    all_goals
      go_enter Tryd.func4, Tryd.ntmps4
      go_wp2_with fail
      refine HB.out.mono ?_
      rintro e w1 ⟨rfl, rfl⟩
      go_wp2_with fail
      refine (awake_calls w HD.out).mono ?_
      rintro e w2 ⟨rfl, hb2⟩
      have HB2 := Lib.hid hb2
      clear hb2
      go_wp2
      go_ret
      exact ⟨rfl, HB2.out⟩
  · obtain ⟨hl1, hl8⟩ : 1 ≤ l.length ∧ l.length ≤ 8 := by omega
    have HH := Lib.hid h
    obtain ⟨v, hv⟩ : ∃ v, v = le l := ⟨_, rfl⟩
    have HV := Lib.hid hv
    have hv9 : v ≤ 18446744073709551615 := by rw [hv]; have := le_take8 l hl8; omega
    clear hl h hv
    go_enter Tryd.func4, Tryd.ntmps4
    go_wp2_with fail
    refine (get_calls w w.heap.size A c l HH.out hl1 hl8).mono ?_
    rintro e w1 ⟨rfl, rfl⟩
    rw [← HV.out]
    go_wp2_with fail
    refine (awake_calls w HD.out).mono ?_
    rintro e w2 ⟨rfl, hb2⟩
    have HB2 := Lib.hid hb2
    have HH2 := Lib.hid (HH.out.below hb2)
    clear hb2 HH
    go_wp2_with fail
    refine (refnum_calls w2 w.heap.size A c l HH2.out hl8).mono ?_
    rintro e w3 ⟨rfl, rfl⟩
    rw [← HV.out]
    go_wp2
    go_ret
    exact ⟨rfl, HB2.out⟩
end Go.Proofs.YtpbalgnfeabhgaaDoor
