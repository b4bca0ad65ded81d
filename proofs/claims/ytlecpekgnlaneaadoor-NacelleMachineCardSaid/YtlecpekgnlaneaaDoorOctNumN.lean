/- octet.number and octet.Get: what they return, for whatever bytes. -/
import Derived.Test.YtlecpekgnlaneaaDoorProg
import Derived.Test.YtlecpekgnlaneaaDoorCom
import Derived.Test.YtlecpekgnlaneaaDoorCrcPlain
import Derived.Lib.Hide
namespace Go.Proofs.YtlecpekgnlaneaaDoor
open Go.RowKit Nac Nac.Crc
theorem le_take_succ (l : List UInt8) (k : Nat) (hk : k < l.length) : le (l.take (k + 1)) = le (l.take k) + 256 ^ k * l[k].toNat := by
  induction l generalizing k with
  | nil => simp at hk
  | cons x l ih =>
    cases k with
    | zero => simp [le]
    | succ k =>
      simp only [List.take_succ_cons, le, List.getElem_cons_succ]
      rw [ih k (by simpa using hk), Nat.pow_succ, Nat.mul_add, ← Nat.mul_assoc, Nat.mul_comm 256 (256 ^ k), ← Nat.add_assoc]
theorem pow256_lt : ∀ k : Fin 8, 256 ^ k.val * 256 ≤ 18446744073709551616 := by decide
theorem or_step (l : List UInt8) (k : Nat) (hk : k < l.length) (h8 : l.length ≤ 8) :
    bits .or .u64 (le (l.take k) : Int) (IntKind.u64.wrap (IntKind.u64.wrap (l[k].toNat : Int) * 2 ^ (8 * k))) = (le (l.take (k + 1)) : Int) := by
  have hx := l[k].toNat_lt
  have hl : le (l.take k) < 256 ^ k := by have := le_lt (l.take k); rwa [List.length_take, Nat.min_eq_left (by omega)] at this
  have hp := pow256_lt ⟨k, by omega⟩
  simp only at hp
  have e2 : (2 : Int) ^ (8 * k) = ((256 ^ k : Nat) : Int) := by rw [Int.pow_mul]; simp
  have hm : 256 ^ k * l[k].toNat < 18446744073709551616 := by
    have : 256 ^ k * l[k].toNat ≤ 256 ^ k * 255 := Nat.mul_le_mul_left _ (by omega)
    omega
  have hw : IntKind.u64.wrap (IntKind.u64.wrap (l[k].toNat : Int) * 2 ^ (8 * k)) = ((256 ^ k * l[k].toNat : Nat) : Int) := by
    rw [IntKind.wrap_u64 (l[k].toNat : Int), Int.emod_eq_of_lt (by omega) (by omega), e2, ← Int.natCast_mul, IntKind.wrap_u64, Nat.mul_comm]
    generalize 256 ^ k * l[k].toNat = m at hm ⊢
    omega
  rw [hw, bits_or_u64_nat _ _ (by omega) hm, le_take_succ l k hk]
  congr 1
  have e256 : (256 : Nat) ^ k = 2 ^ (8 * k) := by rw [Nat.pow_mul]
  rw [e256] at hl ⊢
  have := Nat.two_pow_add_eq_or_of_lt hl l[k].toNat
  rw [Nat.or_comm, ← this, Nat.add_comm]
set_option maxHeartbeats 400000 in
theorem number_calls (w : World) (B : Nat) (A : Option Addr) (c : Nat) (l : List UInt8) (h : RB w B A l) (h8 : l.length ≤ 8) :
    Calls Tryd.prog 39 #[.slice A l.length c] w fun e w' => e = .returned (.int .u64 (le l : Int)) ∧ w = w' := by
  go_enter Tryd.func39, Tryd.ntmps39
  go_wp2
  go_loop [3, 4, 5, 8] (fun n i0 x i => ∃ k : Nat, k ≤ l.length ∧ i = .int .i64 k ∧ n = .int .u64 (le (l.take k) : Int)) (fun _ _ _ i => l.length - (intOf i).toNat)
  case atStart => exact ⟨0, Nat.zero_le _, rfl, by simp [le]⟩
  case round =>
    obtain ⟨k, hk, rfl, rfl⟩ := hrel
    by_cases hlt : k < l.length
    · obtain ⟨b, o, rfl, _, hc⟩ := h.get hlt
      have H := Lib.hid (or_step l k hlt h8)
      go_wp2
      go_round
      case rel => exact ⟨k + 1, by omega, by go_num, by rw [H.out]⟩
      case measure => simp [intOf]; omega
    · go_wp2
      go_ret
      exact ⟨by rw [List.take_of_length_le (by omega)]; rfl, rfl⟩
end Go.Proofs.YtlecpekgnlaneaaDoor
