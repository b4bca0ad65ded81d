/- octet.Put and the reference's Put: the bytes of a number of a size from 1 to 8 (and none for other sizes). -/
import Derived.Test.YtlecpekgnlaneaaDoorProg
import Derived.Test.YtlecpekgnlaneaaDoorBytes
import Derived.Test.YtlecpekgnlaneaaDoorCrcPlain
import Derived.Lib.Hide
import Derived.Laws.BitsAllLaws
import Derived.Deep.OwnRows
namespace Go.Proofs.YtlecpekgnlaneaaDoor
open Go.RowKit Nac Nac.Crc
/-- what lies in the new row behind k rounds -/
def pc (n size k : Nat) : Array Value := ((lbs n k ++ List.replicate (size - k) 0).map bv).toArray
theorem pc_zero (n size : Nat) : madeCells #[.int .u8 0] size = pc n size 0 := by
  apply Array.toList_inj.1
  rw [toList_madeCells_one]
  simp [pc, lbs, bv]
theorem lbs_snoc (k : Nat) : ∀ n, lbs n (k + 1) = lbs n k ++ [UInt8.ofNat (n / 256 ^ k)] := by
  induction k with
  | zero => intro n; simp [lbs]
  | succ k ih =>
    intro n
    rw [lbs, ih (n / 256)]
    simp only [lbs, List.cons_append, Nat.div_div_eq_div_mul, Nat.pow_succ]
    rw [Nat.mul_comm 256]
theorem pc_step (n size k : Nat) (hk : k < size) : (pc n size k).setIfInBounds k (bv (UInt8.ofNat (n / 256 ^ k))) = pc n size (k + 1) := by
  apply Array.toList_inj.1
  simp only [pc, Array.toList_setIfInBounds]
  rw [lbs_snoc, show size - k = (size - (k + 1)) + 1 by omega, List.replicate_succ]
  simp [lbs_length]
theorem pc_full (n size : Nat) : pc n size size = ((lbs n size).map bv).toArray := by simp [pc]
theorem pc_cell (n size k j : Nat) (hj : j < size) (hk : k ≤ size) : ∃ v, (pc n size k)[j]? = some v := by
  have : j < (pc n size k).size := by simp [pc, lbs_length]; omega
  exact ⟨_, Array.getElem?_eq_getElem this⟩
theorem byte_eq (n k : Nat) : bv (UInt8.ofNat (n / 256 ^ k)) = .int .u8 ((n : Int) / 2 ^ (8 * k) % 256) := by
  have e : (2 : Int) ^ (8 * k) = ((256 ^ k : Nat) : Int) := by rw [Int.pow_mul]; simp
  rw [e, bv, UInt8.toNat_ofNat']
  congr 1
set_option maxHeartbeats 800000 in
theorem put_calls (w : World) (n size : Nat) (h1 : 1 ≤ size) (h8 : size ≤ 8) :
    Calls Tryd.prog 27 #[.int .u64 n, .int .i64 size] w fun e w' => e = .returned (.slice (some ⟨w.heap.size, 0, none⟩) size size) ∧ w.alloc (.cells ((lbs n size).map bv).toArray 5) = w' := by
  have hmk := run_make_row' (P := Tryd.prog) 22 5 (.int .u8 0) 1 Tryd.underlying22 Tryd.infoByte rfl .i64 .i64 size (by omega) (by omega)
  rw [pc_zero n size] at hmk
  go_enter Tryd.func27, Tryd.ntmps27
  go_wp2
  clear hmk
  go_loopw [6, 17] (fun s6 i wr => ∃ k : Nat, k ≤ size ∧ i = .int .i64 k ∧ wr = w.alloc (.cells (pc n size k) 5)) (fun _ i _ => size - (intOf i).toNat)
  case atStart => exact ⟨0, Nat.zero_le _, rfl, rfl⟩
  case round =>
    obtain ⟨k, hk, rfl, rfl⟩ := hrel
    by_cases hlt : k < size
    · obtain ⟨v, hv⟩ := pc_cell n size k k hlt hk
      have H := Lib.hid (pc_step n size k hlt)
      go_wp2
      go_roundw
      case rel => exact ⟨k + 1, by omega, by go_num, by rw [← H.out, byte_eq]⟩
      case measure => simp [intOf]; omega
    · obtain rfl : k = size := by omega
      go_wp2
      go_ret
      exact ⟨rfl, by rw [pc_full]⟩
end Go.Proofs.YtlecpekgnlaneaaDoor
