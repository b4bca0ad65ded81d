/- The reference's Put: the bytes of a number, of every size. -/
import Derived.Test.YtpbalgnfeabhgaaDoorOctPut
namespace Go.Proofs.YtpbalgnfeabhgaaDoor
open Go.RowKit Nac Nac.Crc
theorem byte_mod (n k : Nat) : bv (UInt8.ofNat (n / 256 ^ k)) = .int .u8 (((n / 256 ^ k : Nat) : Int) % 256) := by
  rw [bv, UInt8.toNat_ofNat']
  congr 1
set_option maxHeartbeats 800000 in
theorem refput_calls (w : World) (n : Nat) (size : Int) (hn : n ≤ 18446744073709551615) (hs : size ≤ 8) :
    Calls Tryd.prog 11 #[.int .u64 n, .int .i64 size] w (RetOB w (lbs n size.toNat)) := by
  go_enter Tryd.func11, Tryd.ntmps11
  go_wp2
  go_loopw [0, 5, 6] (fun s0 s5 s6 wr => ∃ (k m : Nat) (A : Option Addr) (c : Nat) (L : List UInt8), (k : Int) ≤ max size 0 ∧ m ≤ 18446744073709551615 ∧ s6 = .int .i64 k ∧ s0 = .int .u64 m ∧ s5 = .slice A L.length c ∧ OB wr w.heap.size A c L ∧ Below w.heap.size w wr ∧ Hid (m = n / 256 ^ k) ∧ Hid (L = lbs n k))
    (fun _ _ i _ => size.toNat - (intOf i).toNat)
  case atStart => exact ⟨0, n, none, 0, [], by omega, hn, rfl, rfl, rfl, OB.nil _ _, Below.refl _ _, by simp [Hid], rfl⟩
  case round =>
    obtain ⟨k, m, A, c, L, hk, hm, rfl, rfl, rfl, hown, hbel, HM, HL⟩ := hrel
    by_cases hlt : (k : Int) < size
    · go_wp2_with (at_builtin; refine wpList_app_bytes _ rfl _ _ rfl w.heap.size A c L _ rfl rfl (hown.alloc _) (some ⟨wr.heap.size, 0, none⟩) _ [UInt8.ofNat m] _ rfl rfl (B := wr.heap.size + 1) ?_ ?_ ?_ ?_)
      · exact rb_byte wr _ m
      · have := HL.out; subst this; simp [lbs_length]; omega
      · have := hbel.size; simp; omega
      intro A' c' L' w' H' hown' hgr _
      have hbel' := below_app (hbel.alloc hbel.size _) hgr (hown.alloc _) (by have := hbel.size; simp; omega) (Nat.le_refl _)
      clear hgr hown
      go_wp2
      go_roundw
      case rel => exact ⟨k + 1, m / 256, A', c', L', by omega, by omega, by go_num, by go_num, rfl, hown', hbel', by show m / 256 = _; rw [HM.out, Nat.div_div_eq_div_mul, Nat.pow_succ], by show L' = _; rw [H'.out, HL.out, HM.out, lbs_snoc]⟩
      case measure => simp [intOf]; omega
    · have hkk : k = size.toNat := by omega
      have HK := Lib.hid hkk; clear hkk
      go_wp2
      go_ret
      have := HL.out
      subst this
      rw [HK.out] at hown
      exact ⟨A, c, by rw [HK.out]; rfl, hown, hbel⟩
end Go.Proofs.YtpbalgnfeabhgaaDoor
