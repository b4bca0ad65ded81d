/- crc.On and crc.Of: the register goes over the bytes as in the plain facts, by the table of sixteen words. -/
import Derived.Test.YtoeebfkdipkgkaaDoorProg
import Derived.Test.YtoeebfkdipkgkaaDoorCom
import Derived.Test.YtoeebfkdipkgkaaDoorCrcPlain
import Derived.Lib.Hide
import Derived.Laws.BitsAllLaws
namespace Go.Proofs.YtoeebfkdipkgkaaDoor
open Go.RowKit Nac Nac.Crc
/-- the table of sixteen words lies in w -/
def Nib (w : World) : Prop := ∀ j, j < 16 → w.cell? ⟨0, j, none⟩ = some (.int .u32 ((table.getD j 0 : Nat) : Int))
theorem Nib.below {w w' : World} {B : Nat} (h : Nib w) (hB : 0 < B) (hb : Below B w w') : Nib w' := fun j hj => (hb.cell (p := ⟨0, j, none⟩) hB).trans (h j hj)
theorem not32 (r : W32) : bits .xor .u32 4294967295 (r.toNat : Int) = ((~~~ r).toNat : Int) := by
  have := r.isLt
  have h := u32_xor_nat 4294967295 r.toNat (by omega) (by omega)
  rw [show ((4294967295 : Nat) : Int) = 4294967295 from rfl] at h
  rw [h]
  congr 1
theorem xor32 (r s : W32) : bits .xor .u32 (r.toNat : Int) (s.toNat : Int) = ((r ^^^ s).toNat : Int) := by
  have := r.isLt
  have := s.isLt
  rw [u32_xor_nat _ _ (by omega) (by omega), BitVec.toNat_xor]
theorem and15 (r : W32) : bits .and .u32 (r.toNat : Int) 15 = ((r &&& 15#32).toNat : Int) := by
  have := r.isLt
  have h := u32_and_nat r.toNat 15 (by omega) (by omega)
  rw [show ((15 : Nat) : Int) = 15 from rfl] at h
  rw [h, BitVec.toNat_and]; rfl
/-- one table step, in the walk's own numbers -/
theorem nib_facts (r : W32) : ∃ i t : Nat, i < 16 ∧ bits .and .u32 (r.toNat : Int) 15 = (i : Int) ∧ table.getD i 0 = t ∧ bits .xor .u32 ((r.toNat : Int) / 16) (t : Int) = ((nib r).toNat : Int) := by
  have hr := r.isLt
  have hi := and15_lt r
  refine ⟨(r &&& 15#32).toNat, _, hi, and15 r, rfl, ?_⟩
  have ht := table_lt ⟨_, hi⟩
  simp only at ht
  have h := u32_xor_nat (r.toNat / 16) (table.getD (r &&& 15#32).toNat 0) (by omega) (by omega)
  rw [show ((r.toNat / 16 : Nat) : Int) = (r.toNat : Int) / 16 from by omega] at h
  rw [h]
  unfold nib
  rw [BitVec.toNat_xor, BitVec.toNat_ushiftRight, BitVec.toNat_ofNat, Nat.mod_eq_of_lt (by omega), Nat.shiftRight_eq_div_pow]
theorem wide_in (x : UInt8) : (x.toNat : Int) % 4294967296 = ((wide x).toNat : Int) := by
  have := x.toNat_lt
  unfold wide
  rw [BitVec.toNat_ofNat]
  omega
theorem round_facts (r : W32) (x : UInt8) : ∃ r1 r2 r3 i1 t1 i2 t2 : Nat,
    bits .xor .u32 (r.toNat : Int) ((x.toNat : Int) % 4294967296) = (r1 : Int) ∧ i1 < 16 ∧ bits .and .u32 (r1 : Int) 15 = (i1 : Int) ∧ table.getD i1 0 = t1 ∧ bits .xor .u32 ((r1 : Int) / 16) (t1 : Int) = (r2 : Int) ∧
    i2 < 16 ∧ bits .and .u32 (r2 : Int) 15 = (i2 : Int) ∧ table.getD i2 0 = t2 ∧ bits .xor .u32 ((r2 : Int) / 16) (t2 : Int) = (r3 : Int) ∧ r3 = (feed r x).toNat := by
  obtain ⟨i1, t1, h1, a1, b1, c1⟩ := nib_facts (r ^^^ wide x)
  obtain ⟨i2, t2, h2, a2, b2, c2⟩ := nib_facts (nib (r ^^^ wide x))
  exact ⟨_, _, _, i1, t1, i2, t2, by rw [wide_in, xor32], h1, a1, b1, c1, h2, a2, b2, c2, by rw [feed_nib]⟩
set_option maxHeartbeats 400000 in
theorem on_callsW (w : World) (B : Nat) (A : Option Addr) (c : Nat) (l : List UInt8) (sum : W32) (ht : Nib w) (h : RB w B A l) (h8 : l.length ≤ 140737488355328) :
    Calls Tryd.prog 10 #[.int .u32 (sum.toNat : Int), .slice A l.length c] w fun e w' => e = .returned (.int .u32 ((on sum l).toNat : Int)) ∧ w = w' := by
  have hs : IntKind.u32.signed = false := rfl
  have hm : IntKind.u32.max = 4294967295 := by decide
  have hn := not32 sum
  obtain ⟨s, hs0⟩ : ∃ s, s = sum.toNat := ⟨_, rfl⟩
  obtain ⟨r0, hr0⟩ : ∃ r, r = (~~~ sum).toNat := ⟨_, rfl⟩
  rw [← hs0, ← hr0] at hn
  rw [← hs0]
  have HS := Lib.hid hs0; clear hs0
  have HR := Lib.hid hr0; clear hr0
  go_enter Tryd.func10, Tryd.ntmps10
  go_wp2
  clear hn
  go_loop [5, 7, 12] (fun r x i => ∃ k a : Nat, k ≤ l.length ∧ i = .int .i64 k ∧ r = .int .u32 a ∧ a = (reg (~~~ sum) (l.take k)).toNat) (fun _ _ i => l.length - (intOf i).toNat)
  case atStart => exact ⟨0, _, Nat.zero_le _, rfl, rfl, by rw [HR.out]; rfl⟩
  case round =>
    obtain ⟨k, a, hk, rfl, rfl, ha⟩ := hrel
    by_cases hlt : k < l.length
    · obtain ⟨b, o, rfl, _, hc⟩ := h.get hlt
      obtain ⟨r1, r2, r3, i1, t1, i2, t2, e1, l1, e2, e3, e4, l2, e5, e6, e7, e8⟩ := round_facts (reg (~~~ sum) (l.take k)) l[k]
      rw [← ha] at e1
      have c1 := ht i1 l1
      have c2 := ht i2 l2
      rw [e3] at c1
      rw [e6] at c2
      have HA := Lib.hid ha; clear ha
      have H8 := Lib.hid e8; clear e8
      clear e3 e6 ht
      go_wp2
      go_round
      case rel => exact ⟨k + 1, r3, by omega, by go_num, rfl, by rw [H8.out, List.take_succ_eq_append_getElem hlt, reg_snoc]⟩
      case measure => simp [intOf]; omega
    · have HA := Lib.hid ha; clear ha
      go_wp2
      go_ret
      refine ⟨?_, rfl⟩
      show Ending.returned (.int .u32 (bits .xor .u32 4294967295 (a : Int))) = _
      rw [HA.out, List.take_of_length_le (by omega), not32]
      rfl
/-- crc.Of -/
theorem of_callsW (w : World) (B : Nat) (A : Option Addr) (c : Nat) (l : List UInt8) (ht : Nib w) (h : RB w B A l) (h8 : l.length ≤ 140737488355328) :
    Calls Tryd.prog 12 #[.slice A l.length c] w fun e w' => e = .returned (.int .u32 ((of l).toNat : Int)) ∧ w = w' := by
  have H := Lib.hid (on_callsW w B A c l 0#32 ht h h8)
  clear ht
  go_enter Tryd.func12, Tryd.ntmps12
  go_wp2_with (go_at_call 10; refine H.out.mono ?_; rintro e w' ⟨rfl, rfl⟩)
  go_ret
  exact ⟨rfl, rfl⟩
theorem of_callsW_n (w : World) (B : Nat) (A : Option Addr) (n c : Nat) (l : List UInt8) (hn : n = l.length) (ht : Nib w) (h : RB w B A l) (h8 : l.length ≤ 140737488355328) :
    Calls Tryd.prog 12 #[.slice A n c] w fun e w' => e = .returned (.int .u32 ((of l).toNat : Int)) ∧ w = w' := by
  subst hn; exact of_callsW w B A c l ht h h8
theorem on_callsW_n (w : World) (B : Nat) (A : Option Addr) (n c : Nat) (l : List UInt8) (sum : W32) (hn : n = l.length) (ht : Nib w) (h : RB w B A l) (h8 : l.length ≤ 140737488355328) :
    Calls Tryd.prog 10 #[.int .u32 (sum.toNat : Int), .slice A n c] w fun e w' => e = .returned (.int .u32 ((on sum l).toNat : Int)) ∧ w = w' := by
  subst hn; exact on_callsW w B A c l sum ht h h8
/-! the same, for what may come in -/
section
variable (w : World) (B : Nat) (A : Option Addr) (n c : Nat) (l : List UInt8) (sum : W32)
theorem on_calls (ht : Nib w) (h : RB w B A l) (h8 : l.length ≤ 140737488351232) :
    Calls Tryd.prog 10 #[.int .u32 (sum.toNat : Int), .slice A l.length c] w fun e w' => e = .returned (.int .u32 ((on sum l).toNat : Int)) ∧ w = w' := on_callsW w B A c l sum ht h (by omega)
theorem of_calls (ht : Nib w) (h : RB w B A l) (h8 : l.length ≤ 140737488351232) :
    Calls Tryd.prog 12 #[.slice A l.length c] w fun e w' => e = .returned (.int .u32 ((of l).toNat : Int)) ∧ w = w' := of_callsW w B A c l ht h (by omega)
theorem of_calls_n (hn : n = l.length) (ht : Nib w) (h : RB w B A l) (h8 : l.length ≤ 140737488351232) :
    Calls Tryd.prog 12 #[.slice A n c] w fun e w' => e = .returned (.int .u32 ((of l).toNat : Int)) ∧ w = w' := of_callsW_n w B A n c l hn ht h (by omega)
theorem on_calls_n (hn : n = l.length) (ht : Nib w) (h : RB w B A l) (h8 : l.length ≤ 140737488351232) :
    Calls Tryd.prog 10 #[.int .u32 (sum.toNat : Int), .slice A n c] w fun e w' => e = .returned (.int .u32 ((on sum l).toNat : Int)) ∧ w = w' := on_callsW_n w B A n c l sum hn ht h (by omega)
end
end Go.Proofs.YtoeebfkdipkgkaaDoor
