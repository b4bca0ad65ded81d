/- over: three lists laid over one another. -/
import Derived.Test.YtoeebfkdipkgkaaDoorStoreB
import Derived.Test.YtoeebfkdipkgkaaDoorCrcOn
import Derived.RegionTactic
import Derived.ChangeAlike
namespace Go.Proofs.YtoeebfkdipkgkaaDoor
open Go.RowKit Nac Nac.Crc
def x3 (a b c : List UInt8) : List UInt8 := List.zipWith (· ^^^ ·) (List.zipWith (· ^^^ ·) a b) c
theorem x3_length (a b c : List UInt8) : (x3 a b c).length = min (min a.length b.length) c.length := by simp [x3]
theorem x3_get (a b c : List UInt8) (k : Nat) (ha : k < a.length) (hb : k < b.length) (hc : k < c.length) (h : k < (x3 a b c).length) : (x3 a b c)[k] = a[k] ^^^ b[k] ^^^ c[k] := by
  simp [x3]
theorem xor8 (a b : Nat) (ha : a < 256) (hb : b < 256) : bits .xor .u8 (a : Int) (b : Int) = ((a ^^^ b : Nat) : Int) := by
  simpa using u8_xor_nat a b (by omega) (by omega)
/-- what lies in the new row behind k rounds -/
def oc (x : List UInt8) (k : Nat) : List UInt8 := x.take k ++ List.replicate (x.length - k) 0
theorem oc_len (x : List UInt8) (k : Nat) (hk : k ≤ x.length) : (oc x k).length = x.length := by simp [oc]; omega
theorem oc_step (x : List UInt8) (k : Nat) (hk : k < x.length) : (oc x k).set k x[k] = oc x (k + 1) := by
  unfold oc
  rw [List.take_succ_eq_append_getElem hk, show x.length - k = (x.length - (k + 1)) + 1 by omega, List.replicate_succ]
  have e : (x.take k).length = k := by simp; omega
  rw [List.set_append, if_neg (by omega), e, Nat.sub_self, List.set_cons_zero, List.append_assoc]
  rfl
theorem x3_bv (a b c x : UInt8) (h : x = a ^^^ b ^^^ c) : Value.int .u8 (bits .xor .u8 (bits .xor .u8 (a.toNat : Int) (b.toNat : Int)) (c.toNat : Int)) = bv x := by
  have h1 := a.toNat_lt
  have h2 := b.toNat_lt
  have h3 := c.toNat_lt
  rw [xor8 _ _ h1 h2, xor8 _ _ (by exact Nat.xor_lt_two_pow (n := 8) h1 h2) h3, h, bv, UInt8.toNat_xor, UInt8.toNat_xor]
set_option maxHeartbeats 2000000 in
theorem over_calls (w : World) (Aa Ab Ac : Option Addr) (ca cb cc : Nat) (a b c : List UInt8) (ha : RB w w.heap.size Aa a) (hb : RB w w.heap.size Ab b) (hc : RB w w.heap.size Ac c) (ha8 : a.length ≤ 140737488351232) (hb8 : b.length ≤ 140737488351232) (hc8 : c.length ≤ 140737488351232) :
    Calls Tryd.prog 18 #[.slice Aa a.length ca, .slice Ab b.length cb, .slice Ac c.length cc] w (RetOB w (x3 a b c)) := by
  have hlen := x3_length a b c
  obtain ⟨x, hx⟩ : ∃ x, Hid (x = x3 a b c) := ⟨_, rfl⟩
  rw [← hx.out] at hlen ⊢
  have hway : (b.length < a.length ∧ c.length < b.length ∧ c.length ≤ x.length) ∨ (b.length < a.length ∧ b.length ≤ c.length ∧ b.length ≤ x.length) ∨ (a.length ≤ b.length ∧ c.length < a.length ∧ c.length ≤ x.length) ∨ (a.length ≤ b.length ∧ a.length ≤ c.length ∧ a.length ≤ x.length) := by omega
  have hxa : x.length ≤ a.length := by omega
  have hxb : x.length ≤ b.length := by omega
  have hxc : x.length ≤ c.length := by omega
  clear hlen
  rcases hway with ⟨h1, h2, h3⟩ | ⟨h1, h2, h3⟩ | ⟨h1, h2, h3⟩ | ⟨h1, h2, h3⟩
  all_goals
    go_enter Tryd.func18, Tryd.ntmps18
    go_wp2_with (at_make; refine wpList_makeN_bytes w rfl _ _ rfl w.heap.size .i64 .i64 _ x.length rfl rfl (by omega) (by omega) (Nat.le_refl _) ?_)
    intro w1 L1 HL1 hown1 hgr1
    have hb1 : Below w.heap.size w w1 := (Below.refl _ _).grown hgr1 (Nat.le_refl _) (fun k hk => by cases hk)
    clear hgr1
    go_wp2_with fail
    go_loopw [9] (fun i wr => ∃ k : Nat, ∃ L, k ≤ x.length ∧ i = .int .i64 k ∧ OB wr w.heap.size (some ⟨w.heap.size, 0, none⟩) x.length L ∧ Below w.heap.size w wr ∧ Hid (L = oc x k)) (fun i _ => x.length - (intOf i).toNat)
    case atStart => exact ⟨0, L1, Nat.zero_le _, rfl, hown1, hb1, by show L1 = _; rw [HL1.out]; simp [oc]⟩
    case round =>
      obtain ⟨k, L, hk, rfl, hown, hbel, HL⟩ := hrel
      have hLl : L.length = x.length := by rw [HL.out, oc_len x k hk]
      by_cases hlt : k < x.length
      · have kL : k < L.length := by omega
        have ka : k < a.length := by omega
        have kb : k < b.length := by omega
        have kc : k < c.length := by omega
        clear hLl
        obtain ⟨ba, oa, rfl, _, ca⟩ := (ha.below hbel).get ka
        obtain ⟨bb, ob, rfl, _, cb⟩ := (hb.below hbel).get kb
        obtain ⟨bc, oc', rfl, _, cc⟩ := (hc.below hbel).get kc
        have co := hown.cellAt kL
        have cf := hown.freeAt k
        have hv := x3_bv a[k] b[k] c[k] x[k] (by have := hx.out; subst this; exact x3_get a b c k ka kb kc hlt)
        have HV := Lib.hid hv; clear hv
        have HS := Lib.hid (hown.set k x[k] HV.out)
        have HO := Lib.hid hown; clear hown
        go_wp2
        go_region
        all_goals
          go_wp2
          go_roundw
          case rel => exact ⟨k + 1, L.set k x[k], by omega, by go_num, HS.out, (hbel.setCell (Nat.le_refl _) _).drew, by show L.set k x[k] = _; rw [HL.out, oc_step x k hlt]⟩
          case measure => simp [intOf]; omega
      · have hkk : k = x.length := by omega
        have HK := Lib.hid hkk; clear hkk
        clear hLl
        go_wp2
        go_ret
        have hL : L = x := by rw [HL.out, HK.out]; simp [oc]
        subst hL
        exact ⟨_, _, rfl, hown, hbel⟩
end Go.Proofs.YtoeebfkdipkgkaaDoor
