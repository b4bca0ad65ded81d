/- The law CrcFinds, walked. -/
import Derived.Test.YtoeebfkdipkgkaaDoorLawOwn
import Derived.Test.YtoeebfkdipkgkaaDoorFindsPlain
namespace Go.Proofs.YtoeebfkdipkgkaaDoor
open Go.RowKit Nac Nac.Crc
theorem burst_byte (x : UInt8) (V n j m : Nat) (hV : V = n * 2 ^ j) : Value.int .u8 (bits .xor .u8 (x.toNat : Int) ((V : Int) / 2 ^ (8 * m) % 256)) = bv (x ^^^ burst n j m) := by
  have e : (2 : Int) ^ (8 * m) = ((256 ^ m : Nat) : Int) := by rw [Int.pow_mul]; simp
  have e2 : (V : Int) / 2 ^ (8 * m) % 256 = ((burst n j m).toNat : Int) := by
    rw [e, burst, UInt8.toNat_ofNat', hV]
    simp
  rw [e2, xor8 _ _ x.toNat_lt (burst n j m).toNat_lt, bv, UInt8.toNat_xor]
theorem finds_open (l s L : List UInt8) (p n j m : Nat) (hs : s = sealedB l) (hL : L = turned s p n j m) (hj : j < 8) (hb : n ≤ 4294967295) (hm : (m = 5 ∧ p + 5 ≤ s.length) ∨ (m = 4 ∧ p + 4 = s.length ∧ j = 0)) :
    (n = 0 → openB L = (l, 0)) ∧ (n ≠ 0 → openB L = ([], 8)) := by
  have hsl : s.length = l.length + 4 := by rw [hs]; simp [sealedB, lbs_length]
  have hLl : L.length = s.length := by rw [hL, turned_length]
  constructor
  · rintro rfl
    rw [hL, turned_none, hs]
    exact open_sealed l
  · intro hn
    have hg := turned_bad s p n j m (by omega) (by rw [hs]; exact good_seal l) hj (by omega) hn hm
    unfold openB
    rw [if_neg (by omega), hL, hg]
    rfl
theorem finds_step (L s : List UInt8) (p n j m : Nat) (hL : L = turned s p n j m) (h : p + m < s.length) (h' : p + m < L.length) : L.set (p + m) (L[p + m] ^^^ burst n j m) = turned s p n j (m + 1) := by
  subst hL
  exact turned_step s p n j m h h'
theorem finds_step0 (L s : List UInt8) (n m : Nat) (hL : L = turned s 0 n 0 m) (h : m < s.length) (h' : m < L.length) : L.set m (L[m] ^^^ burst n 0 m) = turned s 0 n 0 (m + 1) := by
  have := finds_step L s 0 n 0 m hL (by omega) (by omega)
  simpa using this
set_option maxHeartbeats 4000000 in
theorem finds_calls (w : World) (A : Option Addr) (c : Nat) (l : List UInt8) (at_ b32 : Nat) (hat : at_ ≤ 18446744073709551615) (hb32 : b32 ≤ 4294967295) (ht : Nib w) (hg : 0 < w.heap.size) (h : RB w w.heap.size A l) (h8 : l.length ≤ 140737488351232) :
    Calls Tryd.prog 7 #[.slice A l.length c, .int .u64 at_, .int .u32 b32] w fun e w' => e = .returned (.bool true) ∧ Below w.heap.size w w' := by
  have hsl : (sealedB l).length = l.length + 4 := by simp [sealedB, lbs_length]
  have hos := open_sealed l
  go_enter Tryd.func7, Tryd.ntmps7
  go_wp2_with fail
  refine (seal_calls w _ A c l ht hg h (Nat.le_refl _) h8).mono ?_
  rintro e w1 ⟨As, cs, rfl, hs1, hb1⟩
  obtain ⟨s, hs⟩ : ∃ s, Hid (s = sealedB l) := ⟨_, rfl⟩
  rw [← hs.out] at hs1 hsl hos ⊢
  have HOS := Lib.hid hos; clear hos
  have hs8 : s.length ≤ l.length + 4 := by omega
  have hs9 : l.length + 4 ≤ s.length := by omega
  have HSL := Lib.hid hsl; clear hsl
  have hg1 : 0 < w1.heap.size := Nat.lt_of_lt_of_le hg hb1.size
  have ht1 := ht.below hg hb1
  go_wp2_with fail
  refine (open_callsW w1 _ As _ cs s rfl ht1 hs1.rb hs1.len (by omega)).mono ?_
  rintro e w2 ⟨Ax, cx, rfl, hx2, hb2⟩
  rw [HOS.out] at hx2 ⊢
  simp only at hx2 ⊢
  have hb02 := hb1.trans (hb2.mono hb1.size)
  have hg2 : 0 < w2.heap.size := Nat.lt_of_lt_of_le hg1 hb2.size
  have ht2 := ht1.below hg1 hb2
  go_wp2_with fail
  refine (awake_calls w2 ht2 hg2).mono ?_
  rintro e w3 ⟨rfl, hb3⟩
  have hb03 := hb02.trans (hb3.mono hb02.size)
  have hb13 := hb2.trans (hb3.mono hb2.size)
  have ht3 := ht2.below hg2 hb3
  have hs3 := hs1.below hb13 (Nat.le_refl _)
  have hc3 := run_conv w3 (hx2.rb.below hb3) l.length cx rfl
  have hc4 := run_conv w3 (h.below hb03) l.length c rfl
  have hne : ((s.length : Int) != (l.length : Int) + 4) = false := by rw [bne_eq_false_iff_eq]; omega
  obtain ⟨k, hkd⟩ : ∃ k, k = (if l.length = 0 then 0 else at_ % (8 * l.length + 1)) := ⟨_, rfl⟩
  have hk8 : k ≤ 8 * l.length := by
    rw [hkd]; split
    · omega
    · have := Nat.mod_lt at_ (show 0 < 8 * l.length + 1 by omega); omega
  obtain ⟨p, hp⟩ : ∃ p, p = k / 8 := ⟨_, rfl⟩
  obtain ⟨j, hj⟩ : ∃ j, j = k % 8 := ⟨_, rfl⟩
  have hj8 : j < 8 := by omega
  have hpl : p ≤ l.length := by omega
  have hpj : p = l.length → j = 0 := by omega
  have hkp : (k : Int).tdiv 8 = (p : Int) := by rw [hp, Int.tdiv_eq_ediv_of_nonneg (by omega)]; omega
  have hkj : (k : Int).tmod 8 = (j : Int) := by rw [hj, Int.tmod_eq_emod_of_nonneg (by omega)]; omega
  obtain ⟨V, hV⟩ : ∃ V, V = b32 * 2 ^ j := ⟨_, rfl⟩
  have hV64 : V < 549755813888 := by
    have : 2 ^ j ≤ 2 ^ 7 := Nat.pow_le_pow_right (by decide) (by omega)
    have := Nat.mul_le_mul hb32 this
    omega
  have hVw : IntKind.u64.wrap ((b32 : Int) * 2 ^ j) = (V : Int) := by
    have e : (b32 : Int) * 2 ^ j = (V : Int) := by rw [hV]; simp
    rw [e]
    exact IntWalk.u64_in _ (by omega)
  have HV := Lib.hid hV; clear hV
  have HP := Lib.hid hp; clear hp
  have HJ := Lib.hid hj; clear hj
  by_cases hl0 : l.length = 0
  · rw [if_pos hl0] at hkd
    have HK := Lib.hid hkd; clear hkd
    have HL0 := Lib.hid hl0
    have hl1 : l.length ≤ 0 := by omega
    clear hl0
    have hgt : 8 * (s.length : Int) ≤ 32 := by omega
    go_wp2_with fail
    go_loopw [13] (fun i wr => ∃ m : Nat, ∃ L, m ≤ 5 ∧ m ≤ s.length ∧ i = .int .u64 m ∧ OB wr w.heap.size As cs L ∧ Below w.heap.size w wr ∧ Hid (L = turned s 0 b32 0 m) ∧ L.length ≤ s.length ∧ s.length ≤ L.length) (fun i _ => 5 - (intOf i).toNat)
    case atStart => exact ⟨0, s, by omega, by omega, rfl, hs3, hb03, by show s = _; rw [turned_zero], Nat.le_refl _, Nat.le_refl _⟩
    case round =>
      obtain ⟨m, L, hm, hpm, rfl, hown, hbr, HL, hL1, hL2⟩ := hrel
      by_cases hgo : m < 5 ∧ m < s.length
      · obtain ⟨hm5, hpm2⟩ := hgo
        have hpl2 : m < L.length := by omega
        obtain ⟨g, rfl, hg0, hg1', cc, cf⟩ := hown.at hpl2
        have HX := Lib.hid hown; clear hown hs1 hs3
        go_wp2
        go_roundw
        case rel => exact ⟨m + 1, L.set m (L[m] ^^^ burst b32 0 m), by omega, by omega, by go_num, HX.out.set m _ (burst_byte _ _ _ _ _ (by simp)), hbr.setCell hg0 _, by show L.set m _ = _; exact finds_step0 L s b32 m HL.out (by omega) hpl2, by simpa using hL1, by simpa using hL2⟩
        case measure => simp [intOf]; omega
      · have ht4 := ht.below hg hbr
        have hop := finds_open l s L 0 b32 0 m hs.out HL.out (by omega) hb32 (by omega)
        have hlc := hown.len
        go_wp2_with fail
        all_goals
          refine (open_callsW wr _ As _ cs L (by omega) ht4 hown.rb hlc (by omega)).mono ?_
          rintro e w5 ⟨Ay, cy, rfl, hy5, hb5⟩
          have hb6 := hbr.trans (hb5.mono hbr.size)
          by_cases hb0 : b32 = 0
          · have hop1 := hop.1 hb0
            have H0 : b32 ≤ 0 := by omega
            clear hb0 hop
            rw [hop1] at hy5 ⊢
            simp only at hy5 ⊢
            have hc5 := run_conv w5 hy5.rb l.length cy rfl
            have hc6 := run_conv w5 (h.below hb6) l.length c rfl
            go_wp2
            go_ret
            exact ⟨rfl, hb6⟩
          · have hop1 := hop.2 hb0
            have H0 : 0 < b32 := by omega
            clear hb0 hop
            rw [hop1] at hy5 ⊢
            simp only at hy5 ⊢
            go_wp2
            go_ret
            exact ⟨rfl, hb6⟩
  · rw [if_neg hl0] at hkd
    have hka : (at_ : Int) % (8 * (s.length : Int) - 32 + 1) = (k : Int) := by
      rw [hkd, show (8 * (s.length : Int) - 32 + 1) = ((8 * l.length + 1 : Nat) : Int) by omega]
      omega
    clear hkd
    have hgt : (32 : Int) < 8 * (s.length : Int) := by omega
    go_wp2_with fail
    rw [hka]
    go_loopw [13] (fun i wr => ∃ m : Nat, ∃ L, m ≤ 5 ∧ p + m ≤ s.length ∧ i = .int .u64 m ∧ OB wr w.heap.size As cs L ∧ Below w.heap.size w wr ∧ Hid (L = turned s p b32 j m) ∧ L.length ≤ s.length ∧ s.length ≤ L.length) (fun i _ => 5 - (intOf i).toNat)
    case atStart => exact ⟨0, s, by omega, by omega, rfl, hs3, hb03, by show s = _; rw [turned_zero], Nat.le_refl _, Nat.le_refl _⟩
    case round =>
      obtain ⟨m, L, hm, hpm, rfl, hown, hbr, HL, hL1, hL2⟩ := hrel
      by_cases hgo : m < 5 ∧ p + m < s.length
      · obtain ⟨hm5, hpm2⟩ := hgo
        have hpl2 : p + m < L.length := by omega
        obtain ⟨g, rfl, hg0, hg1', cc, cf⟩ := hown.at hpl2
        have HX := Lib.hid hown; clear hown hs1 hs3
        go_wp2
        go_roundw
        case rel => exact ⟨m + 1, L.set (p + m) (L[p + m] ^^^ burst b32 j m), by omega, by omega, by go_num, HX.out.set (p + m) _ (burst_byte _ _ _ _ _ HV.out), hbr.setCell hg0 _, by show L.set (p + m) _ = _; exact finds_step L s p b32 j m HL.out (by omega) hpl2, by simpa using hL1, by simpa using hL2⟩
        case measure => simp [intOf]; omega
      · have ht4 := ht.below hg hbr
        have hop := finds_open l s L p b32 j m hs.out HL.out hj8 hb32 (by omega)
        have hlc := hown.len
        go_wp2_with fail
        all_goals
          refine (open_callsW wr _ As _ cs L (by omega) ht4 hown.rb hlc (by omega)).mono ?_
          rintro e w5 ⟨Ay, cy, rfl, hy5, hb5⟩
          have hb6 := hbr.trans (hb5.mono hbr.size)
          by_cases hb0 : b32 = 0
          · have hop1 := hop.1 hb0
            have H0 : b32 ≤ 0 := by omega
            clear hb0 hop
            rw [hop1] at hy5 ⊢
            simp only at hy5 ⊢
            have hc5 := run_conv w5 hy5.rb l.length cy rfl
            have hc6 := run_conv w5 (h.below hb6) l.length c rfl
            go_wp2
            go_ret
            exact ⟨rfl, hb6⟩
          · have hop1 := hop.2 hb0
            have H0 : 0 < b32 := by omega
            clear hb0 hop
            rw [hop1] at hy5 ⊢
            simp only at hy5 ⊢
            go_wp2
            go_ret
            exact ⟨rfl, hb6⟩
end Go.Proofs.YtoeebfkdipkgkaaDoor
