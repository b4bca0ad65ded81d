/- The law CrcLies, walked. -/
import Derived.Test.YtoeebfkdipkgkaaDoorCrcOver
import Derived.Test.YtoeebfkdipkgkaaDoorCrcAwake
import Derived.Test.YtoeebfkdipkgkaaDoorSliceB
namespace Go.Proofs.YtoeebfkdipkgkaaDoor
open Go.RowKit Nac Nac.Crc
theorem lies_plain (a b c : List UInt8) : of (x3 a b c) = of (a.take (x3 a b c).length) ^^^ of (b.take (x3 a b c).length) ^^^ of (c.take (x3 a b c).length) := by
  have hl := x3_length a b c
  obtain ⟨n, hn⟩ : ∃ n, n = (x3 a b c).length := ⟨_, rfl⟩
  rw [← hn] at hl ⊢
  have e : x3 a b c = List.zipWith (· ^^^ ·) (List.zipWith (· ^^^ ·) (a.take n) (b.take n)) (c.take n) := by
    rw [← List.take_zipWith, ← List.take_zipWith]
    exact (List.take_of_length_le (by rw [hn]; exact Nat.le_refl _)).symm
  have la : (a.take n).length = n := by simp; omega
  have lb : (b.take n).length = n := by simp; omega
  have lc : (c.take n).length = n := by simp; omega
  rw [e]
  generalize a.take n = x at *
  generalize b.take n = y at *
  generalize c.take n = z at *
  unfold of on
  have h1 := reg_xor x y (~~~ 0#32) (~~~ 0#32) (by omega)
  have h2 := reg_xor (List.zipWith (· ^^^ ·) x y) z (~~~ 0#32 ^^^ ~~~ 0#32) (~~~ 0#32) (by simp; omega)
  rw [h1] at h2
  have h3 : ((~~~ 0#32 ^^^ ~~~ 0#32) ^^^ ~~~ 0#32 : W32) = ~~~ 0#32 := by decide
  rw [h3] at h2
  rw [h2]
  generalize reg (~~~ 0#32) x = p
  generalize reg (~~~ 0#32) y = q
  generalize reg (~~~ 0#32) z = r
  apply BitVec.eq_of_getLsbD_eq
  intro i hi
  simp [hi]
set_option maxHeartbeats 4000000 in
theorem lies_calls (w : World) (Aa Ab Ac : Option Addr) (ca cb cc : Nat) (a b c : List UInt8) (ht : Nib w) (hg : 0 < w.heap.size) (ha : RB w w.heap.size Aa a) (hb : RB w w.heap.size Ab b) (hc : RB w w.heap.size Ac c)
    (la : a.length ≤ ca) (lb : b.length ≤ cb) (lc : c.length ≤ cc) (ha8 : a.length ≤ 140737488351232) (hb8 : b.length ≤ 140737488351232) (hc8 : c.length ≤ 140737488351232) :
    Calls Tryd.prog 6 #[.slice Aa a.length ca, .slice Ab b.length cb, .slice Ac c.length cc] w fun e w' => e = .returned (.bool true) ∧ Below w.heap.size w w' := by
  go_enter Tryd.func6, Tryd.ntmps6
  go_wp2_with fail
  refine (over_calls w Aa Ab Ac ca cb cc a b c ha hb hc ha8 hb8 hc8).mono ?_
  rintro e w2 ⟨Ax, cx, rfl, hown, hbel⟩
  have hlen := x3_length a b c
  have hpl := lies_plain a b c
  obtain ⟨x, hx⟩ : ∃ x, Hid (x = x3 a b c) := ⟨_, rfl⟩
  rw [← hx.out] at hown hlen hpl ⊢
  have na : x.length ≤ a.length := by omega
  have nb : x.length ≤ b.length := by omega
  have nc : x.length ≤ c.length := by omega
  have x8 : x.length ≤ 140737488351232 := by omega
  clear hlen
  obtain ⟨ta, Ha⟩ : ∃ t, Hid (t = a.take x.length) := ⟨_, rfl⟩
  obtain ⟨tb, Hb⟩ : ∃ t, Hid (t = b.take x.length) := ⟨_, rfl⟩
  obtain ⟨tc, Hc⟩ : ∃ t, Hid (t = c.take x.length) := ⟨_, rfl⟩
  rw [← Ha.out, ← Hb.out, ← Hc.out] at hpl
  obtain ⟨ra, Ra⟩ : ∃ t, Hid (t = of ta) := ⟨_, rfl⟩
  obtain ⟨rb, Rb⟩ : ∃ t, Hid (t = of tb) := ⟨_, rfl⟩
  obtain ⟨rc, Rc⟩ : ∃ t, Hid (t = of tc) := ⟨_, rfl⟩
  rw [← Ra.out, ← Rb.out, ← Rc.out] at hpl
  have HP := Lib.hid hpl; clear hpl
  have d0 : RB w2.drew w2.drew.heap.size Ax x := hown.rb
  have d1 : RB w2.drew w2.drew.heap.size Aa a := (ha.below hbel).mono hbel.size
  have d2 : RB w2.drew w2.drew.heap.size Ab b := (hb.below hbel).mono hbel.size
  have d3 : RB w2.drew w2.drew.heap.size Ac c := (hc.below hbel).mono hbel.size
  have d4 : Nib w2.drew := ht.below hg hbel.drew
  have d5 : 0 < w2.drew.heap.size := Nat.lt_of_lt_of_le hg hbel.size
  have lx := hown.len
  clear hown
  go_wp2_with fail
  have F0 : ∀ w', Below w2.drew.heap.size w2.drew w' → RByc x (.slice Ax x.length cx) w' := fun w' hb => rbyc_mono _ _ w2.drew w' ⟨Ax, cx, rfl, lx, d0⟩ hb
  have F1 : ∀ w', Below w2.drew.heap.size w2.drew w' → RByc a (.slice Aa a.length ca) w' := fun w' hb => rbyc_mono _ _ w2.drew w' ⟨Aa, ca, rfl, la, d1⟩ hb
  have F2 : ∀ w', Below w2.drew.heap.size w2.drew w' → RByc b (.slice Ab b.length cb) w' := fun w' hb => rbyc_mono _ _ w2.drew w' ⟨Ab, cb, rfl, lb, d2⟩ hb
  have F3 : ∀ w', Below w2.drew.heap.size w2.drew w' → RByc c (.slice Ac c.length cc) w' := fun w' hb => rbyc_mono _ _ w2.drew w' ⟨Ac, cc, rfl, lc, d3⟩ hb
  have G : ∀ (t : List UInt8) (r : W32), r = of t → t.length ≤ 140737488351232 → ∀ v w', Below w2.drew.heap.size w2.drew w' → RBy t v w' → Calls Tryd.prog 12 #[v] w' fun e w'' => ∃ v, e = .returned v ∧ v = .int .u32 (r.toNat : Int) ∧ Below w'.heap.size w' w'' := by
    rintro t r hr h8 v w' hb ⟨A', c', rfl, h2⟩
    refine (of_calls w' _ A' c' t (d4.below d5 hb) h2 h8).mono ?_
    rintro e w'' ⟨rfl, rfl⟩
    exact ⟨_, rfl, by rw [hr], Below.refl _ _⟩
  have G0 : ∀ v w', Below w2.drew.heap.size w2.drew w' → RByc x v w' → Calls Tryd.prog 12 #[v] w' fun e w'' => ∃ v, e = .returned v ∧ v = .int .u32 ((ra ^^^ rb ^^^ rc).toNat : Int) ∧ Below w'.heap.size w' w'' :=
    fun v w' hb ⟨A', c', h1, _, h3⟩ => G x _ HP.out.symm x8 v w' hb ⟨A', c', h1, h3⟩
  have G1 := G ta ra Ra.out (by rw [Ha.out]; simp; omega)
  have G2 := G tb rb Rb.out (by rw [Hb.out]; simp; omega)
  have G3 := G tc rc Rc.out (by rw [Hc.out]; simp; omega)
  let D : Nat → VD := fun i => ([.is (.bool true), .is (.bool true), byc x, .is (.int .u32 ((ra ^^^ rb ^^^ rc).toNat : Int)), byc a, .is (.int .i64 x.length), byt ta, .is (.int .u32 (ra.toNat : Int)), byc b, .is (.int .i64 x.length), byt tb, .is (.int .u32 (rb.toNat : Int)), .is (.int .u32 ((ra ^^^ rb).toNat : Int)), byc c, .is (.int .i64 x.length), byt tc, .is (.int .u32 (rc.toNat : Int)), .is (.int .u32 ((ra ^^^ rb ^^^ rc).toNat : Int)), .is (.bool true), .is (.bool true), .is (.bool true)] : List VD).getD i (.is undef)
  refine region_mono D (by kernel_rfl) (by kernel_rfl) (by kernel_rfl) (fun i hi => ?_) ?_
  · match i, hi with
    | 0, _ => exact mstep_call0 rfl (mwant_none rfl) _ _ rfl (enters_of Tryd.func9 (by kernel_rfl) rfl) (fun w hb => (awake_calls w (d4.below d5 hb) (Nat.lt_of_lt_of_le d5 hb.size)).mono (fun e w' h => ⟨_, h.1, rfl, h.2⟩))
    | 1, _ => exact mstep_copy rfl (mwant_none rfl) 15 (Or.inl rfl) 0 (by kernel_rfl) rfl rfl
    | 2, _ => exact mstep_first rfl (mwant 1 true 16 rfl (by kernel_rfl) rfl rfl (by kernel_rfl)) 7 (Or.inl rfl) (by kernel_rfl) (fun w hb => F0 w hb)
    | 3, _ => exact mstep_call1 rfl (mwant 1 true 16 rfl (by kernel_rfl) rfl rfl (by kernel_rfl)) _ 17 _ rfl (enters_of Tryd.func12 (by kernel_rfl) rfl) 2 (by kernel_rfl) rfl (G0)
    | 4, _ => exact mstep_first rfl (mwant 1 true 16 rfl (by kernel_rfl) rfl rfl (by kernel_rfl)) 0 (Or.inl rfl) (by kernel_rfl) (fun w hb => F1 w hb)
    | 5, _ => exact mstep_first rfl (mwant 1 true 16 rfl (by kernel_rfl) rfl rfl (by kernel_rfl)) 8 (Or.inl rfl) (by kernel_rfl) (fun w hb => rfl)
    | 6, _ => exact mstep_cutto rfl (mwant 1 true 16 rfl (by kernel_rfl) rfl rfl (by kernel_rfl)) 19 20 rfl 4 5 (by kernel_rfl) (by kernel_rfl) rfl rfl _ _ _ rfl rfl na Ha.out rfl
    | 7, _ => exact mstep_call1 rfl (mwant 1 true 16 rfl (by kernel_rfl) rfl rfl (by kernel_rfl)) _ 21 _ rfl (enters_of Tryd.func12 (by kernel_rfl) rfl) 6 (by kernel_rfl) rfl (G1)
    | 8, _ => exact mstep_first rfl (mwant 1 true 16 rfl (by kernel_rfl) rfl rfl (by kernel_rfl)) 1 (Or.inl rfl) (by kernel_rfl) (fun w hb => F2 w hb)
    | 9, _ => exact mstep_first rfl (mwant 1 true 16 rfl (by kernel_rfl) rfl rfl (by kernel_rfl)) 8 (Or.inl rfl) (by kernel_rfl) (fun w hb => rfl)
    | 10, _ => exact mstep_cutto rfl (mwant 1 true 16 rfl (by kernel_rfl) rfl rfl (by kernel_rfl)) 23 24 rfl 8 9 (by kernel_rfl) (by kernel_rfl) rfl rfl _ _ _ rfl rfl nb Hb.out rfl
    | 11, _ => exact mstep_call1 rfl (mwant 1 true 16 rfl (by kernel_rfl) rfl rfl (by kernel_rfl)) _ 25 _ rfl (enters_of Tryd.func12 (by kernel_rfl) rfl) 10 (by kernel_rfl) rfl (G2)
    | 12, _ => exact mstep_bin rfl (mwant 1 true 16 rfl (by kernel_rfl) rfl rfl (by kernel_rfl)) _ _ _ 22 26 rfl 7 11 (by kernel_rfl) (by kernel_rfl) rfl rfl _ _ _ rfl rfl rfl (fun w => by have := xor32 ra rb; go_simp)
    | 13, _ => exact mstep_first rfl (mwant 1 true 16 rfl (by kernel_rfl) rfl rfl (by kernel_rfl)) 2 (Or.inl rfl) (by kernel_rfl) (fun w hb => F3 w hb)
    | 14, _ => exact mstep_first rfl (mwant 1 true 16 rfl (by kernel_rfl) rfl rfl (by kernel_rfl)) 8 (Or.inl rfl) (by kernel_rfl) (fun w hb => rfl)
    | 15, _ => exact mstep_cutto rfl (mwant 1 true 16 rfl (by kernel_rfl) rfl rfl (by kernel_rfl)) 28 29 rfl 13 14 (by kernel_rfl) (by kernel_rfl) rfl rfl _ _ _ rfl rfl nc Hc.out rfl
    | 16, _ => exact mstep_call1 rfl (mwant 1 true 16 rfl (by kernel_rfl) rfl rfl (by kernel_rfl)) _ 30 _ rfl (enters_of Tryd.func12 (by kernel_rfl) rfl) 15 (by kernel_rfl) rfl (G3)
    | 17, _ => exact mstep_bin rfl (mwant 1 true 16 rfl (by kernel_rfl) rfl rfl (by kernel_rfl)) _ _ _ 27 31 rfl 12 16 (by kernel_rfl) (by kernel_rfl) rfl rfl _ _ _ rfl rfl rfl (fun w => by have h := xor32 (ra ^^^ rb) rc; simp only [BitVec.toNat_xor] at h; go_simp)
    | 18, _ => exact mstep_bin rfl (mwant 1 true 16 rfl (by kernel_rfl) rfl rfl (by kernel_rfl)) _ _ _ 18 32 rfl 3 17 (by kernel_rfl) (by kernel_rfl) rfl rfl _ _ _ rfl rfl rfl (fun w => by go_simp)
    | 19, _ => exact mstep_pick rfl (mwant_none rfl) 16 33 _ rfl 1 18 (by kernel_rfl) (by kernel_rfl) rfl rfl rfl rfl
    | 20, _ => exact mstep_copy rfl (mwant_none rfl) 34 (Or.inr rfl) 19 (by kernel_rfl) rfl rfl
    | n + 21, h => exact absurd h (by show ¬ (n + 21 < 21); omega)
  · intro a w' hb hde _ hok _
    have hv : a.tmps.getD 6 undef = .bool true := hok 20 6 rfl
    refine (by assumption : ∀ (a : Act) (w : World), Code.wp _ Code.ret _ a w → _) _ _ (wp_ret (bodyPost_ret (results_tmp rfl _ _ _) hde ?_))
    rw [hv]
    exact ⟨rfl, hbel.trans (hb.mono hbel.size)⟩
end Go.Proofs.YtoeebfkdipkgkaaDoor
