/- awake: the chapter's examples. -/
import Derived.Test.YtdjphdkoljfndaaPortNew
import Derived.Test.YtdjphdkoljfndaaConv
import Derived.Lib.SlBytesConst
namespace Go.Proofs.Ytdjphdkoljfndaa
open Go.RowKit Nac
def chOf (k m s : Nat) : Ch := ⟨k, m, s, 0, []⟩
theorem chOf_ok (k m s : Nat) (h : NewOk k m s) : (chOf k m s).ok := by
  unfold NewOk at h
  exact ⟨by show k ≤ 2; omega, by show 1 ≤ m; omega, by show m ≤ 16; omega, fun e => by show m = 1; have : k = 0 := e; omega, by show s ≤ 64; omega, by show 0 ≤ _; omega, by show 0 ≤ m; omega, fun m hm => by cases hm⟩
theorem send_lit (W : World) (b : Nat) (C : Ch) (f : Nat) (x : UInt8) (z : Int) (hz : z = (x.toNat : Int)) (now : Nat) (hC : C.ok) (hf : f < 16) (h : Blk W b (ccells C f)) :
    Calls Try.prog 10 #[.pointer (some ⟨b, 0, none⟩), .slice (some ⟨W.heap.size, 0, none⟩) 1 1, .int .u64 now] (W.alloc (.cells #[.int .u8 z] 5 (1, 2))) fun e w' => e = .returned (.int .i64 (C.send [x] now).2) ∧ (∃ f', f' < 16 ∧ Blk w' b (ccells (C.send [x] now).1 f')) ∧ W.grownBy w' (some b) := by
  subst hz
  have hlt := h.lt
  refine (send_calls _ (W.heap.size + 1) b C f _ 1 [x] now hC hf (h.alloc _) (fun _ => ⟨W.heap.size, 0, rfl, by omega, fun j hj => ?_⟩) (by simp) (.inr (by simp; omega)) (by simp)).mono ?_
  · obtain rfl : j = 0 := by simp at hj; exact hj
    rw [cell_of_row _ W.heap.size (0 + 0) _ 5 (1, 2) (heap_alloc_new W _)]
    rfl
  · rintro e w' ⟨h1, h2, h3⟩
    exact ⟨h1, h2, (World.grownBy_alloc W _ _).trans h3⟩
set_option maxHeartbeats 4000000 in
theorem awake_calls (w : World) : Calls Try.prog 8 #[] w fun e w' => e = .returned (.bool true) ∧ Below w.heap.size w w' := by
  have kc := fun (w : World) (C : Array Value) (n c : Nat) => Lib.run_convert_bytes_const (P := Try.prog) w 30 5 C n c Try.underlying30 Try.underlying5
  have KC := Lib.hid kc; clear kc
  go_enter Try.func8, Try.ntmps8
  go_wp2_with fail
  refine (new_ok w 1 1 8 (by unfold NewOk; omega)).mono ?_
  rintro e w1 ⟨rfl, hq1, hg1⟩
  go_wp2_with fail
  refine (new_ok w1 2 1 8 (by unfold NewOk; omega)).mono ?_
  rintro e w2 ⟨rfl, hd2, hg2⟩
  go_wp2_with fail
  refine (new_ok w2 0 1 8 (by unfold NewOk; omega)).mono ?_
  rintro e w3 ⟨rfl, hs3, hg3⟩
  obtain ⟨bq, hbq⟩ : ∃ bq, Hid (bq = w.heap.size) := ⟨_, rfl⟩
  obtain ⟨bd, hbd⟩ : ∃ bd, Hid (bd = w1.heap.size) := ⟨_, rfl⟩
  obtain ⟨bs, hbs⟩ : ∃ bs, Hid (bs = w2.heap.size) := ⟨_, rfl⟩
  have z1 := hg1.size
  have z2 := hg2.size
  have z3 := hg3.size
  have l1 := hq1.lt
  have l2 := hd2.lt
  have l3 := hs3.lt
  have x1 : bq < bd := by have := hbq.out; have := hbd.out; omega
  have x2 : bd < bs := by have := hbs.out; have := hbd.out; omega
  have x3 : bs < w3.heap.size := by have := hbs.out; omega
  have b0 : Below w.heap.size w w3 := (((Below.refl _ w).grown hg1 (Nat.le_refl _) (fun k e => by cases e)).grown hg2 z1 (fun k e => by cases e)).grown hg3 (Nat.le_trans z1 z2) (fun k e => by cases e)
  have hd3 := hd2.grown hg3 (by simp)
  have hq3 := (hq1.grown hg2 (by simp)).grown hg3 (by simp)
  have y0 : w.heap.size ≤ bq := by have := hbq.out; omega
  rw [← hbq.out] at hq3 ⊢
  rw [← hbd.out] at hd3 ⊢
  rw [← hbs.out] at hs3 ⊢
  have HB := Lib.hid b0; clear b0
  have Hq : Hid (∃ f, f < 16 ∧ Blk w3 bq (ccells ⟨1, 1, 8, 0, []⟩ f)) := ⟨0, by decide, hq3⟩
  have Hd : Hid (∃ f, f < 16 ∧ Blk w3 bd (ccells ⟨2, 1, 8, 0, []⟩ f)) := ⟨0, by decide, hd3⟩
  have Hs : Hid (∃ f, f < 16 ∧ Blk w3 bs (ccells ⟨0, 1, 8, 0, []⟩ f)) := ⟨0, by decide, hs3⟩
  clear hq1 hd2 hs3 hq3 hd3 hg1 hg2 hg3 z1 z2 z3 l1 l2 l3 hbq hbd hbs
  have kc := KC.out
  go_wp2_with fail
  clear kc
  obtain ⟨fx, hfx, hbx⟩ := Hq.out
  refine (send_lit w3 bq ⟨1, 1, 8, 0, []⟩ fx 97 97 rfl 1 (by constructor <;> simp) hfx hbx).mono ?_
  rintro e w4 ⟨rfl, hnew, hgr⟩
  have hse : (⟨1, 1, 8, 0, []⟩ : Ch).send [97] 1 = (⟨1, 1, 8, 0, [⟨[97], 1⟩]⟩, 0) := by decide
  rw [hse] at hnew ⊢
  have HB2 : Hid (Below w.heap.size w w4) := Below.grown HB.out hgr HB.out.size (fun k e => by injection e with e; omega)
  clear HB
  have HB := HB2
  clear HB2
  clear Hq
  have Hq : Hid (∃ f, f < 16 ∧ Blk w4 bq (ccells ⟨1, 1, 8, 0, [⟨[97], 1⟩]⟩ f)) := hnew
  have Hd2 : Hid (∃ f, f < 16 ∧ Blk w4 bd (ccells ⟨2, 1, 8, 0, []⟩ f)) := by obtain ⟨f, h1, h2⟩ := Hd.out; exact ⟨f, h1, h2.grown hgr (fun e => by injection e with e; omega)⟩
  clear Hd
  have Hd := Hd2
  clear Hd2
  have Hs2 : Hid (∃ f, f < 16 ∧ Blk w4 bs (ccells ⟨0, 1, 8, 0, []⟩ f)) := by obtain ⟨f, h1, h2⟩ := Hs.out; exact ⟨f, h1, h2.grown hgr (fun e => by injection e with e; omega)⟩
  clear Hs
  have Hs := Hs2
  clear Hs2
  have xs4 := hgr.size
  have x34 : bs < w4.heap.size := by omega
  clear hnew hgr hse hbx xs4
  have kc := KC.out
  go_wp2_with fail
  clear kc
  obtain ⟨fx, hfx, hbx⟩ := Hq.out
  refine (send_lit w4 bq ⟨1, 1, 8, 0, [⟨[97], 1⟩]⟩ fx 98 98 rfl 1 (by constructor <;> simp) hfx hbx).mono ?_
  rintro e w5 ⟨rfl, hnew, hgr⟩
  have hse : (⟨1, 1, 8, 0, [⟨[97], 1⟩]⟩ : Ch).send [98] 1 = (⟨1, 1, 8, 0, [⟨[97], 1⟩]⟩, 5) := by decide
  rw [hse] at hnew ⊢
  have HB2 : Hid (Below w.heap.size w w5) := Below.grown HB.out hgr HB.out.size (fun k e => by injection e with e; omega)
  clear HB
  have HB := HB2
  clear HB2
  clear Hq
  have Hq : Hid (∃ f, f < 16 ∧ Blk w5 bq (ccells ⟨1, 1, 8, 0, [⟨[97], 1⟩]⟩ f)) := hnew
  have Hd2 : Hid (∃ f, f < 16 ∧ Blk w5 bd (ccells ⟨2, 1, 8, 0, []⟩ f)) := by obtain ⟨f, h1, h2⟩ := Hd.out; exact ⟨f, h1, h2.grown hgr (fun e => by injection e with e; omega)⟩
  clear Hd
  have Hd := Hd2
  clear Hd2
  have Hs2 : Hid (∃ f, f < 16 ∧ Blk w5 bs (ccells ⟨0, 1, 8, 0, []⟩ f)) := by obtain ⟨f, h1, h2⟩ := Hs.out; exact ⟨f, h1, h2.grown hgr (fun e => by injection e with e; omega)⟩
  clear Hs
  have Hs := Hs2
  clear Hs2
  have xs5 := hgr.size
  have x35 : bs < w5.heap.size := by omega
  clear hnew hgr hse hbx xs5
  have kc := KC.out
  go_wp2_with fail
  clear kc
  obtain ⟨fx, hfx, hbx⟩ := Hd.out
  refine (send_lit w5 bd ⟨2, 1, 8, 0, []⟩ fx 97 97 rfl 1 (by constructor <;> simp) hfx hbx).mono ?_
  rintro e w6 ⟨rfl, hnew, hgr⟩
  have hse : (⟨2, 1, 8, 0, []⟩ : Ch).send [97] 1 = (⟨2, 1, 8, 0, [⟨[97], 1⟩]⟩, 0) := by decide
  rw [hse] at hnew ⊢
  have HB2 : Hid (Below w.heap.size w w6) := Below.grown HB.out hgr HB.out.size (fun k e => by injection e with e; omega)
  clear HB
  have HB := HB2
  clear HB2
  have Hq2 : Hid (∃ f, f < 16 ∧ Blk w6 bq (ccells ⟨1, 1, 8, 0, [⟨[97], 1⟩]⟩ f)) := by obtain ⟨f, h1, h2⟩ := Hq.out; exact ⟨f, h1, h2.grown hgr (fun e => by injection e with e; omega)⟩
  clear Hq
  have Hq := Hq2
  clear Hq2
  clear Hd
  have Hd : Hid (∃ f, f < 16 ∧ Blk w6 bd (ccells ⟨2, 1, 8, 0, [⟨[97], 1⟩]⟩ f)) := hnew
  have Hs2 : Hid (∃ f, f < 16 ∧ Blk w6 bs (ccells ⟨0, 1, 8, 0, []⟩ f)) := by obtain ⟨f, h1, h2⟩ := Hs.out; exact ⟨f, h1, h2.grown hgr (fun e => by injection e with e; omega)⟩
  clear Hs
  have Hs := Hs2
  clear Hs2
  have xs6 := hgr.size
  have x36 : bs < w6.heap.size := by omega
  clear hnew hgr hse hbx xs6
  have kc := KC.out
  go_wp2_with fail
  clear kc
  obtain ⟨fx, hfx, hbx⟩ := Hd.out
  refine (send_lit w6 bd ⟨2, 1, 8, 0, [⟨[97], 1⟩]⟩ fx 98 98 rfl 1 (by constructor <;> simp) hfx hbx).mono ?_
  rintro e w7 ⟨rfl, hnew, hgr⟩
  have hse : (⟨2, 1, 8, 0, [⟨[97], 1⟩]⟩ : Ch).send [98] 1 = (⟨2, 1, 8, 1, [⟨[97], 1⟩]⟩, 0) := by decide
  rw [hse] at hnew ⊢
  have HB2 : Hid (Below w.heap.size w w7) := Below.grown HB.out hgr HB.out.size (fun k e => by injection e with e; omega)
  clear HB
  have HB := HB2
  clear HB2
  have Hq2 : Hid (∃ f, f < 16 ∧ Blk w7 bq (ccells ⟨1, 1, 8, 0, [⟨[97], 1⟩]⟩ f)) := by obtain ⟨f, h1, h2⟩ := Hq.out; exact ⟨f, h1, h2.grown hgr (fun e => by injection e with e; omega)⟩
  clear Hq
  have Hq := Hq2
  clear Hq2
  clear Hd
  have Hd : Hid (∃ f, f < 16 ∧ Blk w7 bd (ccells ⟨2, 1, 8, 1, [⟨[97], 1⟩]⟩ f)) := hnew
  have Hs2 : Hid (∃ f, f < 16 ∧ Blk w7 bs (ccells ⟨0, 1, 8, 0, []⟩ f)) := by obtain ⟨f, h1, h2⟩ := Hs.out; exact ⟨f, h1, h2.grown hgr (fun e => by injection e with e; omega)⟩
  clear Hs
  have Hs := Hs2
  clear Hs2
  have xs7 := hgr.size
  have x37 : bs < w7.heap.size := by omega
  clear hnew hgr hse hbx xs7
  have kc := KC.out
  go_wp2_with fail
  clear kc
  obtain ⟨fx, hfx, hbx⟩ := Hs.out
  refine (send_lit w7 bs ⟨0, 1, 8, 0, []⟩ fx 97 97 rfl 5 (by constructor <;> simp) hfx hbx).mono ?_
  rintro e w8 ⟨rfl, hnew, hgr⟩
  have hse : (⟨0, 1, 8, 0, []⟩ : Ch).send [97] 5 = (⟨0, 1, 8, 0, [⟨[97], 5⟩]⟩, 0) := by decide
  rw [hse] at hnew ⊢
  have HB2 : Hid (Below w.heap.size w w8) := Below.grown HB.out hgr HB.out.size (fun k e => by injection e with e; omega)
  clear HB
  have HB := HB2
  clear HB2
  have Hq2 : Hid (∃ f, f < 16 ∧ Blk w8 bq (ccells ⟨1, 1, 8, 0, [⟨[97], 1⟩]⟩ f)) := by obtain ⟨f, h1, h2⟩ := Hq.out; exact ⟨f, h1, h2.grown hgr (fun e => by injection e with e; omega)⟩
  clear Hq
  have Hq := Hq2
  clear Hq2
  have Hd2 : Hid (∃ f, f < 16 ∧ Blk w8 bd (ccells ⟨2, 1, 8, 1, [⟨[97], 1⟩]⟩ f)) := by obtain ⟨f, h1, h2⟩ := Hd.out; exact ⟨f, h1, h2.grown hgr (fun e => by injection e with e; omega)⟩
  clear Hd
  have Hd := Hd2
  clear Hd2
  clear Hs
  have Hs : Hid (∃ f, f < 16 ∧ Blk w8 bs (ccells ⟨0, 1, 8, 0, [⟨[97], 5⟩]⟩ f)) := hnew
  have xs8 := hgr.size
  have x38 : bs < w8.heap.size := by omega
  clear hnew hgr hse hbx xs8
  go_wp2_with fail
  obtain ⟨fx, hfx, hbx⟩ := Hs.out
  refine (recv_calls w8 bs ⟨0, 1, 8, 0, [⟨[97], 5⟩]⟩ fx 9 (by constructor <;> simp) hfx hbx (by decide)).mono ?_
  rintro e w9 ⟨Ax, cx, rfl, hox, hnew, hgr⟩
  have hse : (⟨0, 1, 8, 0, [⟨[97], 5⟩]⟩ : Ch).recv 9 = (⟨0, 1, 8, 0, [⟨[97], 5⟩]⟩, [97], 4, 0) := by decide
  rw [hse] at hnew hox ⊢
  simp only at hnew hox ⊢
  have HB2 : Hid (Below w.heap.size w w9) := Below.grown HB.out hgr HB.out.size (fun k e => by injection e with e; omega)
  clear HB
  have HB := HB2
  clear HB2
  have Hq2 : Hid (∃ f, f < 16 ∧ Blk w9 bq (ccells ⟨1, 1, 8, 0, [⟨[97], 1⟩]⟩ f)) := by obtain ⟨f, h1, h2⟩ := Hq.out; exact ⟨f, h1, h2.grown hgr (fun e => by injection e with e; omega)⟩
  clear Hq
  have Hq := Hq2
  clear Hq2
  have Hd2 : Hid (∃ f, f < 16 ∧ Blk w9 bd (ccells ⟨2, 1, 8, 1, [⟨[97], 1⟩]⟩ f)) := by obtain ⟨f, h1, h2⟩ := Hd.out; exact ⟨f, h1, h2.grown hgr (fun e => by injection e with e; omega)⟩
  clear Hd
  have Hd := Hd2
  clear Hd2
  clear Hs
  have Hs : Hid (∃ f, f < 16 ∧ Blk w9 bs (ccells ⟨0, 1, 8, 0, [⟨[97], 5⟩]⟩ f)) := hnew
  have xs9 := hgr.size
  have x39 : bs < w9.heap.size := by omega
  clear hnew hgr hse hbx xs9
  go_wp2_with fail
  obtain ⟨fx, hfx, hbx⟩ := Hs.out
  refine (recv_calls w9 bs ⟨0, 1, 8, 0, [⟨[97], 5⟩]⟩ fx 9 (by constructor <;> simp) hfx hbx (by decide)).mono ?_
  rintro e w10 ⟨Ax, cx, rfl, hox, hnew, hgr⟩
  have hse : (⟨0, 1, 8, 0, [⟨[97], 5⟩]⟩ : Ch).recv 9 = (⟨0, 1, 8, 0, [⟨[97], 5⟩]⟩, [97], 4, 0) := by decide
  rw [hse] at hnew hox ⊢
  simp only at hnew hox ⊢
  have HB2 : Hid (Below w.heap.size w w10) := Below.grown HB.out hgr HB.out.size (fun k e => by injection e with e; omega)
  clear HB
  have HB := HB2
  clear HB2
  have Hq2 : Hid (∃ f, f < 16 ∧ Blk w10 bq (ccells ⟨1, 1, 8, 0, [⟨[97], 1⟩]⟩ f)) := by obtain ⟨f, h1, h2⟩ := Hq.out; exact ⟨f, h1, h2.grown hgr (fun e => by injection e with e; omega)⟩
  clear Hq
  have Hq := Hq2
  clear Hq2
  have Hd2 : Hid (∃ f, f < 16 ∧ Blk w10 bd (ccells ⟨2, 1, 8, 1, [⟨[97], 1⟩]⟩ f)) := by obtain ⟨f, h1, h2⟩ := Hd.out; exact ⟨f, h1, h2.grown hgr (fun e => by injection e with e; omega)⟩
  clear Hd
  have Hd := Hd2
  clear Hd2
  clear Hs
  have Hs : Hid (∃ f, f < 16 ∧ Blk w10 bs (ccells ⟨0, 1, 8, 0, [⟨[97], 5⟩]⟩ f)) := hnew
  have xs10 := hgr.size
  have x310 : bs < w10.heap.size := by omega
  clear hnew hgr hse hbx xs10
  obtain ⟨f1, _, hb1⟩ := Hq.out
  obtain ⟨f2, _, hb2⟩ := Hd.out
  have c1 : w10.cell? ⟨bq, 0, none⟩ = some (.int .i64 1) := hb1.cell rfl
  have c2 : w10.cell? ⟨bd, 5, none⟩ = some (.int .u64 1) := hb2.cell rfl
  have e1 := run_conv w10 hox.rb 1 cx rfl
  have e3 : ((strB [97]).toList == [97]) = true := by rw [strB_toList]; rfl
  clear hb1 hb2
  go_wp2_with (first
    | (go_at_call 18; refine (lost_calls w10 bd _ c2).mono ?_; rintro e w' ⟨rfl, rfl⟩)
    | (go_at_call 11; refine (kind_calls w10 bq _ c1).mono ?_; rintro e w' ⟨rfl, rfl⟩))
  go_ret
  exact ⟨rfl, HB.out⟩
end Go.Proofs.Ytdjphdkoljfndaa
