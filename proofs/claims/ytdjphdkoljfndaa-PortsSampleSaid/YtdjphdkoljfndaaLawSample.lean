/- The law PortsSample, walked. -/
import Derived.Test.YtdjphdkoljfndaaPortAwake
import Derived.Test.YtdjphdkoljfndaaOpenA
namespace Go.Proofs.Ytdjphdkoljfndaa
open Go.RowKit Nac
def smp (Z : Nat) (q : List Msg) : Ch := ⟨0, 1, Z, 0, q⟩
theorem smp_ok (Z : Nat) (q : List Msg) (hZ : Z ≤ 64) (hq : q = [] ∨ ∃ m, q = [m] ∧ m.b.length ≤ 64 ∧ m.at_ ≤ 18446744073709551615) : (smp Z q).ok := by
  refine ⟨Nat.zero_le _, Nat.le_refl _, by show 1 ≤ 16; omega, fun _ => rfl, hZ, Nat.zero_le _, ?_, ?_⟩
  · show q.length ≤ 1
    rcases hq with rfl | ⟨m, rfl, _⟩ <;> simp
  · intro x hx
    rcases hq with rfl | ⟨m, rfl, h1, h2⟩
    · cases hx
    · simp [smp] at hx; subst hx; exact ⟨h1, h2⟩
/-- what the law remembers of the channel -/
def SmpRel (q : List Msg) (s7 s8 s9 : Value) : Prop :=
  (q = [] ∧ s7 = .string (strB []) ∧ s8 = .int .u64 0 ∧ s9 = .bool false) ∨ ∃ m, q = [m] ∧ m.b.length ≤ 64 ∧ m.at_ ≤ 18446744073709551615 ∧ s7 = .string (strB m.b) ∧ s8 = .int .u64 m.at_ ∧ s9 = .bool true
set_option maxHeartbeats 8000000 in
set_option maxRecDepth 100000 in
theorem sample_calls (w : World) (z : Int) (A : Option Addr) (c : Nat) (xs : List ActP) (hA : RA w w.heap.size A xs) (h8 : xs.length ≤ 140737488351232) :
    Calls Try.prog 5 #[.int .i64 z, .slice A xs.length c] w fun e w' => e = .returned (.bool true) ∧ Below w.heap.size w w' := by
  go_enter Try.func5, Try.ntmps5
  go_wp2_with fail
  by_cases hz : NewOk 0 1 z
  · refine (new_ok w 0 1 z hz).mono ?_
    rintro e w1 ⟨rfl, hb1, hg1⟩
    obtain ⟨Z, hZ⟩ : ∃ Z : Nat, Hid (Z = z.toNat) := ⟨_, rfl⟩
    have hZ64 : Z ≤ 64 := by have := hZ.out; unfold NewOk at hz; omega
    have hb0 : Blk w1 w.heap.size (ccells (smp Z []) 0) := by rw [hZ.out]; exact hb1
    have hbel1 : Below w.heap.size w w1 := (Below.refl _ _).grown hg1 (Nat.le_refl _) (fun k e => by cases e)
    clear hb1 hg1 hz
    go_wp2_with fail
    go_loopw [7, 8, 9, 10] (fun s7 s8 s9 i wr => ∃ (k : Nat) (q : List Msg) (f : Nat), k ≤ xs.length ∧ k ≤ 80 ∧ i = .int .i64 k ∧ f < 16 ∧ Blk wr w.heap.size (ccells (smp Z q) f) ∧ Below w.heap.size w wr ∧ SmpRel q s7 s8 s9) (fun _ _ _ i _ => 80 - (intOf i).toNat)
    case atStart => exact ⟨0, [], 0, by omega, by omega, rfl, by omega, hb0, hbel1, .inl ⟨rfl, rfl, rfl, rfl⟩⟩
    case round =>
      obtain ⟨k, q, f, hk, hk80, rfl, hf, hblk, hbel, hrel'⟩ := hrel
      by_cases hgo : k < xs.length ∧ k < 80
      · obtain ⟨hkl, hk8⟩ := hgo
        obtain ⟨b2, o2, rfl, hb2, c0, c1, c2, hfit⟩ := (hA.below hbel).get hkl
        obtain ⟨x, hx⟩ : ∃ x, x = xs[k] := ⟨_, rfl⟩
        rw [← hx] at c0 c1 c2 hfit
        clear hx
        have hok : (smp Z q).ok := by
          refine smp_ok Z q hZ64 ?_
          rcases hrel' with ⟨h, _⟩ | ⟨m, h, h1, h2, _⟩
          · exact .inl h
          · exact .inr ⟨m, h, h1, h2⟩
        have HREL := Lib.hid hrel'; clear hrel'
        have hsz := hbel.size
        have hbk : w.heap.size < wr.heap.size := hblk.lt
        by_cases hrv : x.recv = true
        · rw [hrv] at c0
          go_wp2_with fail
          have hbl1 := hbel.alloc hsz (.cells #[Value.bool true, .slice x.A x.l.length x.c, .int .u64 x.now] 33)
          have cg : (wr.alloc (.cells #[Value.bool true, .slice x.A x.l.length x.c, .int .u64 x.now] 33)).heap[wr.heap.size]? = some (.cells #[Value.bool true, .slice x.A x.l.length x.c, .int .u64 x.now] 33 (0, 0)) := heap_alloc_new wr _
          refine (recv_calls _ w.heap.size (smp Z q) f x.now hok hf (hblk.alloc _) hfit.now).mono ?_
          rintro e w4 ⟨Ax, cx, rfl, hox, ⟨f', hf', hb4⟩, hg4⟩
          have hbl4 := hbl1.grown hg4 hbl1.size (fun k e => by injection e with e; omega)
          have cg4 : w4.heap[wr.heap.size]? = _ := (hg4.block wr.heap.size (by simp) (fun e => by injection e with e; omega)).trans cg
          have c5 : w4.cell? ⟨wr.heap.size, 2, none⟩ = some (.int .u64 x.now) := by rw [cell_of_row w4 _ 2 _ _ _ cg4]; rfl
          clear cg cg4 hg4 hbl1 hblk c0 c1 c2 hbel
          rcases HREL.out with ⟨rfl, rfl, rfl, rfl⟩ | ⟨m, rfl, hm1, hm2, rfl, rfl, rfl⟩
          · have hse : (smp Z []).recv x.now = (smp Z [], [], 0, 6) := rfl
            rw [hse] at hox hb4 ⊢
            simp only at hox hb4 ⊢
            clear hse
            have HB := Lib.hid hbl4; clear hbl4
            have HK := Lib.hid hb4; clear hb4 hox hok
            go_wp2
            go_roundw
            case rel => exact ⟨k + 1, [], f', by omega, by omega, by go_num, hf', HK.out, HB.out, .inl ⟨rfl, rfl, rfl, rfl⟩⟩
            case measure => simp [intOf]; omega
          · have hse : (smp Z [m]).recv x.now = (smp Z [m], m.b, x.now - m.at_, 0) := rfl
            rw [hse] at hox hb4 ⊢
            simp only at hox hb4 ⊢
            clear hse
            have e1 := run_conv w4 hox.rb m.b.length cx rfl
            have c4 : w4.cell? ⟨w.heap.size, 4, none⟩ = some (.int .i64 1) := hb4.cell rfl
            have HB := Lib.hid hbl4; clear hbl4
            have HK := Lib.hid hb4; clear hb4 hox hok
            obtain ⟨t, ht⟩ : ∃ t : Int, Hid (t = (m.at_ : Int)) := ⟨_, rfl⟩
            obtain ⟨u, hu⟩ : ∃ u : Int, Hid (u = (x.now : Int)) := ⟨_, rfl⟩
            have t0 : 0 ≤ t := by have := ht.out; omega
            have t1 : t ≤ 18446744073709551615 := by have := ht.out; omega
            have u0 : 0 ≤ u := by have := hu.out; omega
            have u1 : u ≤ 18446744073709551615 := by have := hu.out; have := hfit.now; omega
            rw [← hu.out] at c5
            have HF := Lib.hid hfit; clear hfit
            have HM := Lib.hid hm2; clear hm2
            by_cases hlt : m.at_ ≤ x.now
            · have h2 : t ≤ u := by have := ht.out; have := hu.out; omega
              have hage : ((x.now - m.at_ : Nat) : Int) = u - t := by have := ht.out; have := hu.out; omega
              rw [hage, ← ht.out, ← hu.out]
              have HLT := Lib.hid hlt; clear hlt hage
              go_wp2_with (go_at_call 12; refine (waiting_calls w4 w.heap.size _ c4).mono ?_; rintro e w' ⟨rfl, rfl⟩)
              go_goals
              go_roundw
              case rel => exact ⟨k + 1, [m], f', by omega, by omega, by go_num, hf', HK.out, HB.out, .inr ⟨m, rfl, hm1, HM.out, rfl, by rw [ht.out], rfl⟩⟩
              case measure => simp [intOf]; omega
            · have h2 : u < t := by have := ht.out; have := hu.out; omega
              have hage : ((x.now - m.at_ : Nat) : Int) = 0 := by omega
              rw [hage, ← ht.out, ← hu.out]
              have HLT := Lib.hid hlt; clear hlt hage
              go_wp2_with (go_at_call 12; refine (waiting_calls w4 w.heap.size _ c4).mono ?_; rintro e w' ⟨rfl, rfl⟩)
              go_goals
              go_roundw
              case rel => exact ⟨k + 1, [m], f', by omega, by omega, by go_num, hf', HK.out, HB.out, .inr ⟨m, rfl, hm1, HM.out, rfl, by rw [ht.out], rfl⟩⟩
              case measure => simp [intOf]; omega
        · have hrv' : x.recv = false := by simpa using hrv
          rw [hrv'] at c0
          clear hrv hrv'
          go_wp2_with fail
          have hbl1 := hbel.alloc hsz (.cells #[Value.bool false, .slice x.A x.l.length x.c, .int .u64 x.now] 33)
          have cg : (wr.alloc (.cells #[Value.bool false, .slice x.A x.l.length x.c, .int .u64 x.now] 33)).heap[wr.heap.size]? = some (.cells #[Value.bool false, .slice x.A x.l.length x.c, .int .u64 x.now] 33 (0, 0)) := heap_alloc_new wr _
          have hrb1 := hfit.rb.below ((Below.refl w.heap.size wr).alloc hsz (.cells #[Value.bool false, .slice x.A x.l.length x.c, .int .u64 x.now] 33))
          refine (send_calls _ w.heap.size w.heap.size (smp Z q) f x.A x.c x.l x.now hok hf (hblk.alloc _) hrb1 hbl1.size (.inl (Nat.le_refl _)) hfit.len).mono ?_
          rintro e w4 ⟨rfl, ⟨f', hf', hb4⟩, hg4⟩
          have hbl4 := hbl1.grown hg4 hbl1.size (fun k e => by injection e with e; omega)
          have cg4 : w4.heap[wr.heap.size]? = _ := (hg4.block wr.heap.size (by simp) (fun e => by injection e with e; omega)).trans cg
          have c5 : w4.cell? ⟨wr.heap.size, 2, none⟩ = some (.int .u64 x.now) := by rw [cell_of_row w4 _ 2 _ _ _ cg4]; rfl
          have c6 : w4.cell? ⟨wr.heap.size, 1, none⟩ = some (.slice x.A x.l.length x.c) := by rw [cell_of_row w4 _ 1 _ _ _ cg4]; rfl
          have hrb4 : RB w4.drew w.heap.size x.A x.l := hrb1.grown (grown_drew hg4) hbl1.size (fun k e => by injection e with e; omega)
          have e1 := run_conv w4.drew hrb4 x.l.length x.c rfl
          clear cg cg4 hg4 hbl1 hblk c0 c1 c2 hbel hrb1 hrb4
          have HB := Lib.hid hbl4; clear hbl4
          have HF := Lib.hid hfit; clear hfit
          by_cases hlong : Z < x.l.length
          · have hse : (smp Z q).send x.l x.now = (smp Z q, 1) := by unfold Ch.send; rw [if_pos (show (smp Z q).size < x.l.length from hlong)]
            rw [hse] at hb4 ⊢
            have HK := Lib.hid hb4; clear hb4 hse hok
            go_wp2
            go_roundw
            case rel => exact ⟨k + 1, q, f', by omega, by omega, by go_num, hf', HK.out, HB.out, HREL.out⟩
            case measure => simp [intOf]; omega
          · have hse : (smp Z q).send x.l x.now = (smp Z [⟨x.l, x.now⟩], 0) := by
              unfold Ch.send
              rw [if_neg (show ¬ (smp Z q).size < x.l.length from hlong)]
              rcases HREL.out with ⟨rfl, _⟩ | ⟨m, rfl, _⟩
              · rfl
              · rfl
            rw [hse] at hb4 ⊢
            have hl64 : x.l.length ≤ 64 := by omega
            have HK := Lib.hid hb4; clear hb4 hse hok
            go_wp2
            go_region
            all_goals
              go_wp2
              go_roundw
              case rel => exact ⟨k + 1, [⟨x.l, x.now⟩], f', by omega, by omega, by go_num, hf', HK.out, HB.out.drew, .inr ⟨_, rfl, hl64, HF.out.now, rfl, rfl, rfl⟩⟩
              case measure => simp [intOf]; omega
      · obtain hgo | hgo : xs.length ≤ k ∨ 80 ≤ k := by omega
        all_goals
          go_wp2_with fail
        all_goals
          refine (awake_calls wr).mono ?_
          rintro e w3 ⟨rfl, hb3⟩
          go_wp2
          go_ret
          exact ⟨rfl, hbel.trans (hb3.mono hbel.size)⟩
  · refine (new_bad w 0 1 z hz).mono ?_
    rintro e w1 ⟨rfl, rfl⟩
    have hz' : z < 0 ∨ 64 < z := by unfold NewOk at hz; omega
    clear hz
    rcases hz' with hz | hz
    all_goals
      go_wp2_with fail
      refine (awake_calls w).mono ?_
      rintro e w3 ⟨rfl, hb3⟩
      go_wp2
      go_ret
      exact ⟨rfl, hb3⟩
end Go.Proofs.Ytdjphdkoljfndaa
