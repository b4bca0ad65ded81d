/- Share, Turns, Next. -/
import Derived.Test.YthdipdbmikkplaaDoorTabWin
import Derived.Test.YthdipdbmikkplaaDoorVal
namespace Go.Proofs.YthdipdbmikkplaaDoor
open Go.RowKit Nac Nac.Table
/-- is a place of the frame a turn of p? -/
def tf (ws : List Win) (p : Int) (k : Nat) : Bool := turnB ws p k
def shareP (T : Int) (ws : List Win) (p : Int) : Nat := if check T ws = none then cnt (tf ws p) T.toNat else 0
def turnsP (T : Int) (ws : List Win) (p : Int) (tick : Nat) : Nat := if check T ws = none then G T.toNat (tf ws p) tick else 0
def nextP (T : Int) (ws : List Win) (p : Int) (tick : Nat) : Nat × Bool := if check T ws = none then nextFrom (tf ws p) T.toNat tick T.toNat 1 else (0, false)
theorem below_tf {T : Int} {ws : List Win} (hf : Fit T 0 ws) (p : Int) (n : Nat) : belowI ws p n = (cnt (tf ws p) n : Nat) := below_cnt hf p n
set_option maxHeartbeats 2000000 in
theorem share_calls (w : World) (T p : Int) (hT : I64 T) (A : Option Addr) (c : Nat) (ws : List Win) (hA : RW w w.heap.size A ws) (h8 : ws.length ≤ 140737488351232) :
    Calls Tryd.prog 14 #[.agg #[.int .i64 T, .slice A ws.length c], .int .i64 p] w fun e w' => e = .returned (.int .i64 (shareP T ws p)) ∧ Below w.heap.size w w' := by
  go_enter Tryd.func14, Tryd.ntmps14
  go_wp2_with fail
  obtain ⟨w1, hw1⟩ : ∃ w1, w1 = w.alloc (.cells #[.int .i64 T, .slice A ws.length c] 24) := ⟨_, rfl⟩
  have hb0 : Below w.heap.size w w1 := by rw [hw1]; exact (Below.refl _ _).alloc (Nat.le_refl _) _
  have hx0 : Box w1 w.heap.size [.int .i64 T, .slice A ws.length c] := by rw [hw1]; exact Box.new w _ _
  rw [← hw1]
  clear hw1
  have hA1 := (hA.below hb0).mono hb0.size
  refine (check_calls w1 T hT A c ws hA1 h8).mono ?_
  rintro e w2 ⟨⟨v, rfl, hv⟩, hb2⟩
  have hx2 := hx0.below hb2 hx0.lt
  have HB : Hid (Below w.heap.size w w2) := hb0.trans (hb2.mono hb0.size)
  have m0 : w2.cell? ⟨w.heap.size, 0, none⟩ = some (.int .i64 T) := hx2.cell rfl
  have m1 : w2.cell? ⟨w.heap.size, 1, none⟩ = some (.slice A ws.length c) := hx2.cell rfl
  have hA2 := (hA1.below hb2).mono hb2.size
  by_cases hc : check T ws = none
  · have hsp : shareP T ws p = cnt (tf ws p) T.toNat := if_pos hc
    obtain rfl := errV_none hv hc
    obtain ⟨t1, t2, t3, hf⟩ := check_none hc
    have hs : belowI ws p T = (cnt (tf ws p) T.toNat : Nat) := by
      have := below_tf hf p T.toNat
      rwa [Int.toNat_of_nonneg (by omega)] at this
    have hs2 := cnt_le (tf ws p) T.toNat
    have hcalls := fun w' hA' => below_calls w' T p T (by omega) t2 A c ws hA' t3 hf
    rw [hs] at hcalls
    obtain ⟨s, hse⟩ : ∃ s, s = cnt (tf ws p) T.toNat := ⟨_, rfl⟩
    rw [← hse] at hs2 hcalls hsp
    have HSP := Lib.hid hsp; clear hsp
    have hs3 : s ≤ 256 := by omega
    clear hv hb2 hb0 hc hx0 hA1 hf hs hse hs2 hx2
    have HC := Lib.hid hcalls; clear hcalls
    go_wp2_with fail
    refine (HC.out w2 hA2).mono ?_
    rintro e w3 ⟨rfl, hb3⟩
    have HB3 : Hid (Below w.heap.size w w3) := HB.out.trans (hb3.mono HB.out.size)
    clear hb3 HC hA2
    go_wp2
    go_ret
    rw [HSP.out]
    exact ⟨rfl, HB3.out⟩
  · have HSP : Hid (shareP T ws p = 0) := if_neg hc
    obtain ⟨q, rfl⟩ := errV_some hv hc
    clear hv hb2 hb0 hc hx0 hA1 hx2 hA2
    go_wp2
    go_ret
    rw [HSP.out]
    exact ⟨rfl, HB.out⟩
set_option maxHeartbeats 4000000 in
theorem turns_calls (w : World) (T p : Int) (tick : Nat) (htick : tick ≤ 18446744073709551615) (hT : I64 T) (A : Option Addr) (c : Nat) (ws : List Win) (hA : RW w w.heap.size A ws) (h8 : ws.length ≤ 140737488351232) :
    Calls Tryd.prog 15 #[.agg #[.int .i64 T, .slice A ws.length c], .int .i64 p, .int .u64 tick] w fun e w' => e = .returned (.int .u64 (turnsP T ws p tick)) ∧ Below w.heap.size w w' := by
  go_enter Tryd.func15, Tryd.ntmps15
  go_wp2_with fail
  obtain ⟨w1, hw1⟩ : ∃ w1, w1 = w.alloc (.cells #[.int .i64 T, .slice A ws.length c] 24) := ⟨_, rfl⟩
  have hb0 : Below w.heap.size w w1 := by rw [hw1]; exact (Below.refl _ _).alloc (Nat.le_refl _) _
  have hx0 : Box w1 w.heap.size [.int .i64 T, .slice A ws.length c] := by rw [hw1]; exact Box.new w _ _
  rw [← hw1]
  clear hw1
  have hA1 := (hA.below hb0).mono hb0.size
  refine (check_calls w1 T hT A c ws hA1 h8).mono ?_
  rintro e w2 ⟨⟨v, rfl, hv⟩, hb2⟩
  have hx2 := hx0.below hb2 hx0.lt
  have HB : Hid (Below w.heap.size w w2) := hb0.trans (hb2.mono hb0.size)
  have m0 : w2.cell? ⟨w.heap.size, 0, none⟩ = some (.int .i64 T) := hx2.cell rfl
  have m1 : w2.cell? ⟨w.heap.size, 1, none⟩ = some (.slice A ws.length c) := hx2.cell rfl
  have hA2 := (hA1.below hb2).mono hb2.size
  by_cases hc : check T ws = none
  · have hsp : turnsP T ws p tick = G T.toNat (tf ws p) tick := if_pos hc
    obtain rfl := errV_none hv hc
    obtain ⟨t1, t2, t3, hf⟩ := check_none hc
    obtain ⟨t, rfl⟩ : ∃ t : Nat, T = (t : Int) := ⟨T.toNat, by omega⟩
    have hs := below_tf hf p t
    have hs2 := cnt_le (tf ws p) t
    have hr := below_tf hf p (tick % t)
    have hr2 := cnt_le (tf ws p) (tick % t)
    have hm := Nat.mod_lt tick (show 0 < t by omega)
    have hc1 := fun w' hA' => below_calls w' t p t (by omega) t2 A c ws hA' t3 hf
    have hc2 := fun w' hA' => below_calls w' t p ((tick % t : Nat) : Int) (by omega) (by omega) A c ws hA' t3 hf
    rw [hs] at hc1
    rw [hr] at hc2
    have hG : G t (tf ws p) tick = tick / t * cnt (tf ws p) t + cnt (tf ws p) (tick % t) := rfl
    have hGl := G_le t (tf ws p) tick
    rw [show ((t : Int)).toNat = t from rfl] at hsp
    obtain ⟨s, hse⟩ : ∃ s, s = cnt (tf ws p) t := ⟨_, rfl⟩
    obtain ⟨b, hbe⟩ : ∃ b, b = cnt (tf ws p) (tick % t) := ⟨_, rfl⟩
    obtain ⟨r, hre⟩ : ∃ r, r = tick % t := ⟨_, rfl⟩
    obtain ⟨q, hqe⟩ : ∃ q, q = tick / t := ⟨_, rfl⟩
    obtain ⟨m, hme⟩ : ∃ m, m = q * s := ⟨_, rfl⟩
    obtain ⟨g, hge⟩ : ∃ g, g = G t (tf ws p) tick := ⟨_, rfl⟩
    rw [← hse] at hc1 hG hs2
    rw [← hbe] at hc2 hG hr2
    rw [← hre] at hc2 hm hr2
    rw [← hqe, ← hme] at hG
    rw [← hge] at hG hGl hsp
    have HSP := Lib.hid hsp; clear hsp
    have k1 : (tick : Int).tdiv (t : Int) = (q : Int) := by rw [hqe]; rfl
    have k2 : (tick : Int).tmod (t : Int) = (r : Int) := by rw [hre]; rfl
    have k3 : IntKind.u64.wrap ((q : Int) * (s : Int)) = (m : Int) := by
      rw [hme, ← Int.natCast_mul, ← hme, IntKind.wrap_u64]; omega
    have k4 : IntKind.u64.wrap ((m : Int) + (b : Int)) = (g : Int) := by rw [IntKind.wrap_u64]; omega
    have k5 : IntKind.u64.wrap (t : Int) = (t : Int) := by rw [IntKind.wrap_u64]; omega
    have k6 : IntKind.u64.wrap (q : Int) = (q : Int) := by
      rw [IntKind.wrap_u64]
      have : q ≤ tick := by rw [hqe]; exact Nat.div_le_self _ _
      omega
    have k7 : IntKind.u64.wrap (r : Int) = (r : Int) := by rw [IntKind.wrap_u64]; omega
    have k8 : IntKind.i64.wrap (r : Int) = (r : Int) := by rw [IntKind.wrap_i64]; omega
    have k9 : ¬ ((t : Int) = 0) := by omega
    have k10 : ((t : Int) == 0) = false := by simpa using k9
    have hg9 : g ≤ 18446744073709551615 := by omega
    have hlt2 : w.heap.size + 1 ≤ w2.heap.size := hx2.lt
    have HA : Hid (RW w2.drew w2.drew.heap.size A ws) := hA2
    have HC1 := Lib.hid hc1
    have HC2 := Lib.hid hc2
    clear hv hb2 hb0 hc hx0 hA1 hf hs hr hse hbe hre hqe hme hge hs2 hr2 hm hG hGl hx2 hA2 hc1 hc2
    go_wp2_with fail
    have hA3 : RW w2 w.heap.size A ws := hA.below HB.out
    have CB : ∀ w', Below (w.heap.size + 1) w2 w' → w'.cell? ⟨w.heap.size, 0, none⟩ = some (.int .i64 (t : Int)) := fun w' h => (h.cell (p := ⟨w.heap.size, 0, none⟩) (Nat.lt_succ_self _)).trans m0
    have CB1 : ∀ w', Below (w.heap.size + 1) w2 w' → w'.cell? ⟨w.heap.size, 1, none⟩ = some (.slice A ws.length c) := fun w' h => (h.cell (p := ⟨w.heap.size, 1, none⟩) (Nat.lt_succ_self _)).trans m1
    have RA : ∀ w', Below (w.heap.size + 1) w2 w' → RW w' w'.heap.size A ws := fun w' h => (hA3.below (h.mono (Nat.le_succ _))).mono (Nat.le_trans HB.out.size h.size)
    have S1 : ∀ (L : Nat → Bool) w', Below (w.heap.size + 1) w2 w' → L 7 = false → Calls Tryd.prog 19 #[.agg #[.int .i64 (t : Int), .slice A ws.length c], .int .i64 p, .int .i64 (t : Int)] w' fun e w'' => ∃ v, e = .returned v ∧ v = .int .u64 (s : Int) ∧ Below (w.heap.size + 1) w2 w'' :=
      fun L w' h _ => (HC1.out w' (RA w' h)).mono fun e w'' hh => ⟨_, hh.1, rfl, h.trans (hh.2.mono (Nat.le_trans hlt2 h.size))⟩
    have S2 : ∀ (L : Nat → Bool) w', Below (w.heap.size + 1) w2 w' → L 15 = false → Calls Tryd.prog 19 #[.agg #[.int .i64 (t : Int), .slice A ws.length c], .int .i64 p, .int .i64 (r : Int)] w' fun e w'' => ∃ v, e = .returned v ∧ v = .int .u64 (b : Int) ∧ Below (w.heap.size + 1) w2 w'' :=
      fun L w' h _ => (HC2.out w' (RA w' h)).mono fun e w'' hh => ⟨_, hh.1, rfl, h.trans (hh.2.mono (Nat.le_trans hlt2 h.size))⟩
    have K1 := Lib.hid k1
    have K2 := Lib.hid k2
    have K3 := Lib.hid k3
    have K4 := Lib.hid k4
    have K6 := Lib.hid k6
    have K7 := Lib.hid k7
    have K8 := Lib.hid k8
    have k11 : ¬ t = 0 := by omega
    have K9 := Lib.hid k11
    have CB' := Lib.hid CB
    have CB1' := Lib.hid CB1
    have S1' := Lib.hid S1
    have S2' := Lib.hid S2
    clear k1 k2 k3 k4 k5 k6 k7 k8 k9 k10 k11 CB CB1 S1 S2 RA m0 m1 hA3 HA hT t1 t2 h8 hA
    refine region_vals [.int .u64 tick, .int .u64 (t : Int), .int .u64 (q : Int), .agg #[.int .i64 (t : Int), .slice A ws.length c], .int .i64 p, .pointer (some ⟨w.heap.size, 0, none⟩), .int .i64 (t : Int), .int .u64 (s : Int), .int .u64 (m : Int), .agg #[.int .i64 (t : Int), .slice A ws.length c], .int .i64 p, .int .u64 tick, .int .u64 (t : Int), .int .u64 (r : Int), .int .i64 (r : Int), .int .u64 (b : Int), .int .u64 (g : Int), .int .u64 (g : Int)] [some 14, some 15, some 16, some 17, some 18, some 19, some 20, some 21, some 22, some 23, some 24, some 25, some 26, some 27, some 28, some 29, some 30, some 6] (fun _ w' => Below (w.heap.size + 1) w2 w') (by kernel_rfl) (by kernel_rfl) (by kernel_rfl) rfl rfl (Below.refl _ _).drew (fun i hi => ?_) ?_
    · match i, hi with
      | 0, _ => exact vstep_first rfl (vwant_none rfl) (fun _ _ h => h) 2 (Or.inl rfl) (by kernel_rfl) rfl
      | 1, _ => exact vstep_first rfl (vwant_none rfl) (fun _ _ h => h) 7 (Or.inl rfl) (by kernel_rfl) rfl
      | 2, _ => exact vstep_pure rfl (vwant_none rfl) (fun _ _ h => h) (fun LL aa ww cc => ⟨.int .u64 (q : Int), by have e0 : aa.tmps.getD 14 undef = .int .u64 tick := cc.slot 0 14 (by kernel_rfl) rfl; have e1 : aa.tmps.getD 15 undef = .int .u64 (t : Int) := cc.slot 1 15 (by kernel_rfl) rfl; have k1 := K1.out; have k6 := K6.out; have k9 := K9.out; simp only [execOp, Act.eval, e0, e1]; go_simp, rfl⟩)
      | 3, _ => exact vstep_pure rfl (vwant_none rfl) (fun _ _ h => h) (fun LL aa ww cc => ⟨.agg #[.int .i64 (t : Int), .slice A ws.length c], by have e0 : aa.tmps.getD 3 undef = .pointer (some ⟨w.heap.size, 0, none⟩) := (cc.orig 3 (by kernel_rfl)).trans rfl; have m0 := CB'.out _ cc.world; have m1 := CB1'.out _ cc.world; simp only [execOp, Act.eval, e0]; go_simp, rfl⟩)
      | 4, _ => exact vstep_first rfl (vwant_none rfl) (fun _ _ h => h) 1 (Or.inl rfl) (by kernel_rfl) rfl
      | 5, _ => exact vstep_pure rfl (vwant_none rfl) (fun _ _ h => h) (fun LL aa ww cc => ⟨.pointer (some ⟨w.heap.size, 0, none⟩), by have e0 : aa.tmps.getD 3 undef = .pointer (some ⟨w.heap.size, 0, none⟩) := (cc.orig 3 (by kernel_rfl)).trans rfl; simp only [execOp, Act.eval, e0]; go_simp, rfl⟩)
      | 6, _ => exact vstep_pure rfl (vwant_none rfl) (fun _ _ h => h) (fun LL aa ww cc => ⟨.int .i64 (t : Int), by have e0 : aa.tmps.getD 19 undef = .pointer (some ⟨w.heap.size, 0, none⟩) := cc.slot 5 19 (by kernel_rfl) rfl; have m0 := CB'.out _ cc.world; have m1 := CB1'.out _ cc.world; simp only [execOp, Act.eval, e0]; go_simp, rfl⟩)
      | 7, _ => exact vstep_call rfl (vwant_none rfl) _ _ _ rfl (enters_of Tryd.func19 (by kernel_rfl) rfl) (fun LL aa ww cc => by have e0 : aa.tmps.getD 17 undef = .agg #[.int .i64 (t : Int), .slice A ws.length c] := cc.slot 3 17 (by kernel_rfl) rfl; have e1 : aa.tmps.getD 18 undef = .int .i64 p := cc.slot 4 18 (by kernel_rfl) rfl; have e2 : aa.tmps.getD 20 undef = .int .i64 (t : Int) := cc.slot 6 20 (by kernel_rfl) rfl; simp only [List.map_toArray, List.map_cons, List.map_nil, Act.eval, e0, e1, e2]; exact (S1'.out) LL ww cc.world cc.fresh)
      | 8, _ => exact vstep_pure rfl (vwant_none rfl) (fun _ _ h => h) (fun LL aa ww cc => ⟨.int .u64 (m : Int), by have e0 : aa.tmps.getD 16 undef = .int .u64 (q : Int) := cc.slot 2 16 (by kernel_rfl) rfl; have e1 : aa.tmps.getD 21 undef = .int .u64 (s : Int) := cc.slot 7 21 (by kernel_rfl) rfl; have k3 := K3.out; simp only [execOp, Act.eval, e0, e1]; go_simp, rfl⟩)
      | 9, _ => exact vstep_pure rfl (vwant_none rfl) (fun _ _ h => h) (fun LL aa ww cc => ⟨.agg #[.int .i64 (t : Int), .slice A ws.length c], by have e0 : aa.tmps.getD 3 undef = .pointer (some ⟨w.heap.size, 0, none⟩) := (cc.orig 3 (by kernel_rfl)).trans rfl; have m0 := CB'.out _ cc.world; have m1 := CB1'.out _ cc.world; simp only [execOp, Act.eval, e0]; go_simp, rfl⟩)
      | 10, _ => exact vstep_first rfl (vwant_none rfl) (fun _ _ h => h) 1 (Or.inl rfl) (by kernel_rfl) rfl
      | 11, _ => exact vstep_first rfl (vwant_none rfl) (fun _ _ h => h) 2 (Or.inl rfl) (by kernel_rfl) rfl
      | 12, _ => exact vstep_first rfl (vwant_none rfl) (fun _ _ h => h) 7 (Or.inl rfl) (by kernel_rfl) rfl
      | 13, _ => exact vstep_pure rfl (vwant_none rfl) (fun _ _ h => h) (fun LL aa ww cc => ⟨.int .u64 (r : Int), by have e0 : aa.tmps.getD 25 undef = .int .u64 tick := cc.slot 11 25 (by kernel_rfl) rfl; have e1 : aa.tmps.getD 26 undef = .int .u64 (t : Int) := cc.slot 12 26 (by kernel_rfl) rfl; have k2 := K2.out; have k7 := K7.out; have k9 := K9.out; simp only [execOp, Act.eval, e0, e1]; go_simp, rfl⟩)
      | 14, _ => exact vstep_pure rfl (vwant_none rfl) (fun _ _ h => h) (fun LL aa ww cc => ⟨.int .i64 (r : Int), by have e0 : aa.tmps.getD 27 undef = .int .u64 (r : Int) := cc.slot 13 27 (by kernel_rfl) rfl; have k8 := K8.out; simp only [execOp, Act.eval, e0]; go_simp, rfl⟩)
      | 15, _ => exact vstep_call rfl (vwant_none rfl) _ _ _ rfl (enters_of Tryd.func19 (by kernel_rfl) rfl) (fun LL aa ww cc => by have e0 : aa.tmps.getD 23 undef = .agg #[.int .i64 (t : Int), .slice A ws.length c] := cc.slot 9 23 (by kernel_rfl) rfl; have e1 : aa.tmps.getD 24 undef = .int .i64 p := cc.slot 10 24 (by kernel_rfl) rfl; have e2 : aa.tmps.getD 28 undef = .int .i64 (r : Int) := cc.slot 14 28 (by kernel_rfl) rfl; simp only [List.map_toArray, List.map_cons, List.map_nil, Act.eval, e0, e1, e2]; exact (S2'.out) LL ww cc.world cc.fresh)
      | 16, _ => exact vstep_pure rfl (vwant_none rfl) (fun _ _ h => h) (fun LL aa ww cc => ⟨.int .u64 (g : Int), by have e0 : aa.tmps.getD 22 undef = .int .u64 (m : Int) := cc.slot 8 22 (by kernel_rfl) rfl; have e1 : aa.tmps.getD 29 undef = .int .u64 (b : Int) := cc.slot 15 29 (by kernel_rfl) rfl; have k4 := K4.out; simp only [execOp, Act.eval, e0, e1]; go_simp, rfl⟩)
      | 17, _ => exact vstep_copy rfl (vwant_none rfl) (fun _ _ h => h) 30 (Or.inr rfl) 16 (by kernel_rfl) rfl (fun _ h => h)
      | n + 18, h => exact absurd h (by show ¬ (n + 18 < 18); omega)
    · intro L w5 hall hJ
      have HB5 : Hid (Below w.heap.size w w5) := HB.out.trans (hJ.mono (Nat.le_succ _))
      clear hJ hall S1' S2' CB' CB1' HC1 HC2 K1 K2 K3 K4 K6 K7 K8 K9
      refine (by assumption : ∀ (a : Act) (w : World), Code.wp _ _ _ a w → _) _ _ ?_
      simp only [List.zip_cons_cons, List.zip_nil_right, putsL]
      go_simp
      go_wp2
      go_ret
      rw [HSP.out]
      exact ⟨rfl, HB5.out⟩
  · have HSP : Hid (turnsP T ws p tick = 0) := if_neg hc
    obtain ⟨q, rfl⟩ := errV_some hv hc
    clear hv hb2 hb0 hc hx0 hA1 hx2 hA2
    go_wp2
    go_ret
    rw [HSP.out]
    exact ⟨rfl, HB.out⟩
end Go.Proofs.YthdipdbmikkplaaDoor
