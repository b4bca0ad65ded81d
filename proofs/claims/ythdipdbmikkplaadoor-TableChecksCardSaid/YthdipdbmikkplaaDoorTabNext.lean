/- Next. -/
import Derived.Test.YthdipdbmikkplaaDoorTabTurn
namespace Go.Proofs.YthdipdbmikkplaaDoor
open Go.RowKit Nac Nac.Table
def RetNext (w : World) (x : Nat × Bool) (e : Ending) (w' : World) : Prop := e = .returned (.tuple #[.int .u64 (x.1 : Int), .bool x.2]) ∧ Below w.heap.size w w'
theorem tf_place {T : Int} {ws : List Win} (hf : Fit T 0 ws) (p : Int) (r : Nat) : (place ws r < 0 → tf ws p r = false) ∧ (∀ i (h : i < ws.length), place ws r = (i : Int) → tf ws p r = decide (ws[i].part = p)) := by
  constructor
  · intro h
    unfold tf turnB whose
    rw [if_pos h]
    simp; omega
  · intro i h hp
    have hg := fit_get hf i h
    unfold tf turnB whose
    rw [hp, if_neg (by omega)]
    simp only [Int.toNat_natCast, List.getD_eq_getElem?_getD, List.getElem?_eq_getElem h, Option.getD_some]
    by_cases e : ws[i].part = p
    · subst e; simp; omega
    · simp [e]
set_option maxHeartbeats 4000000 in
theorem next_calls (w : World) (T p : Int) (tick : Nat) (htick : tick ≤ 18446744073709551615) (hT : I64 T) (A : Option Addr) (c : Nat) (ws : List Win) (hA : RW w w.heap.size A ws) (h8 : ws.length ≤ 140737488351232) :
    Calls Tryd.prog 12 #[.agg #[.int .i64 T, .slice A ws.length c], .int .i64 p, .int .u64 tick] w (RetNext w (nextP T ws p tick)) := by
  go_enter Tryd.func12, Tryd.ntmps12
  go_wp2_with fail
  obtain ⟨w1, hw1⟩ : ∃ w1, w1 = w.alloc (.cells #[.int .i64 T, .slice A ws.length c] 24) := ⟨_, rfl⟩
  have hb0 : Below w.heap.size w w1 := by rw [hw1]; exact (Below.refl _ _).alloc (Nat.le_refl _) _
  have hx0 : Box w1 w.heap.size [.int .i64 T, .slice A ws.length c] := by rw [hw1]; exact Box.new w _ _
  rw [← hw1]
  clear hw1
  have hA1 := (hA.below hb0).mono hb0.size
  refine (check_calls w1 T hT A c ws hA1 h8).mono ?_
  rintro e w2 ⟨⟨v, rfl, hv⟩, hb2⟩
  have hx2 := hx0.below hb2 hx0.lt
  have HB : Hid (Below w.heap.size w w2) := hb0.trans (hb2.mono hb0.size)
  by_cases hc : check T ws = none
  · obtain rfl := errV_none hv hc
    obtain ⟨t1, t2, t3, hf⟩ := check_none hc
    obtain ⟨t, rfl⟩ : ∃ t : Nat, T = (t : Int) := ⟨T.toNat, by omega⟩
    have HSP : Hid (nextP t ws p tick = nextFrom (tf ws p) t tick t 1) := if_pos hc
    have HF := Lib.hid hf
    have HX := Lib.hid hx2
    clear hv hb2 hb0 hc hx0 hA1 hf hx2
    go_wp2_with fail
    go_loopw [8] (fun s8 wr => ∃ n : Nat, 1 ≤ n ∧ n ≤ t + 1 ∧ s8 = .int .u64 n ∧ Hid (nextP t ws p tick = nextFrom (tf ws p) t tick (t + 1 - n) n) ∧ Hid (Below w.heap.size w wr) ∧ Hid (Box wr w.heap.size [.int .i64 (t : Int), .slice A ws.length c])) (fun s8 _ => 300 - (intOf s8).toNat)
    case atStart => exact ⟨1, by omega, by omega, rfl, HSP, HB, HX⟩
    case round =>
      clear HSP HB HX
      obtain ⟨n, hn1, hn2, rfl, HN, HB, HX⟩ := hrel
      have m0 : wr.cell? ⟨w.heap.size, 0, none⟩ = some (.int .i64 t) := HX.out.cell rfl
      have m1 : wr.cell? ⟨w.heap.size, 1, none⟩ = some (.slice A ws.length c) := HX.out.cell rfl
      by_cases hnt : n ≤ t
      · have hstep : nextFrom (tf ws p) t tick (t + 1 - n) n = if 18446744073709551616 ≤ tick + n then (0, false) else if tf ws p ((tick + n) % t) = true then (tick + n, true) else nextFrom (tf ws p) t tick (t + 1 - (n + 1)) (n + 1) := by
          rw [show t + 1 - n = (t + 1 - (n + 1)) + 1 by omega]; rfl
        rw [hstep] at HN
        by_cases hov : 18446744073709551616 ≤ tick + n
        · have HN' : Hid (nextP t ws p tick = (0, false)) := by have := HN.out; rwa [if_pos hov] at this
          have q1 : IntKind.u64.wrap ((tick : Int) + (n : Int)) = (tick : Int) + n - 18446744073709551616 := by rw [IntKind.wrap_u64]; omega
          have q2 : (tick : Int) + n - 18446744073709551616 < tick := by omega
          clear hstep HN
          go_wp2
          go_ret2
          unfold RetNext
          rw [HN'.out]
          exact ⟨rfl, HB.out⟩
        · obtain ⟨x, hx⟩ : ∃ x, x = tick + n := ⟨_, rfl⟩
          rw [← hx] at hov HN
          obtain ⟨r, hr⟩ : ∃ r, r = x % t := ⟨_, rfl⟩
          have hrt : r < t := by rw [hr]; exact Nat.mod_lt _ (by omega)
          have HN2 : Hid (nextP t ws p tick = if tf ws p r = true then (x, true) else nextFrom (tf ws p) t tick (t + 1 - (n + 1)) (n + 1)) := by rw [hr]; have := HN.out; rwa [if_neg hov] at this
          clear HN hstep
          have q1 : IntKind.u64.wrap ((tick : Int) + (n : Int)) = (x : Int) := by rw [IntKind.wrap_u64]; omega
          have k2 : (x : Int).tmod (t : Int) = (r : Int) := by rw [hr]; rfl
          have k5 : IntKind.u64.wrap (t : Int) = (t : Int) := by rw [IntKind.wrap_u64]; omega
          have k7 : IntKind.u64.wrap (r : Int) = (r : Int) := by rw [IntKind.wrap_u64]; omega
          have k8 : IntKind.i64.wrap (r : Int) = (r : Int) := by rw [IntKind.wrap_i64]; omega
          have k9 : ¬ t = 0 := by omega
          have hno : ¬ (x : Int) < tick := by omega
          have hA2 := hA.below HB.out
          have CB' : Hid (∀ w', Below (w.heap.size + 1) wr w' → w'.cell? ⟨w.heap.size, 0, none⟩ = some (.int .i64 (t : Int))) := fun w' h => (h.cell (p := ⟨w.heap.size, 0, none⟩) (Nat.lt_succ_self _)).trans m0
          have CB1' : Hid (∀ w', Below (w.heap.size + 1) wr w' → w'.cell? ⟨w.heap.size, 1, none⟩ = some (.slice A ws.length c)) := fun w' h => (h.cell (p := ⟨w.heap.size, 1, none⟩) (Nat.lt_succ_self _)).trans m1
          have HA2 : Hid (∀ w', Below (w.heap.size + 1) wr w' → RW w' w'.heap.size A ws) := fun w' h => (hA2.below (h.mono (Nat.le_succ _))).mono (Nat.le_trans HB.out.size h.size)
          have hltw : w.heap.size + 1 ≤ wr.heap.size := HX.out.lt
          obtain ⟨pl, hpl⟩ : ∃ pl, pl = place ws r := ⟨_, rfl⟩
          have HPL := Lib.hid hpl
          have S1' : Hid (∀ (L : Nat → Bool) w', Below (w.heap.size + 1) wr w' → L 7 = false → Calls Tryd.prog 17 #[.agg #[.int .i64 (t : Int), .slice A ws.length c], .int .i64 (r : Int)] w' fun e w'' => ∃ v, e = .returned v ∧ v = .int .i64 pl ∧ Below (w.heap.size + 1) wr w'') :=
            fun L w' h _ => (at_calls w' t r hT ⟨by omega, by omega⟩ A c ws (HA2.out w' h) h8 HF.out t2).mono fun e w'' hh => ⟨_, hh.1, by rw [HPL.out], h.trans (hh.2.mono (Nat.le_trans hltw h.size))⟩
          have hplt := place_lt ws r
          rw [← hpl] at hplt
          have htf := tf_place HF.out p r
          rw [← hpl] at htf
          have HTF := Lib.hid htf
          have K2 := Lib.hid k2
          have K5 := Lib.hid k5
          have K7 := Lib.hid k7
          have K8 := Lib.hid k8
          have K9 := Lib.hid k9
          clear hr hx hpl htf hA2 k2 k5 k7 k8 k9 hov
          go_wp2_with fail
          refine region_vals [.agg #[.int .i64 (t : Int), .slice A ws.length c], .int .u64 (x : Int), .pointer (some ⟨w.heap.size, 0, none⟩), .int .i64 (t : Int), .int .u64 (t : Int), .int .u64 (r : Int), .int .i64 (r : Int), .int .i64 pl, .int .i64 pl] [some 27, some 28, some 29, some 30, some 31, some 32, some 33, some 34, some 10] (fun _ w' => Below (w.heap.size + 1) wr w') (by kernel_rfl) (by kernel_rfl) (by kernel_rfl) rfl rfl (Below.refl _ _).drew (fun i hi => ?_) ?_
          · match i, hi with
            | 0, _ => exact vstep_pure rfl (vwant_none rfl) (fun _ _ h => h) (fun LL aa ww cc => ⟨.agg #[.int .i64 (t : Int), .slice A ws.length c], by have e0 : aa.tmps.getD 3 undef = .pointer (some ⟨w.heap.size, 0, none⟩) := (cc.orig 3 (by kernel_rfl)).trans rfl; have m0 := CB'.out _ cc.world; have m1 := CB1'.out _ cc.world; simp only [execOp, Act.eval, e0]; go_simp, rfl⟩)
            | 1, _ => exact vstep_first rfl (vwant_none rfl) (fun _ _ h => h) 9 (Or.inl rfl) (by kernel_rfl) rfl
            | 2, _ => exact vstep_pure rfl (vwant_none rfl) (fun _ _ h => h) (fun LL aa ww cc => ⟨.pointer (some ⟨w.heap.size, 0, none⟩), by have e0 : aa.tmps.getD 3 undef = .pointer (some ⟨w.heap.size, 0, none⟩) := (cc.orig 3 (by kernel_rfl)).trans rfl; simp only [execOp, Act.eval, e0]; go_simp, rfl⟩)
            | 3, _ => exact vstep_pure rfl (vwant_none rfl) (fun _ _ h => h) (fun LL aa ww cc => ⟨.int .i64 (t : Int), by have e0 : aa.tmps.getD 29 undef = .pointer (some ⟨w.heap.size, 0, none⟩) := cc.slot 2 29 (by kernel_rfl) rfl; have m0 := CB'.out _ cc.world; have m1 := CB1'.out _ cc.world; simp only [execOp, Act.eval, e0]; go_simp, rfl⟩)
            | 4, _ => exact vstep_pure rfl (vwant_none rfl) (fun _ _ h => h) (fun LL aa ww cc => ⟨.int .u64 (t : Int), by have e0 : aa.tmps.getD 30 undef = .int .i64 (t : Int) := cc.slot 3 30 (by kernel_rfl) rfl; have k5 := K5.out; simp only [execOp, Act.eval, e0]; go_simp, rfl⟩)
            | 5, _ => exact vstep_pure rfl (vwant_none rfl) (fun _ _ h => h) (fun LL aa ww cc => ⟨.int .u64 (r : Int), by have e0 : aa.tmps.getD 28 undef = .int .u64 (x : Int) := cc.slot 1 28 (by kernel_rfl) rfl; have e1 : aa.tmps.getD 31 undef = .int .u64 (t : Int) := cc.slot 4 31 (by kernel_rfl) rfl; have k2 := K2.out; have k7 := K7.out; have k9 := K9.out; simp only [execOp, Act.eval, e0, e1]; go_simp, rfl⟩)
            | 6, _ => exact vstep_pure rfl (vwant_none rfl) (fun _ _ h => h) (fun LL aa ww cc => ⟨.int .i64 (r : Int), by have e0 : aa.tmps.getD 32 undef = .int .u64 (r : Int) := cc.slot 5 32 (by kernel_rfl) rfl; have k8 := K8.out; simp only [execOp, Act.eval, e0]; go_simp, rfl⟩)
            | 7, _ => exact vstep_call rfl (vwant_none rfl) _ _ _ rfl (enters_of Tryd.func17 (by kernel_rfl) rfl) (fun LL aa ww cc => by have e0 : aa.tmps.getD 27 undef = .agg #[.int .i64 (t : Int), .slice A ws.length c] := cc.slot 0 27 (by kernel_rfl) rfl; have e1 : aa.tmps.getD 33 undef = .int .i64 (r : Int) := cc.slot 6 33 (by kernel_rfl) rfl; simp only [List.map_toArray, List.map_cons, List.map_nil, Act.eval, e0, e1]; exact (S1'.out) LL ww cc.world cc.fresh)
            | 8, _ => exact vstep_copy rfl (vwant_none rfl) (fun _ _ h => h) 34 (Or.inr rfl) 7 (by kernel_rfl) rfl (fun _ h => h)
            | n + 9, h => exact absurd h (by show ¬ (n + 9 < 9); omega)
          · intro L w5 hall hJ
            have hJ' : Below (w.heap.size + 1) wr w5 := hJ
            have HB5 : Hid (Below w.heap.size w w5) := HB.out.trans (hJ'.mono (Nat.le_succ _))
            have HX5 : Hid (Box w5 w.heap.size [.int .i64 (t : Int), .slice A ws.length c]) := HX.out.below hJ' (Nat.lt_succ_self _)
            have n0 := CB'.out w5 hJ'
            have n1 := CB1'.out w5 hJ'
            have hA5 := hA.below HB5.out
            clear hJ hall hJ' S1' CB' CB1' HA2 HX HB m0 m1 K2 K5 K7 K8 K9
            refine (by assumption : ∀ (a : Act) (w : World), Code.wp _ _ _ a w → _) _ _ ?_
            simp only [List.zip_cons_cons, List.zip_nil_right, putsL]
            by_cases hneg : pl < 0
            · have e0 := HTF.out.1 hneg
              have HN3 : Hid (nextP t ws p tick = nextFrom (tf ws p) t tick (t + 1 - (n + 1)) (n + 1)) := by have := HN2.out; rwa [e0, if_neg (by simp)] at this
              clear HN2 HTF HPL e0 hA5
              have hnd : decide (0 ≤ pl) = false := decide_eq_false (by omega)
              go_simp
              go_wp2
              go_roundw
              case rel => exact ⟨n + 1, by omega, by omega, by go_num, HN3, HB5, HX5⟩
              case measure => simp [intOf]; omega
            · obtain ⟨i, rfl⟩ : ∃ i : Nat, pl = (i : Int) := ⟨pl.toNat, by omega⟩
              have hil : i < ws.length := by omega
              obtain ⟨b, o, rfl, hb, c0, c1, c2, hw⟩ := hA5.get hil
              have e0 := HTF.out.2 i hil rfl
              obtain ⟨q, hq⟩ : ∃ q, q = ws[i].part := ⟨_, rfl⟩
              rw [← hq] at c0 e0
              clear hq hw c1 c2 hA5 HTF HPL
              by_cases hqp : q = p
              · have HN3 : Hid (nextP t ws p tick = (x, true)) := by have := HN2.out; rwa [e0, decide_eq_true hqp, if_pos rfl] at this
                clear HN2 e0
                subst hqp
                go_simp
                go_wp2
                go_ret2
                unfold RetNext
                rw [HN3.out]
                exact ⟨rfl, HB5.out⟩
              · have HN3 : Hid (nextP t ws p tick = nextFrom (tf ws p) t tick (t + 1 - (n + 1)) (n + 1)) := by have := HN2.out; rwa [e0, decide_eq_false hqp, if_neg (by simp)] at this
                clear HN2 e0
                have hqb : (q == p) = false := by simpa using hqp
                go_simp
                go_wp2
                go_roundw
                case rel => exact ⟨n + 1, by omega, by omega, by go_num, HN3, HB5, HX5⟩
                case measure => simp [intOf]; omega
      · have HN' : Hid (nextP t ws p tick = (0, false)) := by have := HN.out; rwa [show t + 1 - n = 0 by omega] at this
        clear HN
        have hgt : ¬ (n : Int) ≤ t := by omega
        have q1 : IntKind.u64.wrap (t : Int) = (t : Int) := by rw [IntKind.wrap_u64]; omega
        go_wp2
        go_ret2
        unfold RetNext
        rw [HN'.out]
        exact ⟨rfl, HB.out⟩
  · have HSP : Hid (nextP T ws p tick = (0, false)) := if_neg hc
    obtain ⟨q, rfl⟩ := errV_some hv hc
    clear hv hb2 hb0 hc hx0 hA1 hx2
    go_wp2
    go_ret2
    unfold RetNext
    rw [HSP.out]
    exact ⟨rfl, HB.out⟩
end Go.Proofs.YthdipdbmikkplaaDoor
