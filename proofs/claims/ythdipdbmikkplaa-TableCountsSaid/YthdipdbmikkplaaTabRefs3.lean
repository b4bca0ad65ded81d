/- The document's Next. -/
import Derived.Test.YthdipdbmikkplaaTabRefs2
namespace Go.Proofs.Ythdipdbmikkplaa
open Go.RowKit Nac Nac.Table
set_option maxHeartbeats 4000000 in
theorem rnext_calls (w : World) (T p : Int) (tick : Nat) (htick : tick ≤ 18446744073709551615) (A : Option Addr) (c : Nat) (ws : List Win) (hA : RW w w.heap.size A ws) (hck : check T ws = none) :
    Calls Try.prog 16 #[.agg #[.int .i64 T, .slice A ws.length c], .int .i64 p, .int .u64 tick] w (RetNext w (nextP T ws p tick)) := by
  obtain ⟨t1, t2, t3, hf⟩ := check_none hck
  have HCK := Lib.hid hck
  clear hf hck
  go_enter Try.func16, Try.ntmps16
  go_wp2_with fail
  obtain ⟨w1, hw1⟩ : ∃ w1, w1 = w.alloc (.cells #[.int .i64 T, .slice A ws.length c] 24) := ⟨_, rfl⟩
  have R1 : TbR w T A ws.length c ws w1 := by
    have hb : Below w.heap.size w w1 := by rw [hw1]; exact (Below.refl _ _).alloc (Nat.le_refl _) _
    exact ⟨hb, by rw [hw1]; exact Box.new w _ _, (hA.below hb).mono hb.size, rfl⟩
  rw [← hw1]
  clear hw1
  refine (places_calls w1 T A c ws R1.rw HCK.out).mono ?_
  rintro e w2 ⟨A3, c3, rfl, h3, hb2⟩
  have HR : Hid (TbR w T A ws.length c ws w2) := R1.next hb2
  have HL := Lib.hid h3
  have HSP : Hid (nextP T ws p tick = nextFrom (tf ws p) T.toNat tick T.toNat 1) := if_pos HCK.out
  clear R1 hb2 h3
  go_wp2_with fail
  go_loopw [2, 9] (fun s2 s9 wr => ∃ (k x : Nat), k ≤ T.toNat ∧ s9 = .int .i64 k ∧ s2 = .int .u64 x ∧ x ≤ 18446744073709551615 ∧ Hid (x = tick + k) ∧ Hid (nextP T ws p tick = nextFrom (tf ws p) T.toNat tick (T.toNat - k) (k + 1)) ∧ Hid (TbR w T A ws.length c ws wr) ∧ Hid (RI wr wr.heap.size A3 (plL ws T.toNat))) (fun _ s9 _ => 300 - (intOf s9).toNat)
  case atStart => exact ⟨0, tick, by omega, rfl, rfl, htick, rfl, HSP, HR, HL⟩
  case round =>
    clear HR HL HSP
    obtain ⟨k, y, hk, rfl, rfl, hy, HY, HN, HR, HL⟩ := hrel
    have c0 := HR.out.c0
    have c1 := HR.out.c1
    by_cases hkT : k < T.toNat
    · have hstep : nextFrom (tf ws p) T.toNat tick (T.toNat - k) (k + 1) = if 18446744073709551616 ≤ tick + (k + 1) then (0, false) else if tf ws p ((tick + (k + 1)) % T.toNat) = true then (tick + (k + 1), true) else nextFrom (tf ws p) T.toNat tick (T.toNat - (k + 1)) (k + 1 + 1) := by
        rw [show T.toNat - k = (T.toNat - (k + 1)) + 1 by omega]; rfl
      rw [hstep] at HN
      clear hstep
      by_cases hov : y = 18446744073709551615
      · have HN' : Hid (nextP T ws p tick = (0, false)) := Lib.hid <| by
          have := HN.out
          rwa [if_pos (by have := HY.out; omega)] at this
        have e0 : ((y : Int) == 18446744073709551615) = true := by rw [hov]; rfl
        have e1 : (y : Int) = 18446744073709551615 := by omega
        clear HN hov
        go_wp2
        go_ret2
        unfold RetNext
        rw [HN'.out]
        exact ⟨rfl, HR.out.bel⟩
      · obtain ⟨x, hx⟩ : ∃ x, x = tick + (k + 1) := ⟨_, rfl⟩
        have hx1 : x = y + 1 := by have := HY.out; omega
        have hxm : x ≤ 18446744073709551615 := by omega
        rw [← hx] at HN
        obtain ⟨r, hr⟩ : ∃ r, r = x % T.toNat := ⟨_, rfl⟩
        have hrt : r < T.toNat := by rw [hr]; exact Nat.mod_lt _ (by omega)
        have HN2 : Hid (nextP T ws p tick = if tf ws p r = true then (x, true) else nextFrom (tf ws p) T.toNat tick (T.toNat - (k + 1)) (k + 1 + 1)) := Lib.hid <| by
          have := HN.out
          rwa [if_neg (by omega), ← hr] at this
        have e0 : ((y : Int) == 18446744073709551615) = false := by rw [beq_eq_false_iff_ne]; omega
        have e1 : ¬ (y : Int) = 18446744073709551615 := by omega
        have k0 : IntKind.u64.wrap ((y : Int) + 1) = (x : Int) := by rw [IntKind.wrap_u64]; omega
        have hrT : (r : Int) = (x : Int) % T := by
          rw [hr]
          have : T = (T.toNat : Int) := by omega
          rw [this]; rfl
        have K1 : Hid (IntKind.u64.wrap T = T) := Lib.hid <| by rw [IntKind.wrap_u64]; omega
        have K2 : Hid ((x : Int).tmod T = (r : Int)) := Lib.hid <| by rw [Int.tmod_eq_emod_of_nonneg (by omega)]; exact hrT.symm
        have K3 : Hid (IntKind.u64.wrap (r : Int) = (r : Int)) := Lib.hid <| by rw [IntKind.wrap_u64]; omega
        have K4 : Hid (¬ T = 0) := Lib.hid <| by omega
        have K5 : Hid ((T == 0) = false) := Lib.hid <| by rw [beq_eq_false_iff_ne]; omega
        have K6 : Hid (IntKind.i64.wrap (r : Int) = (r : Int)) := Lib.hid <| by rw [IntKind.wrap_i64]; omega
        have HX := Lib.hid hx
        have ST : Hid (∀ (L : Nat → Bool) w', (TbR w T A ws.length c ws w' ∧ RI w' w'.heap.size A3 (plL ws T.toNat)) → L 9 = false → Calls Try.prog 23 #[.agg #[.int .i64 T, .slice A ws.length c], .slice A3 T.toNat c3, .int .i64 p, .int .i64 (r : Int)] w' fun e w'' => ∃ v, e = .returned v ∧ v = .bool (tf ws p r) ∧ (TbR w T A ws.length c ws w'' ∧ RI w'' w''.heap.size A3 (plL ws T.toNat))) :=
          fun L w' h _ => (rturn_calls w' T p A c ws h.1.rw HCK.out T.toNat A3 c3 h.2 (by omega) r hrt).mono fun e w'' hh => ⟨_, hh.1, rfl, h.1.next hh.2, (h.2.below hh.2).mono hh.2.size⟩
        have hJ0 : TbR w T A ws.length c ws wr.drew ∧ RI wr.drew wr.drew.heap.size A3 (plL ws T.toNat) := ⟨HR.out.drew, HL.out⟩
        clear hov hx hx1 hr hrT HN
        go_wp2_with fail
        clear e0 e1 k0 c0 c1
        refine region_vals [.agg #[.int .i64 T, .slice A ws.length c], .slice A3 T.toNat c3, .int .i64 p, .int .u64 (x : Int), .pointer (some ⟨w.heap.size, 0, none⟩), .int .i64 T, .int .u64 T, .int .u64 (r : Int), .int .i64 (r : Int), .bool (tf ws p r)] [some 22, some 23, some 24, some 25, some 26, some 27, some 28, some 29, some 30, some 31] (fun _ w' => TbR w T A ws.length c ws w' ∧ RI w' w'.heap.size A3 (plL ws T.toNat)) (by kernel_rfl) (by kernel_rfl) (by kernel_rfl) rfl rfl hJ0 (fun ii hii => ?_) ?_
        · match ii, hii with
          | 0, _ => exact vstep_pure rfl (vwant_none rfl) (fun _ _ h => h) (fun LL aa ww cc => ⟨.agg #[.int .i64 T, .slice A ws.length c], by have e0 : aa.tmps.getD 3 undef = .pointer (some ⟨w.heap.size, 0, none⟩) := (cc.orig 3 (by kernel_rfl)).trans rfl; have m0 := cc.world.1.c0; have m1 := cc.world.1.c1; simp only [execOp, Act.eval, e0]; go_simp, rfl⟩)
          | 1, _ => exact vstep_first rfl (vwant_none rfl) (fun _ _ h => h) 8 (Or.inl rfl) (by kernel_rfl) rfl
          | 2, _ => exact vstep_first rfl (vwant_none rfl) (fun _ _ h => h) 1 (Or.inl rfl) (by kernel_rfl) rfl
          | 3, _ => exact vstep_first rfl (vwant_none rfl) (fun _ _ h => h) 2 (Or.inl rfl) (by kernel_rfl) rfl
          | 4, _ => exact vstep_pure rfl (vwant_none rfl) (fun _ _ h => h) (fun LL aa ww cc => ⟨.pointer (some ⟨w.heap.size, 0, none⟩), by have e0 : aa.tmps.getD 3 undef = .pointer (some ⟨w.heap.size, 0, none⟩) := (cc.orig 3 (by kernel_rfl)).trans rfl; simp only [execOp, Act.eval, e0]; go_simp, rfl⟩)
          | 5, _ => exact vstep_pure rfl (vwant_none rfl) (fun _ _ h => h) (fun LL aa ww cc => ⟨.int .i64 T, by have e0 : aa.tmps.getD 26 undef = .pointer (some ⟨w.heap.size, 0, none⟩) := cc.slot 4 26 (by kernel_rfl) rfl; have m0 := cc.world.1.c0; have m1 := cc.world.1.c1; simp only [execOp, Act.eval, e0]; go_simp, rfl⟩)
          | 6, _ => exact vstep_pure rfl (vwant_none rfl) (fun _ _ h => h) (fun LL aa ww cc => ⟨.int .u64 T, by have e0 : aa.tmps.getD 27 undef = .int .i64 T := cc.slot 5 27 (by kernel_rfl) rfl; have k := K1.out; simp only [execOp, Act.eval, e0]; go_simp, rfl⟩)
          | 7, _ => exact vstep_pure rfl (vwant_none rfl) (fun _ _ h => h) (fun LL aa ww cc => ⟨.int .u64 (r : Int), by have e0 : aa.tmps.getD 25 undef = .int .u64 (x : Int) := cc.slot 3 25 (by kernel_rfl) rfl; have e1 : aa.tmps.getD 28 undef = .int .u64 T := cc.slot 6 28 (by kernel_rfl) rfl; have k2 := K2.out; have k3 := K3.out; have k4 := K4.out; have k5 := K5.out; simp only [execOp, Act.eval, e0, e1]; go_simp, rfl⟩)
          | 8, _ => exact vstep_pure rfl (vwant_none rfl) (fun _ _ h => h) (fun LL aa ww cc => ⟨.int .i64 (r : Int), by have e0 : aa.tmps.getD 29 undef = .int .u64 (r : Int) := cc.slot 7 29 (by kernel_rfl) rfl; have k := K6.out; simp only [execOp, Act.eval, e0]; go_simp, rfl⟩)
          | 9, _ => exact vstep_call rfl (vwant_none rfl) _ _ _ rfl (enters_of Try.func23 (by kernel_rfl) rfl) (fun LL aa ww cc => by have e0 : aa.tmps.getD 22 undef = .agg #[.int .i64 T, .slice A ws.length c] := cc.slot 0 22 (by kernel_rfl) rfl; have e1 : aa.tmps.getD 23 undef = .slice A3 T.toNat c3 := cc.slot 1 23 (by kernel_rfl) rfl; have e2 : aa.tmps.getD 24 undef = .int .i64 p := cc.slot 2 24 (by kernel_rfl) rfl; have e3 : aa.tmps.getD 30 undef = .int .i64 (r : Int) := cc.slot 8 30 (by kernel_rfl) rfl; simp only [List.map_toArray, List.map_cons, List.map_nil, Act.eval, e0, e1, e2, e3]; exact (ST.out) LL ww cc.world cc.fresh)
          | n + 10, h => exact absurd h (by show ¬ (n + 10 < 10); omega)
        · intro L0 w6 hall hJ
          have HR6 : Hid (TbR w T A ws.length c ws w6) := hJ.1
          have HL6 : Hid (RI w6 w6.heap.size A3 (plL ws T.toNat)) := hJ.2
          clear hJ hJ0 hall ST HR HL K1 K2 K3 K4 K5 K6
          refine (by assumption : ∀ (a : Act) (w : World), Code.wp _ _ _ a w → _) _ _ ?_
          simp only [List.zip_cons_cons, List.zip_nil_right, putsL]
          by_cases hv : tf ws p r = true
          · have HN3 : Hid (nextP T ws p tick = (x, true)) := Lib.hid <| by have := HN2.out; rwa [if_pos hv] at this
            rw [hv]
            clear HN2 hv
            go_simp
            go_wp2
            go_ret2
            unfold RetNext
            rw [HN3.out]
            exact ⟨rfl, HR6.out.bel⟩
          · have HN3 : Hid (nextP T ws p tick = nextFrom (tf ws p) T.toNat tick (T.toNat - (k + 1)) (k + 1 + 1)) := Lib.hid <| by have := HN2.out; rwa [if_neg hv] at this
            rw [show tf ws p r = false by simpa using hv]
            clear HN2 hv
            go_simp
            go_wp2
            go_roundw
            case rel => exact ⟨k + 1, x, by omega, by go_num, rfl, hxm, HX, HN3, HR6, HL6⟩
            case measure => simp [intOf]; omega
    · have HN' : Hid (nextP T ws p tick = (0, false)) := Lib.hid <| by have := HN.out; rwa [show T.toNat - k = 0 by omega] at this
      clear HN HL
      go_wp2
      go_ret2
      unfold RetNext
      rw [HN'.out]
      exact ⟨rfl, HR.out.bel⟩
end Go.Proofs.Ythdipdbmikkplaa
