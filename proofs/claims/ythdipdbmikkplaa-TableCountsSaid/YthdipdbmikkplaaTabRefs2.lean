/- The document's Share, Turns, Next. -/
import Derived.Test.YthdipdbmikkplaaTabRefs
import Derived.Test.YthdipdbmikkplaaTabLaw
namespace Go.Proofs.Ythdipdbmikkplaa
open Go.RowKit Nac Nac.Table
/-- a value that reads as the places -/
def plVD (ws : List Win) (n : Nat) : VD := .pr (fun v w' => ∃ A3 c3, v = .slice A3 n c3 ∧ RI w' w'.heap.size A3 (plL ws n)) fun _ _ _ ⟨A3, c3, h1, h2⟩ hb => ⟨A3, c3, h1, (h2.below hb).mono hb.size⟩
set_option maxHeartbeats 4000000 in
theorem rshare_calls (w : World) (T p : Int) (A : Option Addr) (c : Nat) (ws : List Win) (hA : RW w w.heap.size A ws) (hck : check T ws = none) :
    Calls Try.prog 14 #[.agg #[.int .i64 T, .slice A ws.length c], .int .i64 p] w fun e w' => e = .returned (.int .i64 (shareP T ws p)) ∧ Below w.heap.size w w' := by
  obtain ⟨t1, t2, t3, hf⟩ := check_none hck
  have HCK := Lib.hid hck
  clear hf hck
  go_enter Try.func14, Try.ntmps14
  go_wp2_with fail
  obtain ⟨w1, hw1⟩ : ∃ w1, w1 = w.alloc (.cells #[.int .i64 T, .slice A ws.length c] 24) := ⟨_, rfl⟩
  have R1 : TbR w T A ws.length c ws w1 := by
    have hb : Below w.heap.size w w1 := by rw [hw1]; exact (Below.refl _ _).alloc (Nat.le_refl _) _
    exact ⟨hb, by rw [hw1]; exact Box.new w _ _, (hA.below hb).mono hb.size, rfl⟩
  rw [← hw1]
  clear hw1
  refine (places_calls w1 T A c ws R1.rw HCK.out).mono ?_
  rintro e w2 ⟨A3, c3, rfl, h3, hb2⟩
  have HR : Hid (TbR w T A ws.length c ws w2) := R1.next hb2
  have HL := Lib.hid h3
  clear R1 hb2 h3
  go_wp2_with fail
  go_loopw [6, 7] (fun s6 s7 wr => ∃ (k n : Nat), k ≤ T.toNat ∧ s7 = .int .i64 k ∧ s6 = .int .i64 n ∧ n ≤ k ∧ Hid (n = cnt (tf ws p) k) ∧ Hid (TbR w T A ws.length c ws wr) ∧ Hid (RI wr wr.heap.size A3 (plL ws T.toNat))) (fun _ s7 _ => 300 - (intOf s7).toNat)
  case atStart => exact ⟨0, 0, by omega, rfl, rfl, by omega, rfl, HR, HL⟩
  case round =>
    clear HR HL
    obtain ⟨k, n, hk, rfl, rfl, hn, HN, HR, HL⟩ := hrel
    have c0 := HR.out.c0
    have c1 := HR.out.c1
    have hT9 : (T.toNat : Int) ≤ 256 := by omega
    by_cases hkT : k < T.toNat
    · have hst : cnt (tf ws p) (k + 1) = n + (if tf ws p k = true then 1 else 0) := by rw [HN.out]; rfl
      have HST := Lib.hid hst
      clear hst
      go_wp2_with fail
      refine (rturn_calls wr T p A c ws HR.out.rw HCK.out T.toNat A3 c3 HL.out (by omega) k hkT).mono ?_
      rintro e w4 ⟨rfl, hb4⟩
      have HR4 : Hid (TbR w T A ws.length c ws w4) := HR.out.next hb4
      have HL4 : Hid (RI w4 w4.heap.size A3 (plL ws T.toNat)) := (HL.out.below hb4).mono hb4.size
      clear HR HL hb4 c0 c1 HN
      by_cases hv : tf ws p k = true
      · have HN2 : Hid (n + 1 = cnt (tf ws p) (k + 1)) := Lib.hid <| by rw [HST.out, if_pos hv]
        rw [hv]
        clear HST hv
        go_wp2
        go_roundw
        case rel => exact ⟨k + 1, n + 1, by omega, by go_num, by go_num, by omega, HN2, HR4, HL4⟩
        case measure => simp [intOf]; omega
      · have HN2 : Hid (n = cnt (tf ws p) (k + 1)) := Lib.hid <| by rw [HST.out, if_neg hv]; rfl
        rw [show tf ws p k = false by simpa using hv]
        clear HST hv
        go_wp2
        go_roundw
        case rel => exact ⟨k + 1, n, by omega, by go_num, rfl, by omega, HN2, HR4, HL4⟩
        case measure => simp [intOf]; omega
    · have HK : Hid (n = shareP T ws p) := Lib.hid <| by
        have h1 : shareP T ws p = cnt (tf ws p) T.toNat := if_pos HCK.out
        rw [h1, HN.out, show k = T.toNat by omega]
      clear HN HL
      go_wp2
      go_ret
      rw [← HK.out]
      exact ⟨rfl, HR.out.bel⟩
set_option maxHeartbeats 4000000 in
theorem rturns_calls (w : World) (T p : Int) (tick : Nat) (htick : tick ≤ 18446744073709551615) (A : Option Addr) (c : Nat) (ws : List Win) (hA : RW w w.heap.size A ws) (hck : check T ws = none) :
    Calls Try.prog 15 #[.agg #[.int .i64 T, .slice A ws.length c], .int .i64 p, .int .u64 tick] w fun e w' => e = .returned (.int .u64 (turnsP T ws p tick)) ∧ Below w.heap.size w w' := by
  obtain ⟨t1, t2, t3, hf⟩ := check_none hck
  have HCK := Lib.hid hck
  clear hf hck
  go_enter Try.func15, Try.ntmps15
  go_wp2_with fail
  obtain ⟨w1, hw1⟩ : ∃ w1, w1 = w.alloc (.cells #[.int .i64 T, .slice A ws.length c] 24) := ⟨_, rfl⟩
  have R1 : TbR w T A ws.length c ws w1 := by
    have hb : Below w.heap.size w w1 := by rw [hw1]; exact (Below.refl _ _).alloc (Nat.le_refl _) _
    exact ⟨hb, by rw [hw1]; exact Box.new w _ _, (hA.below hb).mono hb.size, rfl⟩
  rw [← hw1]
  clear hw1
  have CB : Hid (∀ w', Below w1.drew.heap.size w1.drew w' → w'.cell? ⟨w.heap.size, 0, none⟩ = some (.int .i64 T)) := fun w' h => (R1.drew.next h).c0
  have CB1 : Hid (∀ w', Below w1.drew.heap.size w1.drew w' → w'.cell? ⟨w.heap.size, 1, none⟩ = some (.slice A ws.length c)) := fun w' h => (R1.drew.next h).c1
  have Q1 : Hid (IntKind.u64.wrap T = T) := Lib.hid <| by rw [IntKind.wrap_u64]; omega
  have SP : Hid (∀ w', Below w1.drew.heap.size w1.drew w' → Calls Try.prog 10 #[.agg #[.int .i64 T, .slice A ws.length c]] w' fun e w'' => ∃ v, e = .returned v ∧ (plVD ws T.toNat).ok v w'' ∧ Below w'.heap.size w' w'') :=
    fun w' h => (places_calls w' T A c ws (R1.drew.next h).rw HCK.out).mono fun e w'' ⟨A3, c3, he, h3, hb⟩ => ⟨_, he, ⟨A3, c3, rfl, h3⟩, hb⟩
  have HR1 := Lib.hid R1
  clear R1
  refine region_monos (fun i => ([.is (.agg #[.int .i64 T, .slice A ws.length c]), (plVD ws T.toNat), .is (.pointer (some ⟨w.heap.size, 0, none⟩)), .is (.int .i64 T), .is (.int .u64 T), (plVD ws T.toNat), .is (.int .u64 T)] : List VD).getD i (.is undef)) [some 11, some 12, some 13, some 14, some 15, some 7, some 8] (by kernel_rfl) (by kernel_rfl) (by kernel_rfl) rfl (fun ii hii => ?_) ?_
  · match ii, hii with
    | 0, _ => exact mstep_pure rfl (mwant_none rfl) (fun aa ww cc => ⟨.agg #[.int .i64 T, .slice A ws.length c], by have e0 : aa.tmps.getD 3 undef = .pointer (some ⟨w.heap.size, 0, none⟩) := (cc.orig 3 (by kernel_rfl)).trans rfl; have m0 := CB.out _ cc.below; have m1 := CB1.out _ cc.below; simp only [execOp, Act.eval, e0]; go_simp, rfl⟩)
    | 1, _ => exact mstep_call rfl (mwant_none rfl) _ _ _ rfl (enters_of Try.func10 (by kernel_rfl) rfl) (fun aa ww cc => by have e0 : aa.tmps.getD 11 undef = .agg #[.int .i64 T, .slice A ws.length c] := cc.slot 0 11 (by kernel_rfl) rfl; simp only [List.map_toArray, List.map_cons, List.map_nil, Act.eval, e0]; exact (SP.out) ww cc.below)
    | 2, _ => exact mstep_pure rfl (mwant_none rfl) (fun aa ww cc => ⟨.pointer (some ⟨w.heap.size, 0, none⟩), by have e0 : aa.tmps.getD 3 undef = .pointer (some ⟨w.heap.size, 0, none⟩) := (cc.orig 3 (by kernel_rfl)).trans rfl; simp only [execOp, Act.eval, e0]; go_simp, rfl⟩)
    | 3, _ => exact mstep_pure rfl (mwant_none rfl) (fun aa ww cc => ⟨.int .i64 T, by have e0 : aa.tmps.getD 13 undef = .pointer (some ⟨w.heap.size, 0, none⟩) := cc.slot 2 13 (by kernel_rfl) rfl; have m0 := CB.out _ cc.below; have m1 := CB1.out _ cc.below; simp only [execOp, Act.eval, e0]; go_simp, rfl⟩)
    | 4, _ => exact mstep_pure rfl (mwant_none rfl) (fun aa ww cc => ⟨.int .u64 T, by have e0 : aa.tmps.getD 14 undef = .int .i64 T := cc.slot 3 14 (by kernel_rfl) rfl; have q := Q1.out; simp only [execOp, Act.eval, e0]; go_simp, rfl⟩)
    | 5, _ => exact mstep_copy rfl (mwant_none rfl) 12 (Or.inr rfl) 1 (by kernel_rfl) rfl rfl
    | 6, _ => exact mstep_copy rfl (mwant_none rfl) 15 (Or.inr rfl) 4 (by kernel_rfl) rfl rfl
    | n + 7, h => exact absurd h (by show ¬ (n + 7 < 7); omega)
  · intro VV w5 hlen hb5 hok
    match VV, hlen with
    | [v0, v1, v2, v3, v4, v5, v6], _ =>
      obtain rfl : v0 = .agg #[.int .i64 T, .slice A ws.length c] := hok 0 11 rfl
      have p1 := hok 1 12 rfl
      obtain rfl : v2 = .pointer (some ⟨w.heap.size, 0, none⟩) := hok 2 13 rfl
      obtain rfl : v3 = .int .i64 T := hok 3 14 rfl
      obtain rfl : v4 = .int .u64 T := hok 4 15 rfl
      have p5 := hok 5 7 rfl
      obtain rfl : v6 = .int .u64 T := hok 6 8 rfl
      obtain ⟨A3, c3, rfl, h3⟩ := p5
      have HR5 : Hid (TbR w T A ws.length c ws w5) := HR1.out.next hb5
      have HL := Lib.hid h3
      clear hok hb5 p1 h3 CB CB1 SP HR1
      refine (by assumption : ∀ (a : Act) (w : World), Code.wp _ _ _ a w → _) _ _ ?_
      simp only [List.zip_cons_cons, List.zip_nil_right, putsL]
      go_simp
      go_wp2_with fail
      obtain ⟨s, hs⟩ : ∃ s, s = shareP T ws p := ⟨_, rfl⟩
      obtain ⟨q, hq⟩ : ∃ q, q = tick / T.toNat := ⟨_, rfl⟩
      obtain ⟨m, hm⟩ : ∃ m, m = q * s := ⟨_, rfl⟩
      obtain ⟨r, hr⟩ : ∃ r, r = tick % T.toNat := ⟨_, rfl⟩
      obtain ⟨t, rfl⟩ : ∃ t : Nat, T = (t : Int) := ⟨T.toNat, by omega⟩
      rw [show ((t : Int)).toNat = t from rfl] at hq hr
      have hrt : r < t := by rw [hr]; exact Nat.mod_lt _ (by omega)
      have hsp : s = cnt (tf ws p) t := by rw [hs]; exact if_pos HCK.out
      have hst : s ≤ t := by rw [hsp]; exact cnt_le _ _
      have hg : turnsP t ws p tick = m + cnt (tf ws p) r := by
        have h1 : turnsP t ws p tick = G t (tf ws p) tick := if_pos HCK.out
        rw [h1, hm, hq, hsp, hr]; rfl
      have hgl : turnsP t ws p tick ≤ tick := by
        have h1 : turnsP t ws p tick = G t (tf ws p) tick := if_pos HCK.out
        rw [h1]; exact G_le _ _ _
      have hqt : q ≤ tick := by rw [hq]; exact Nat.div_le_self _ _
      have hmt : m ≤ tick := by omega
      have K1 : Hid ((tick : Int).tdiv (t : Int) = (q : Int)) := Lib.hid <| by rw [hq]; rfl
      have K2 : Hid (IntKind.u64.wrap (q : Int) = (q : Int)) := Lib.hid <| by rw [IntKind.wrap_u64]; omega
      have K3 : Hid (¬ t = 0) := Lib.hid <| by omega
      have K4 : Hid (IntKind.u64.wrap (s : Int) = (s : Int)) := Lib.hid <| by rw [IntKind.wrap_u64]; omega
      have K5 : Hid (IntKind.u64.wrap ((q : Int) * (s : Int)) = (m : Int)) := Lib.hid <| by rw [hm, ← Int.natCast_mul, ← hm, IntKind.wrap_u64]; omega
      have HS := Lib.hid hs
      have SS : Hid (∀ (L : Nat → Bool) w', (TbR w t A ws.length c ws w' ∧ RI w' w'.heap.size A3 (plL ws ((t : Int)).toNat)) → L 5 = false → Calls Try.prog 14 #[.agg #[.int .i64 (t : Int), .slice A ws.length c], .int .i64 p] w' fun e w'' => ∃ v, e = .returned v ∧ v = .int .i64 (s : Int) ∧ (TbR w t A ws.length c ws w'' ∧ RI w'' w''.heap.size A3 (plL ws ((t : Int)).toNat))) :=
        fun L w' h _ => (rshare_calls w' t p A c ws h.1.rw HCK.out).mono fun e w'' hh => ⟨_, hh.1, by rw [HS.out], h.1.next hh.2, (h.2.below hh.2).mono hh.2.size⟩
      have hJ0 : TbR w t A ws.length c ws w5.drew ∧ RI w5.drew w5.drew.heap.size A3 (plL ws ((t : Int)).toNat) := ⟨HR5.out.drew, HL.out⟩
      have HG := Lib.hid hg
      have hqr : (tick : Int).tmod (t : Int) = (r : Int) := by rw [hr]; rfl
      have HQR := Lib.hid hqr
      have hrm : r ≤ 256 := by omega
      have hgm : m + cnt (tf ws p) r ≤ 18446744073709551615 := by omega
      clear hs hq hm hr hsp hg hqr HS hst hqt hgl
      refine region_vals [.int .u64 (tick : Int), .int .u64 (t : Int), .int .u64 (q : Int), .agg #[.int .i64 (t : Int), .slice A ws.length c], .int .i64 p, .int .i64 (s : Int), .int .u64 (s : Int), .int .u64 (m : Int), .int .u64 (m : Int)] [some 16, some 17, some 18, some 19, some 20, some 21, some 22, some 23, some 9] (fun _ w' => TbR w (t : Int) A ws.length c ws w' ∧ RI w' w'.heap.size A3 (plL ws ((t : Int)).toNat)) (by kernel_rfl) (by kernel_rfl) (by kernel_rfl) rfl rfl hJ0 (fun ii hii => ?_) ?_
      · match ii, hii with
        | 0, _ => exact vstep_first rfl (vwant_none rfl) (fun _ _ h => h) 2 (Or.inl rfl) (by kernel_rfl) rfl
        | 1, _ => exact vstep_first rfl (vwant_none rfl) (fun _ _ h => h) 8 (Or.inl rfl) (by kernel_rfl) rfl
        | 2, _ => exact vstep_pure rfl (vwant_none rfl) (fun _ _ h => h) (fun LL aa ww cc => ⟨.int .u64 (q : Int), by have e0 : aa.tmps.getD 16 undef = .int .u64 (tick : Int) := cc.slot 0 16 (by kernel_rfl) rfl; have e1 : aa.tmps.getD 17 undef = .int .u64 (t : Int) := cc.slot 1 17 (by kernel_rfl) rfl; have k1 := K1.out; have k2 := K2.out; have k3 := K3.out; simp only [execOp, Act.eval, e0, e1]; go_simp, rfl⟩)
        | 3, _ => exact vstep_pure rfl (vwant_none rfl) (fun _ _ h => h) (fun LL aa ww cc => ⟨.agg #[.int .i64 (t : Int), .slice A ws.length c], by have e0 : aa.tmps.getD 3 undef = .pointer (some ⟨w.heap.size, 0, none⟩) := (cc.orig 3 (by kernel_rfl)).trans rfl; have m0 := cc.world.1.c0; have m1 := cc.world.1.c1; simp only [execOp, Act.eval, e0]; go_simp, rfl⟩)
        | 4, _ => exact vstep_first rfl (vwant_none rfl) (fun _ _ h => h) 1 (Or.inl rfl) (by kernel_rfl) rfl
        | 5, _ => exact vstep_call rfl (vwant_none rfl) _ _ _ rfl (enters_of Try.func14 (by kernel_rfl) rfl) (fun LL aa ww cc => by have e0 : aa.tmps.getD 19 undef = .agg #[.int .i64 (t : Int), .slice A ws.length c] := cc.slot 3 19 (by kernel_rfl) rfl; have e1 : aa.tmps.getD 20 undef = .int .i64 p := cc.slot 4 20 (by kernel_rfl) rfl; simp only [List.map_toArray, List.map_cons, List.map_nil, Act.eval, e0, e1]; exact (SS.out) LL ww cc.world cc.fresh)
        | 6, _ => exact vstep_pure rfl (vwant_none rfl) (fun _ _ h => h) (fun LL aa ww cc => ⟨.int .u64 (s : Int), by have e0 : aa.tmps.getD 21 undef = .int .i64 (s : Int) := cc.slot 5 21 (by kernel_rfl) rfl; have k4 := K4.out; simp only [execOp, Act.eval, e0]; go_simp, rfl⟩)
        | 7, _ => exact vstep_pure rfl (vwant_none rfl) (fun _ _ h => h) (fun LL aa ww cc => ⟨.int .u64 (m : Int), by have e0 : aa.tmps.getD 18 undef = .int .u64 (q : Int) := cc.slot 2 18 (by kernel_rfl) rfl; have e1 : aa.tmps.getD 22 undef = .int .u64 (s : Int) := cc.slot 6 22 (by kernel_rfl) rfl; have k5 := K5.out; simp only [execOp, Act.eval, e0, e1]; go_simp, rfl⟩)
        | 8, _ => exact vstep_copy rfl (vwant_none rfl) (fun _ _ h => h) 23 (Or.inr rfl) 7 (by kernel_rfl) rfl (fun _ h => h)
        | n + 9, h => exact absurd h (by show ¬ (n + 9 < 9); omega)
      · intro L0 w6 hall hJ
        have HR6 : Hid (TbR w t A ws.length c ws w6) := hJ.1
        have HL6 : Hid (RI w6 w6.heap.size A3 (plL ws t)) := hJ.2
        clear hJ hJ0 hall SS HR5 HL K1 K2 K4 K5
        refine (by assumption : ∀ (a : Act) (w : World), Code.wp _ _ _ a w → _) _ _ ?_
        simp only [List.zip_cons_cons, List.zip_nil_right, putsL]
        go_simp
        go_wp2_with fail
        go_loopw [9, 10] (fun s9 s10 wr => ∃ (k g : Nat), k ≤ r ∧ s10 = .int .u64 k ∧ s9 = .int .u64 g ∧ g ≤ 18446744073709551615 ∧ Hid (g = m + cnt (tf ws p) k) ∧ Hid (TbR w t A ws.length c ws wr) ∧ Hid (RI wr wr.heap.size A3 (plL ws t))) (fun _ s10 _ => 300 - (intOf s10).toNat)
        case atStart => exact ⟨0, m, by omega, rfl, rfl, by omega, rfl, HR6, HL6⟩
        case round =>
          clear HR6 HL6
          obtain ⟨k, g, hk, rfl, rfl, hg9, HN, HR, HL⟩ := hrel
          have c0 := HR.out.c0
          have c1 := HR.out.c1
          have q1 := HQR.out
          have q2 : IntKind.u64.wrap (r : Int) = (r : Int) := by rw [IntKind.wrap_u64]; omega
          have q3 := K3.out
          by_cases hkr : k < r
          · have hst : cnt (tf ws p) (k + 1) = cnt (tf ws p) k + (if tf ws p k = true then 1 else 0) := rfl
            have hmo := cnt_mono (tf ws p) (show k + 1 ≤ r by omega)
            have q4 : IntKind.i64.wrap (k : Int) = (k : Int) := by rw [IntKind.wrap_i64]; omega
            have HST := Lib.hid hst
            clear hst
            go_wp2_with fail
            refine (rturn_calls wr t p A c ws HR.out.rw HCK.out t A3 c3 HL.out (by omega) k (by omega)).mono ?_
            rintro e w4 ⟨rfl, hb4⟩
            have HR4 : Hid (TbR w t A ws.length c ws w4) := HR.out.next hb4
            have HL4 : Hid (RI w4 w4.heap.size A3 (plL ws t)) := (HL.out.below hb4).mono hb4.size
            clear HR HL hb4 c0 c1 q1 q2 q3 q4
            by_cases hv : tf ws p k = true
            · have HN2 : Hid (g + 1 = m + cnt (tf ws p) (k + 1)) := Lib.hid <| by rw [HST.out, if_pos hv, HN.out]; omega
              have hg10 : g + 1 ≤ 18446744073709551615 := by have := HN2.out; omega
              rw [hv]
              clear HST hv HN hmo
              go_wp2
              go_roundw
              case rel => exact ⟨k + 1, g + 1, by omega, by go_num, by go_num, by omega, HN2, HR4, HL4⟩
              case measure => simp [intOf]; omega
            · have HN2 : Hid (g = m + cnt (tf ws p) (k + 1)) := Lib.hid <| by rw [HST.out, if_neg hv, HN.out]; omega
              rw [show tf ws p k = false by simpa using hv]
              clear HST hv HN hmo
              go_wp2
              go_roundw
              case rel => exact ⟨k + 1, g, by omega, by go_num, rfl, by omega, HN2, HR4, HL4⟩
              case measure => simp [intOf]; omega
          · have HK : Hid (g = turnsP t ws p tick) := Lib.hid <| by rw [HG.out, HN.out, show k = r by omega]
            clear HN HL
            go_wp2
            go_ret
            rw [← HK.out]
            exact ⟨rfl, HR.out.bel⟩
end Go.Proofs.Ythdipdbmikkplaa
