/- TableRound. -/
import Derived.Test.YthdipdbmikkplaaTabLaw
namespace Go.Proofs.Ythdipdbmikkplaa
open Go.RowKit Nac Nac.Table
theorem round_turns (T p : Int) (ws : List Win) (tick : Nat) (hc : check T ws = none) : turnsP T ws p (tick + T.toNat) = turnsP T ws p tick + shareP T ws p := by
  unfold turnsP shareP
  rw [if_pos hc, if_pos hc, if_pos hc]
  obtain ⟨t1, t2, t3, hf⟩ := check_none hc
  exact G_full T.toNat (by omega) _ _
theorem round_count (T p : Int) (ws : List Win) (tick : Nat) (hc : check T ws = none) : cnt (fun j => tf ws p ((tick + j) % T.toNat)) T.toNat = shareP T ws p := by
  unfold shareP
  rw [if_pos hc]
  obtain ⟨t1, t2, t3, hf⟩ := check_none hc
  exact cnt_round T.toNat (by omega) _ _
theorem whoP_tf (T p : Int) (ws : List Win) (k : Nat) (hc : check T ws = none) : (tf ws p (k % T.toNat) = true ∧ whoP T ws k = p ∧ 0 ≤ p) ∨ (tf ws p (k % T.toNat) = false ∧ (whoP T ws k ≠ p ∨ (whoP T ws k = p ∧ p < 0))) := by
  obtain ⟨t1, t2, t3, hf⟩ := check_none hc
  obtain ⟨t, rfl⟩ : ∃ t : Nat, T = (t : Int) := ⟨T.toNat, by omega⟩
  have e : whoP (t : Int) ws k = whose ws ((k % t : Nat) : Int) := if_pos hc
  rw [e, show ((t : Int)).toNat = t from rfl]
  unfold tf turnB
  by_cases h : whose ws ((k % t : Nat) : Int) = p
  · by_cases hp : 0 ≤ p
    · left; exact ⟨decide_eq_true ⟨hp, h⟩, h, hp⟩
    · right; exact ⟨decide_eq_false (fun x => hp x.1), .inr ⟨h, by omega⟩⟩
  · right; exact ⟨decide_eq_false (fun x => h x.2), .inl h⟩
set_option maxHeartbeats 4000000 in
theorem round_calls (w : World) (T p : Int) (tick : Nat) (htick : tick ≤ 18446744073709551615) (hT : I64 T) (A : Option Addr) (c : Nat) (ws : List Win) (hA : RW w w.heap.size A ws) (hc : ws.length ≤ c) (hcm : c ≤ 140737488351232) :
    Calls Try.prog 6 #[.agg #[.int .i64 T, .slice A ws.length c], .int .i64 p, .int .u64 tick] w fun e w' => e = .returned (.bool true) ∧ Below w.heap.size w w' := by
  have h8 : ws.length ≤ 140737488351232 := by omega
  go_enter Try.func6, Try.ntmps6
  go_wp2_with fail
  refine (few_calls _ T w.heap.size A c ws (hA.below ((Below.refl _ _).alloc (Nat.le_refl _) _)) hc hcm).mono ?_
  rintro e w2 ⟨rfl, hb2⟩
  rw [show (w.alloc (.cells #[.int .i64 T, .slice A ws.length c] 24)).heap.size = w.heap.size + 1 by simp] at hb2
  have hx : Box w2 w.heap.size [.int .i64 T, .slice A ws.length c] := (Box.new w _ _).below hb2 (Nat.lt_succ_self _)
  have R := TbR.start hA hb2
  have h8' : (fewW ws).length ≤ 140737488351232 := by have := fewW_le ws; omega
  obtain ⟨ws', hws⟩ : ∃ ws', ws' = fewW ws := ⟨_, rfl⟩
  rw [← hws] at R h8' ⊢
  have d0 : w2.cell? ⟨w.heap.size, 0, none⟩ = some (.int .i64 T) := hx.cell rfl
  have d1 : w2.cell? ⟨w.heap.size, 1, none⟩ = some (.slice A ws.length c) := hx.cell rfl
  have f0 := box_free hx 0
  have f1 := box_free hx 1
  have HR := Lib.hid R
  clear R hb2 hx hws hA
  go_wp2_with fail
  obtain ⟨w3, hw3⟩ : ∃ w3, w3 = (w2.setCell ⟨w.heap.size, 0, none⟩ (.int .i64 T)).setCell ⟨w.heap.size, 1, none⟩ (.slice A ws'.length c) := ⟨_, rfl⟩
  rw [← hw3] at HR ⊢
  clear hw3 d0 d1 f0 f1
  refine (check_calls w3 T hT A c ws' HR.out.rw h8').mono ?_
  rintro e w4 ⟨⟨v, rfl, hv⟩, hb4⟩
  have HR4 : Hid (TbR w T A ws'.length c ws' w4) := HR.out.next hb4
  clear HR hb4
  by_cases hck : check T ws' = none
  · obtain rfl := errV_none hv hck
    clear hv
    by_cases h63 : tick ≤ 9223372036854775808
    · obtain ⟨t1, t2, t3, hf⟩ := check_none hck
      obtain ⟨t, ht⟩ : ∃ t : Nat, Hid (t = T.toNat) := ⟨_, rfl⟩
      have htT : (t : Int) = T := by have := ht.out; omega
      have HTT := Lib.hid htT
      have HCK := Lib.hid hck
      clear hck hf htT
      go_wp2_with fail
      go_loopw [7, 8] (fun s7 s8 wr => ∃ (k n : Nat), (k : Int) ≤ T ∧ s8 = .int .i64 k ∧ s7 = .int .i64 n ∧ n ≤ k ∧ Hid (n = cnt (fun j => tf ws' p ((tick + j) % T.toNat)) k) ∧ Hid (TbR w T A ws'.length c ws' wr)) (fun _ s8 _ => 300 - (intOf s8).toNat)
      case atStart => exact ⟨0, 0, by omega, rfl, rfl, by omega, rfl, HR4⟩
      case round =>
        clear HR4
        obtain ⟨k, n, hk, rfl, rfl, hnk, HN, HR⟩ := hrel
        have c0 := HR.out.c0
        have c1 := HR.out.c1
        by_cases hkT : (k : Int) < T
        · obtain ⟨x, hx⟩ : ∃ x, x = tick + k := ⟨_, rfl⟩
          have hxm : x ≤ 18446744073709551615 := by omega
          have k1 : IntKind.u64.wrap (k : Int) = (k : Int) := by rw [IntKind.wrap_u64]; omega
          have k2 : IntKind.u64.wrap ((tick : Int) + (k : Int)) = (x : Int) := by rw [IntKind.wrap_u64]; omega
          have hst : cnt (fun j => tf ws' p ((tick + j) % T.toNat)) (k + 1) = n + (if tf ws' p (x % T.toNat) = true then 1 else 0) := by rw [hx, HN.out]; rfl
          have hwt := whoP_tf T p ws' x HCK.out
          have HX := Lib.hid hx
          have HST := Lib.hid hst
          have HWT := Lib.hid hwt
          clear hx hst hwt HN
          obtain ⟨y, hy⟩ : ∃ y, y = whoP T ws' x := ⟨_, rfl⟩
          have HY := Lib.hid hy
          clear hy
          go_wp2_with fail
          refine (who_calls _ T x hxm hT A c ws' HR.out.rw h8').mono ?_
          rintro e w5 ⟨rfl, hb5⟩
          rw [← HY.out]
          have HR5 : Hid (TbR w T A ws'.length c ws' w5) := HR.out.next hb5
          clear HR hb5 c0 c1 k1 k2
          rcases HWT.out with ⟨h1, h2, h3⟩ | ⟨h1, h2⟩
          · have HN2 : Hid (n + 1 = cnt (fun j => tf ws' p ((tick + j) % T.toNat)) (k + 1)) := by have := HST.out; rw [if_pos h1] at this; exact this.symm
            have hyp : y = p := by rw [HY.out]; exact h2
            clear HWT HST h1 h2 HY
            subst hyp
            go_wp2
            go_roundw
            case rel => exact ⟨k + 1, n + 1, by omega, by go_num, by go_num, by omega, HN2, HR5⟩
            case measure => simp [intOf]; omega
          · have HN2 : Hid (n = cnt (fun j => tf ws' p ((tick + j) % T.toNat)) (k + 1)) := by have := HST.out; rw [if_neg (by rw [h1]; simp)] at this; exact this.symm
            rw [← HY.out] at h2
            clear HWT HST h1 HY
            rcases h2 with h2 | ⟨h2, h3⟩
            · have hyb : (y == p) = false := by simpa using h2
              go_wp2
              go_roundw
              case rel => exact ⟨k + 1, n, by omega, by go_num, rfl, by omega, HN2, HR5⟩
              case measure => simp [intOf]; omega
            · subst h2
              go_wp2
              go_roundw
              case rel => exact ⟨k + 1, n, by omega, by go_num, rfl, by omega, HN2, HR5⟩
              case measure => simp [intOf]; omega
        · have hkt : k = T.toNat := by omega
          have hns : n = shareP T ws' p := by rw [HN.out, hkt]; exact round_count T p ws' tick HCK.out
          obtain ⟨en, hen⟩ : ∃ en, en = tick + T.toNat := ⟨_, rfl⟩
          obtain ⟨g1, hg1⟩ : ∃ g1, g1 = turnsP T ws' p tick := ⟨_, rfl⟩
          obtain ⟨g2, hg2⟩ : ∃ g2, g2 = turnsP T ws' p en := ⟨_, rfl⟩
          have hgg : g2 = g1 + n := by rw [hg2, hg1, hns, hen]; exact round_turns T p ws' tick HCK.out
          have q0 : IntKind.u64.wrap T = T := by rw [IntKind.wrap_u64]; omega
          have q1 : IntKind.u64.wrap ((tick : Int) + T) = (en : Int) := by rw [IntKind.wrap_u64]; omega
          have henm : en ≤ 18446744073709551615 := by omega
          have K1 : Hid (IntKind.u64.wrap ((g2 : Int) - (g1 : Int)) = (n : Int)) := by show _ = _; rw [IntKind.wrap_u64]; omega
          have K2 : Hid (IntKind.u64.wrap (n : Int) = (n : Int)) := by show _ = _; rw [IntKind.wrap_u64]; omega
          have HNS := Lib.hid hns
          have HG1 := Lib.hid hg1
          have HG2 := Lib.hid hg2
          have HC0 : Hid (∀ w', TbR w T A ws'.length c ws' w' → w'.cell? ⟨w.heap.size, 0, none⟩ = some (.int .i64 T)) := fun w' h => h.c0
          have HC1 : Hid (∀ w', TbR w T A ws'.length c ws' w' → w'.cell? ⟨w.heap.size, 1, none⟩ = some (.slice A ws'.length c)) := fun w' h => h.c1
          have S1 : Hid (∀ (L : Nat → Bool) w', TbR w T A ws'.length c ws' w' → L 3 = false → Calls Try.prog 18 #[.agg #[.int .i64 T, .slice A ws'.length c], .int .i64 p] w' fun e w'' => ∃ v, e = .returned v ∧ v = .int .i64 (n : Int) ∧ TbR w T A ws'.length c ws' w'') :=
            fun L w' h _ => (share_calls w' T p hT A c ws' h.rw h8').mono fun e w'' hh => ⟨_, hh.1, by rw [HNS.out], h.next hh.2⟩
          have S4 : Hid (∀ (L : Nat → Bool) w', TbR w T A ws'.length c ws' w' → L 21 = false → Calls Try.prog 18 #[.agg #[.int .i64 T, .slice A ws'.length c], .int .i64 p] w' fun e w'' => ∃ v, e = .returned v ∧ v = .int .i64 (n : Int) ∧ TbR w T A ws'.length c ws' w'') :=
            fun L w' h _ => (share_calls w' T p hT A c ws' h.rw h8').mono fun e w'' hh => ⟨_, hh.1, by rw [HNS.out], h.next hh.2⟩
          have S2 : Hid (∀ (L : Nat → Bool) w', TbR w T A ws'.length c ws' w' → L 13 = false → Calls Try.prog 19 #[.agg #[.int .i64 T, .slice A ws'.length c], .int .i64 p, .int .u64 (en : Int)] w' fun e w'' => ∃ v, e = .returned v ∧ v = .int .u64 (g2 : Int) ∧ TbR w T A ws'.length c ws' w'') :=
            fun L w' h _ => (turns_calls w' T p en henm hT A c ws' h.rw h8').mono fun e w'' hh => ⟨_, hh.1, by rw [HG2.out], h.next hh.2⟩
          have S3 : Hid (∀ (L : Nat → Bool) w', TbR w T A ws'.length c ws' w' → L 17 = false → Calls Try.prog 19 #[.agg #[.int .i64 T, .slice A ws'.length c], .int .i64 p, .int .u64 (tick : Int)] w' fun e w'' => ∃ v, e = .returned v ∧ v = .int .u64 (g1 : Int) ∧ TbR w T A ws'.length c ws' w'') :=
            fun L w' h _ => (turns_calls w' T p tick htick hT A c ws' h.rw h8').mono fun e w'' hh => ⟨_, hh.1, by rw [HG1.out], h.next hh.2⟩
          have S5 : Hid (∀ (L : Nat → Bool) w', TbR w T A ws'.length c ws' w' → L 26 = false → Calls Try.prog 13 #[] w' fun e w'' => ∃ v, e = .returned v ∧ v = .bool true ∧ TbR w T A ws'.length c ws' w'') :=
            fun L w' h _ => (awake_calls w').mono fun e w'' hh => ⟨_, hh.1, rfl, h.next hh.2⟩
          clear hns hen hg1 hg2 hgg hkt HN
          go_wp2_with fail
          clear q0 q1
          refine region_vals [.int .i64 (n : Int), .agg #[.int .i64 T, .slice A ws'.length c], .int .i64 p, .int .i64 (n : Int), .bool true, .bool true, undef, undef, .bool true, .bool true, .agg #[.int .i64 T, .slice A ws'.length c], .int .i64 p, .int .u64 (en : Int), .int .u64 (g2 : Int), .agg #[.int .i64 T, .slice A ws'.length c], .int .i64 p, .int .u64 (tick : Int), .int .u64 (g1 : Int), .int .u64 (n : Int), .agg #[.int .i64 T, .slice A ws'.length c], .int .i64 p, .int .i64 (n : Int), .int .u64 (n : Int), .bool true, .bool true, .bool true, .bool true, .bool true, .bool true] [some 45, some 46, some 47, some 48, some 49, some 50, some 51, some 52, some 53, some 54, some 55, some 56, some 57, some 58, some 59, some 60, some 61, some 62, some 63, some 64, some 65, some 66, some 67, some 68, some 69, some 70, some 71, some 72, some 6] (fun _ w' => TbR w T A ws'.length c ws' w') (by kernel_rfl) (by kernel_rfl) (by kernel_rfl) rfl rfl HR.out.drew (fun i hi => ?_) ?_
          · match i, hi with
            | 0, _ => exact vstep_first rfl (vwant_none rfl) (fun _ _ h => h) 7 (Or.inl rfl) (by kernel_rfl) rfl
            | 1, _ => exact vstep_pure rfl (vwant_none rfl) (fun _ _ h => h) (fun LL aa ww cc => ⟨.agg #[.int .i64 T, .slice A ws'.length c], by have e0 : aa.tmps.getD 3 undef = .pointer (some ⟨w.heap.size, 0, none⟩) := (cc.orig 3 (by kernel_rfl)).trans rfl; have m0 := (HC0.out _ cc.world); have m1 := (HC1.out _ cc.world); simp only [execOp, Act.eval, e0]; go_simp, rfl⟩)
            | 2, _ => exact vstep_first rfl (vwant_none rfl) (fun _ _ h => h) 1 (Or.inl rfl) (by kernel_rfl) rfl
            | 3, _ => exact vstep_call rfl (vwant_none rfl) _ _ _ rfl (enters_of Try.func18 (by kernel_rfl) rfl) (fun LL aa ww cc => by have e0 : aa.tmps.getD 46 undef = .agg #[.int .i64 T, .slice A ws'.length c] := cc.slot 1 46 (by kernel_rfl) rfl; have e1 : aa.tmps.getD 47 undef = .int .i64 p := cc.slot 2 47 (by kernel_rfl) rfl; simp only [List.map_toArray, List.map_cons, List.map_nil, Act.eval, e0, e1]; exact (S1.out) LL ww cc.world cc.fresh)
            | 4, _ => exact vstep_pure rfl (vwant_none rfl) (fun _ _ h => h) (fun LL aa ww cc => ⟨.bool true, by have e0 : aa.tmps.getD 45 undef = .int .i64 (n : Int) := cc.slot 0 45 (by kernel_rfl) rfl; have e1 : aa.tmps.getD 48 undef = .int .i64 (n : Int) := cc.slot 3 48 (by kernel_rfl) rfl; simp only [execOp, Act.eval, e0, e1]; go_simp, rfl⟩)
            | 5, _ => exact vstep_copy rfl (vwant_none rfl) (fun _ _ h => h) 49 (Or.inl rfl) 4 (by kernel_rfl) rfl (fun _ h => h)
            | 6, _ => exact vstep_unwanted rfl 5 false 50 rfl (by kernel_rfl) rfl (fun _ h => Or.inl h) (by kernel_rfl) rfl (fun _ _ h => h)
            | 7, _ => exact vstep_unwanted rfl 5 false 50 rfl (by kernel_rfl) rfl (fun _ h => Or.inl h) (by kernel_rfl) rfl (fun _ _ h => h)
            | 8, _ => exact vstep_pure rfl (vwant_none rfl) (fun _ _ h => h) (fun LL aa ww cc => ⟨.bool true, by have e0 : aa.tmps.getD 50 undef = .bool true := cc.slot 5 50 (by kernel_rfl) rfl; simp only [execOp, Act.eval, e0]; go_simp, rfl⟩)
            | 9, _ => exact vstep_copy rfl (vwant_none rfl) (fun _ _ h => h) 53 (Or.inl rfl) 8 (by kernel_rfl) rfl (fun _ h => h)
            | 10, _ => exact vstep_pure rfl (vwant 9 true 54 rfl (by kernel_rfl) rfl (fun _ h => h) (by kernel_rfl)) (fun _ _ h => h) (fun LL aa ww cc => ⟨.agg #[.int .i64 T, .slice A ws'.length c], by have e0 : aa.tmps.getD 3 undef = .pointer (some ⟨w.heap.size, 0, none⟩) := (cc.orig 3 (by kernel_rfl)).trans rfl; have m0 := (HC0.out _ cc.world); have m1 := (HC1.out _ cc.world); simp only [execOp, Act.eval, e0]; go_simp, rfl⟩)
            | 11, _ => exact vstep_first rfl (vwant 9 true 54 rfl (by kernel_rfl) rfl (fun _ h => h) (by kernel_rfl)) (fun _ _ h => h) 1 (Or.inl rfl) (by kernel_rfl) rfl
            | 12, _ => exact vstep_first rfl (vwant 9 true 54 rfl (by kernel_rfl) rfl (fun _ h => h) (by kernel_rfl)) (fun _ _ h => h) 9 (Or.inl rfl) (by kernel_rfl) rfl
            | 13, _ => exact vstep_call rfl (vwant 9 true 54 rfl (by kernel_rfl) rfl (fun _ h => h) (by kernel_rfl)) _ _ _ rfl (enters_of Try.func19 (by kernel_rfl) rfl) (fun LL aa ww cc => by have e0 : aa.tmps.getD 55 undef = .agg #[.int .i64 T, .slice A ws'.length c] := cc.slot 10 55 (by kernel_rfl) rfl; have e1 : aa.tmps.getD 56 undef = .int .i64 p := cc.slot 11 56 (by kernel_rfl) rfl; have e2 : aa.tmps.getD 57 undef = .int .u64 (en : Int) := cc.slot 12 57 (by kernel_rfl) rfl; simp only [List.map_toArray, List.map_cons, List.map_nil, Act.eval, e0, e1, e2]; exact (S2.out) LL ww cc.world cc.fresh)
            | 14, _ => exact vstep_pure rfl (vwant 9 true 54 rfl (by kernel_rfl) rfl (fun _ h => h) (by kernel_rfl)) (fun _ _ h => h) (fun LL aa ww cc => ⟨.agg #[.int .i64 T, .slice A ws'.length c], by have e0 : aa.tmps.getD 3 undef = .pointer (some ⟨w.heap.size, 0, none⟩) := (cc.orig 3 (by kernel_rfl)).trans rfl; have m0 := (HC0.out _ cc.world); have m1 := (HC1.out _ cc.world); simp only [execOp, Act.eval, e0]; go_simp, rfl⟩)
            | 15, _ => exact vstep_first rfl (vwant 9 true 54 rfl (by kernel_rfl) rfl (fun _ h => h) (by kernel_rfl)) (fun _ _ h => h) 1 (Or.inl rfl) (by kernel_rfl) rfl
            | 16, _ => exact vstep_first rfl (vwant 9 true 54 rfl (by kernel_rfl) rfl (fun _ h => h) (by kernel_rfl)) (fun _ _ h => h) 2 (Or.inl rfl) (by kernel_rfl) rfl
            | 17, _ => exact vstep_call rfl (vwant 9 true 54 rfl (by kernel_rfl) rfl (fun _ h => h) (by kernel_rfl)) _ _ _ rfl (enters_of Try.func19 (by kernel_rfl) rfl) (fun LL aa ww cc => by have e0 : aa.tmps.getD 59 undef = .agg #[.int .i64 T, .slice A ws'.length c] := cc.slot 14 59 (by kernel_rfl) rfl; have e1 : aa.tmps.getD 60 undef = .int .i64 p := cc.slot 15 60 (by kernel_rfl) rfl; have e2 : aa.tmps.getD 61 undef = .int .u64 (tick : Int) := cc.slot 16 61 (by kernel_rfl) rfl; simp only [List.map_toArray, List.map_cons, List.map_nil, Act.eval, e0, e1, e2]; exact (S3.out) LL ww cc.world cc.fresh)
            | 18, _ => exact vstep_pure rfl (vwant 9 true 54 rfl (by kernel_rfl) rfl (fun _ h => h) (by kernel_rfl)) (fun _ _ h => h) (fun LL aa ww cc => ⟨.int .u64 (n : Int), by have e0 : aa.tmps.getD 58 undef = .int .u64 (g2 : Int) := cc.slot 13 58 (by kernel_rfl) rfl; have e1 : aa.tmps.getD 62 undef = .int .u64 (g1 : Int) := cc.slot 17 62 (by kernel_rfl) rfl; have k1 := K1.out; simp only [execOp, Act.eval, e0, e1]; go_simp, rfl⟩)
            | 19, _ => exact vstep_pure rfl (vwant 9 true 54 rfl (by kernel_rfl) rfl (fun _ h => h) (by kernel_rfl)) (fun _ _ h => h) (fun LL aa ww cc => ⟨.agg #[.int .i64 T, .slice A ws'.length c], by have e0 : aa.tmps.getD 3 undef = .pointer (some ⟨w.heap.size, 0, none⟩) := (cc.orig 3 (by kernel_rfl)).trans rfl; have m0 := (HC0.out _ cc.world); have m1 := (HC1.out _ cc.world); simp only [execOp, Act.eval, e0]; go_simp, rfl⟩)
            | 20, _ => exact vstep_first rfl (vwant 9 true 54 rfl (by kernel_rfl) rfl (fun _ h => h) (by kernel_rfl)) (fun _ _ h => h) 1 (Or.inl rfl) (by kernel_rfl) rfl
            | 21, _ => exact vstep_call rfl (vwant 9 true 54 rfl (by kernel_rfl) rfl (fun _ h => h) (by kernel_rfl)) _ _ _ rfl (enters_of Try.func18 (by kernel_rfl) rfl) (fun LL aa ww cc => by have e0 : aa.tmps.getD 64 undef = .agg #[.int .i64 T, .slice A ws'.length c] := cc.slot 19 64 (by kernel_rfl) rfl; have e1 : aa.tmps.getD 65 undef = .int .i64 p := cc.slot 20 65 (by kernel_rfl) rfl; simp only [List.map_toArray, List.map_cons, List.map_nil, Act.eval, e0, e1]; exact (S4.out) LL ww cc.world cc.fresh)
            | 22, _ => exact vstep_pure rfl (vwant 9 true 54 rfl (by kernel_rfl) rfl (fun _ h => h) (by kernel_rfl)) (fun _ _ h => h) (fun LL aa ww cc => ⟨.int .u64 (n : Int), by have e0 : aa.tmps.getD 66 undef = .int .i64 (n : Int) := cc.slot 21 66 (by kernel_rfl) rfl; have k2 := K2.out; simp only [execOp, Act.eval, e0]; go_simp, rfl⟩)
            | 23, _ => exact vstep_pure rfl (vwant 9 true 54 rfl (by kernel_rfl) rfl (fun _ h => h) (by kernel_rfl)) (fun _ _ h => h) (fun LL aa ww cc => ⟨.bool true, by have e0 : aa.tmps.getD 63 undef = .int .u64 (n : Int) := cc.slot 18 63 (by kernel_rfl) rfl; have e1 : aa.tmps.getD 67 undef = .int .u64 (n : Int) := cc.slot 22 67 (by kernel_rfl) rfl; simp only [execOp, Act.eval, e0, e1]; go_simp, rfl⟩)
            | 24, _ => exact vstep_pure rfl (vwant_none rfl) (fun _ _ h => h) (fun LL aa ww cc => ⟨.bool true, by have e0 : aa.tmps.getD 54 undef = .bool true := cc.slot 9 54 (by kernel_rfl) rfl; have e1 : aa.tmps.getD 68 undef = .bool true := cc.slot 23 68 (by kernel_rfl) rfl; simp only [execOp, Act.eval, e0, e1]; go_simp, rfl⟩)
            | 25, _ => exact vstep_copy rfl (vwant_none rfl) (fun _ _ h => h) 69 (Or.inl rfl) 24 (by kernel_rfl) rfl (fun _ h => h)
            | 26, _ => exact vstep_call rfl (vwant 25 true 70 rfl (by kernel_rfl) rfl (fun _ h => h) (by kernel_rfl)) _ _ _ rfl (enters_of Try.func13 (by kernel_rfl) rfl) (fun LL aa ww cc => by skip; simp only [List.map_toArray, List.map_cons, List.map_nil, Act.eval]; exact (S5.out) LL ww cc.world cc.fresh)
            | 27, _ => exact vstep_pure rfl (vwant_none rfl) (fun _ _ h => h) (fun LL aa ww cc => ⟨.bool true, by have e0 : aa.tmps.getD 70 undef = .bool true := cc.slot 25 70 (by kernel_rfl) rfl; have e1 : aa.tmps.getD 71 undef = .bool true := cc.slot 26 71 (by kernel_rfl) rfl; simp only [execOp, Act.eval, e0, e1]; go_simp, rfl⟩)
            | 28, _ => exact vstep_copy rfl (vwant_none rfl) (fun _ _ h => h) 72 (Or.inr rfl) 27 (by kernel_rfl) rfl (fun _ h => h)
            | n + 29, h => exact absurd h (by show ¬ (n + 29 < 29); omega)
          · intro L w5 hall hJ
            have HB5 : Hid (Below w.heap.size w w5) := hJ.bel
            clear hJ hall S1 S2 S3 S4 S5 HC0 HC1 K1 K2
            refine (by assumption : ∀ (a : Act) (w : World), Code.wp _ _ _ a w → _) _ _ ?_
            simp only [List.zip_cons_cons, List.zip_nil_right, putsL]
            go_simp
            go_wp2
            go_ret
            exact ⟨rfl, HB5.out⟩
    · go_wp2_with fail
      refine (awake_calls _).mono ?_
      rintro e w6 ⟨rfl, hb6⟩
      have HB6 : Hid (Below w.heap.size w w6) := (HR4.out.next hb6).bel
      clear HR4 hb6
      go_wp2
      go_ret
      exact ⟨rfl, HB6.out⟩
  · obtain ⟨q, rfl⟩ := errV_some hv hck
    clear hv hck
    go_wp2_with fail
    refine (awake_calls _).mono ?_
    rintro e w6 ⟨rfl, hb6⟩
    have HB6 : Hid (Below w.heap.size w w6) := (HR4.out.next hb6).bel
    clear HR4 hb6
    go_wp2
    go_ret
    exact ⟨rfl, HB6.out⟩
end Go.Proofs.Ythdipdbmikkplaa
