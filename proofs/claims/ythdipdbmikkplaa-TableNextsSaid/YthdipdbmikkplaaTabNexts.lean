/- TableNexts. -/
import Derived.Test.YthdipdbmikkplaaTabLaw
namespace Go.Proofs.Ythdipdbmikkplaa
open Go.RowKit Nac Nac.Table
theorem nexts_cases (T p : Int) (ws : List Win) (tick : Nat) (ht : tick ≤ 9223372036854775808) :
    (nextP T ws p tick = (0, false) ∧ shareP T ws p = 0) ∨ (∃ nx, nextP T ws p tick = (nx, true) ∧ check T ws = none ∧ tick < nx ∧ nx ≤ tick + T.toNat ∧ whoP T ws nx = p ∧ turnsP T ws p nx = turnsP T ws p (tick + 1)) := by
  unfold nextP shareP whoP turnsP
  by_cases hc : check T ws = none
  · simp only [if_pos hc]
    obtain ⟨t1, t2, t3, hf⟩ := check_none hc
    obtain ⟨t, rfl⟩ : ∃ t : Nat, T = (t : Int) := ⟨T.toNat, by omega⟩
    rw [show ((t : Int)).toNat = t from rfl]
    rcases nextFrom_cases (tf ws p) t tick t 1 (by omega) with ⟨h1, h2⟩ | ⟨j, h1, h2, h3, h4, h5⟩
    · left
      refine ⟨h1, ?_⟩
      rw [← cnt_round t (by omega) (tf ws p) (tick + 1)]
      exact cnt_zero _ _ fun k hk => by
        have := h2 (1 + k) (by omega) (by omega)
        rwa [← Nat.add_assoc] at this
    · right
      refine ⟨tick + j, h3, hc, by omega, by omega, ?_, ?_⟩
      · have h6 : 0 ≤ p ∧ whose ws (((tick + j) % t : Nat) : Int) = p := by simpa [tf, turnB] using h4
        rw [← h6.2]
        rfl
      · rw [show tick + j = tick + 1 + (j - 1) by omega, G_add t (by omega), cnt_zero, Nat.add_zero]
        intro k hk
        have := h5 (1 + k) (by omega) (by omega)
        rwa [← Nat.add_assoc] at this
  · left
    simp only [if_neg hc]
    exact ⟨trivial, trivial⟩
set_option maxHeartbeats 4000000 in
theorem nexts_calls (w : World) (T p : Int) (tick : Nat) (htick : tick ≤ 18446744073709551615) (hT : I64 T) (A : Option Addr) (c : Nat) (ws : List Win) (hA : RW w w.heap.size A ws) (hc : ws.length ≤ c) (hcm : c ≤ 140737488351232) :
    Calls Try.prog 7 #[.agg #[.int .i64 T, .slice A ws.length c], .int .i64 p, .int .u64 tick] w fun e w' => e = .returned (.bool true) ∧ Below w.heap.size w w' := by
  have h8 : ws.length ≤ 140737488351232 := by omega
  go_enter Try.func7, Try.ntmps7
  go_wp2_with fail
  refine (few_calls _ T w.heap.size A c ws (hA.below ((Below.refl _ _).alloc (Nat.le_refl _) _)) hc hcm).mono ?_
  rintro e w2 ⟨rfl, hb2⟩
  rw [show (w.alloc (.cells #[.int .i64 T, .slice A ws.length c] 24)).heap.size = w.heap.size + 1 by simp] at hb2
  have hx : Box w2 w.heap.size [.int .i64 T, .slice A ws.length c] := (Box.new w _ _).below hb2 (Nat.lt_succ_self _)
  have R := TbR.start hA hb2
  have h8' : (fewW ws).length ≤ 140737488351232 := by have := fewW_le ws; omega
  obtain ⟨ws', hws⟩ : ∃ ws', ws' = fewW ws := ⟨_, rfl⟩
  rw [← hws] at R h8' ⊢
  have d0 : w2.cell? ⟨w.heap.size, 0, none⟩ = some (.int .i64 T) := hx.cell rfl
  have d1 : w2.cell? ⟨w.heap.size, 1, none⟩ = some (.slice A ws.length c) := hx.cell rfl
  have f0 := box_free hx 0
  have f1 := box_free hx 1
  have HR := Lib.hid R
  clear R hb2 hx hws hA
  by_cases h63 : tick ≤ 9223372036854775808
  · have HN := Lib.hid (nexts_cases T p ws' tick h63)
    go_wp2_with fail
    obtain ⟨w3, hw3⟩ : ∃ w3, w3 = (w2.setCell ⟨w.heap.size, 0, none⟩ (.int .i64 T)).setCell ⟨w.heap.size, 1, none⟩ (.slice A ws'.length c) := ⟨_, rfl⟩
    rw [← hw3] at HR ⊢
    clear hw3 d0 d1 f0 f1
    refine (next_calls w3 T p tick htick hT A c ws' HR.out.rw h8').mono ?_
    rintro e w4 ⟨rfl, hb4⟩
    have HR4 : Hid (TbR w T A ws'.length c ws' w4) := HR.out.next hb4
    clear HR hb4
    have c0 := HR4.out.c0
    have c1 := HR4.out.c1
    rcases HN.out with ⟨hn, hs⟩ | ⟨nx, hn, hck, hn1, hn2, hwho, htu⟩
    · rw [hn]
      have HS := Lib.hid hs
      clear hn hs HN
      go_wp2_with fail
      refine (share_calls _ T p hT A c ws' HR4.out.rw h8').mono ?_
      rintro e w5 ⟨rfl, hb5⟩
      rw [HS.out]
      have HR5 : Hid (TbR w T A ws'.length c ws' w5) := HR4.out.next hb5
      clear HR4 hb5 c0 c1
      go_wp2_with fail
      refine (awake_calls _).mono ?_
      rintro e w6 ⟨rfl, hb6⟩
      have HB6 : Hid (Below w.heap.size w w6) := (HR5.out.next hb6).bel
      clear HR5 hb6
      go_wp2
      go_ret
      exact ⟨rfl, HB6.out⟩
    · rw [hn]
      obtain ⟨t1, t2, t3, hf⟩ := check_none hck
      have HWH := Lib.hid hwho
      have HTU := Lib.hid htu
      clear hn HN hck hf hwho htu
      have hnx : nx ≤ 18446744073709551615 := by omega
      have k1 : IntKind.u64.wrap ((nx : Int) - (tick : Int)) = (nx : Int) - tick := by rw [IntKind.wrap_u64]; omega
      have k2 : IntKind.u64.wrap T = T := by rw [IntKind.wrap_u64]; omega
      have k3 : (nx : Int) - tick ≤ T := by omega
      have k4 : ¬ (nx : Int) ≤ tick := by omega
      go_wp2_with fail
      refine (who_calls _ T nx hnx hT A c ws' HR4.out.rw h8').mono ?_
      rintro e w5 ⟨rfl, hb5⟩
      rw [HWH.out]
      have HR5 : Hid (TbR w T A ws'.length c ws' w5) := HR4.out.next hb5
      clear HR4 hb5 c0 c1 k1 k2 k3 k4
      go_wp2_with fail
      have HR4 := HR5
      clear HR5
      obtain ⟨g1, hg1⟩ : ∃ g1, g1 = turnsP T ws' p nx := ⟨_, rfl⟩
      obtain ⟨tk1, htk⟩ : ∃ tk1, tk1 = tick + 1 := ⟨_, rfl⟩
      have HC0 : Hid (∀ w', TbR w T A ws'.length c ws' w' → w'.cell? ⟨w.heap.size, 0, none⟩ = some (.int .i64 T)) := fun w' h => h.c0
      have HC1 : Hid (∀ w', TbR w T A ws'.length c ws' w' → w'.cell? ⟨w.heap.size, 1, none⟩ = some (.slice A ws'.length c)) := fun w' h => h.c1
      have htk2 : tk1 ≤ 18446744073709551615 := by omega
      have q1 : turnsP T ws' p tk1 = g1 := by rw [hg1, htk]; exact HTU.out.symm
      have Q1 := Lib.hid q1
      have G1 := Lib.hid hg1
      have K1 : Hid (IntKind.u64.wrap ((tick : Int) + 1) = (tk1 : Int)) := by show _ = _; rw [IntKind.wrap_u64]; omega
      have S1 : Hid (∀ (L : Nat → Bool) w', TbR w T A ws'.length c ws' w' → L 3 = false → Calls Try.prog 19 #[.agg #[.int .i64 T, .slice A ws'.length c], .int .i64 p, .int .u64 (nx : Int)] w' fun e w'' => ∃ v, e = .returned v ∧ v = .int .u64 (g1 : Int) ∧ TbR w T A ws'.length c ws' w'') :=
        fun L w' h _ => (turns_calls w' T p nx hnx hT A c ws' h.rw h8').mono fun e w'' hh => ⟨_, hh.1, by rw [G1.out], h.next hh.2⟩
      have S2 : Hid (∀ (L : Nat → Bool) w', TbR w T A ws'.length c ws' w' → L 8 = false → Calls Try.prog 19 #[.agg #[.int .i64 T, .slice A ws'.length c], .int .i64 p, .int .u64 (tk1 : Int)] w' fun e w'' => ∃ v, e = .returned v ∧ v = .int .u64 (g1 : Int) ∧ TbR w T A ws'.length c ws' w'') :=
        fun L w' h _ => (turns_calls w' T p tk1 htk2 hT A c ws' h.rw h8').mono fun e w'' hh => ⟨_, hh.1, by rw [Q1.out], h.next hh.2⟩
      have S3 : Hid (∀ (L : Nat → Bool) w', TbR w T A ws'.length c ws' w' → L 12 = false → Calls Try.prog 13 #[] w' fun e w'' => ∃ v, e = .returned v ∧ v = .bool true ∧ TbR w T A ws'.length c ws' w'') :=
        fun L w' h _ => (awake_calls w').mono fun e w'' hh => ⟨_, hh.1, rfl, h.next hh.2⟩
      clear q1 hg1 htk HTU HWH
      refine region_vals [.agg #[.int .i64 T, .slice A ws'.length c], .int .i64 p, .int .u64 (nx : Int), .int .u64 (g1 : Int), .agg #[.int .i64 T, .slice A ws'.length c], .int .i64 p, .int .u64 (tick : Int), .int .u64 (tk1 : Int), .int .u64 (g1 : Int), .int .u64 0, .bool true, .bool true, .bool true, .bool true, .bool true] [some 53, some 54, some 55, some 56, some 57, some 58, some 59, some 60, some 61, some 62, some 63, some 64, some 65, some 66, some 6] (fun _ w' => TbR w T A ws'.length c ws' w') (by kernel_rfl) (by kernel_rfl) (by kernel_rfl) rfl rfl HR4.out.drew (fun i hi => ?_) ?_
      · match i, hi with
        | 0, _ => exact vstep_pure rfl (vwant_none rfl) (fun _ _ h => h) (fun LL aa ww cc => ⟨.agg #[.int .i64 T, .slice A ws'.length c], by have e0 : aa.tmps.getD 3 undef = .pointer (some ⟨w.heap.size, 0, none⟩) := (cc.orig 3 (by kernel_rfl)).trans rfl; have m0 := (HC0.out _ cc.world); have m1 := (HC1.out _ cc.world); simp only [execOp, Act.eval, e0]; go_simp, rfl⟩)
        | 1, _ => exact vstep_first rfl (vwant_none rfl) (fun _ _ h => h) 1 (Or.inl rfl) (by kernel_rfl) rfl
        | 2, _ => exact vstep_first rfl (vwant_none rfl) (fun _ _ h => h) 7 (Or.inl rfl) (by kernel_rfl) rfl
        | 3, _ => exact vstep_call rfl (vwant_none rfl) _ _ _ rfl (enters_of Try.func19 (by kernel_rfl) rfl) (fun LL aa ww cc => by have e0 : aa.tmps.getD 53 undef = .agg #[.int .i64 T, .slice A ws'.length c] := cc.slot 0 53 (by kernel_rfl) rfl; have e1 : aa.tmps.getD 54 undef = .int .i64 p := cc.slot 1 54 (by kernel_rfl) rfl; have e2 : aa.tmps.getD 55 undef = .int .u64 (nx : Int) := cc.slot 2 55 (by kernel_rfl) rfl; simp only [List.map_toArray, List.map_cons, List.map_nil, Act.eval, e0, e1, e2]; exact (S1.out) LL ww cc.world cc.fresh)
        | 4, _ => exact vstep_pure rfl (vwant_none rfl) (fun _ _ h => h) (fun LL aa ww cc => ⟨.agg #[.int .i64 T, .slice A ws'.length c], by have e0 : aa.tmps.getD 3 undef = .pointer (some ⟨w.heap.size, 0, none⟩) := (cc.orig 3 (by kernel_rfl)).trans rfl; have m0 := (HC0.out _ cc.world); have m1 := (HC1.out _ cc.world); simp only [execOp, Act.eval, e0]; go_simp, rfl⟩)
        | 5, _ => exact vstep_first rfl (vwant_none rfl) (fun _ _ h => h) 1 (Or.inl rfl) (by kernel_rfl) rfl
        | 6, _ => exact vstep_first rfl (vwant_none rfl) (fun _ _ h => h) 2 (Or.inl rfl) (by kernel_rfl) rfl
        | 7, _ => exact vstep_pure rfl (vwant_none rfl) (fun _ _ h => h) (fun LL aa ww cc => ⟨.int .u64 (tk1 : Int), by have e0 : aa.tmps.getD 59 undef = .int .u64 (tick : Int) := cc.slot 6 59 (by kernel_rfl) rfl; have k1 := K1.out; simp only [execOp, Act.eval, e0]; go_simp, rfl⟩)
        | 8, _ => exact vstep_call rfl (vwant_none rfl) _ _ _ rfl (enters_of Try.func19 (by kernel_rfl) rfl) (fun LL aa ww cc => by have e0 : aa.tmps.getD 57 undef = .agg #[.int .i64 T, .slice A ws'.length c] := cc.slot 4 57 (by kernel_rfl) rfl; have e1 : aa.tmps.getD 58 undef = .int .i64 p := cc.slot 5 58 (by kernel_rfl) rfl; have e2 : aa.tmps.getD 60 undef = .int .u64 (tk1 : Int) := cc.slot 7 60 (by kernel_rfl) rfl; simp only [List.map_toArray, List.map_cons, List.map_nil, Act.eval, e0, e1, e2]; exact (S2.out) LL ww cc.world cc.fresh)
        | 9, _ => exact vstep_pure rfl (vwant_none rfl) (fun _ _ h => h) (fun LL aa ww cc => ⟨.int .u64 0, by have e0 : aa.tmps.getD 56 undef = .int .u64 (g1 : Int) := cc.slot 3 56 (by kernel_rfl) rfl; have e1 : aa.tmps.getD 61 undef = .int .u64 (g1 : Int) := cc.slot 8 61 (by kernel_rfl) rfl; have z0 : IntKind.u64.wrap 0 = 0 := (by decide); simp only [execOp, Act.eval, e0, e1]; go_simp, rfl⟩)
        | 10, _ => exact vstep_pure rfl (vwant_none rfl) (fun _ _ h => h) (fun LL aa ww cc => ⟨.bool true, by have e0 : aa.tmps.getD 62 undef = .int .u64 0 := cc.slot 9 62 (by kernel_rfl) rfl; simp only [execOp, Act.eval, e0]; go_simp, rfl⟩)
        | 11, _ => exact vstep_copy rfl (vwant_none rfl) (fun _ _ h => h) 63 (Or.inl rfl) 10 (by kernel_rfl) rfl (fun _ h => h)
        | 12, _ => exact vstep_call rfl (vwant 11 true 64 rfl (by kernel_rfl) rfl (fun _ h => h) (by kernel_rfl)) _ _ _ rfl (enters_of Try.func13 (by kernel_rfl) rfl) (fun LL aa ww cc => by skip; simp only [List.map_toArray, List.map_cons, List.map_nil, Act.eval]; exact (S3.out) LL ww cc.world cc.fresh)
        | 13, _ => exact vstep_pure rfl (vwant_none rfl) (fun _ _ h => h) (fun LL aa ww cc => ⟨.bool true, by have e0 : aa.tmps.getD 64 undef = .bool true := cc.slot 11 64 (by kernel_rfl) rfl; have e1 : aa.tmps.getD 65 undef = .bool true := cc.slot 12 65 (by kernel_rfl) rfl; simp only [execOp, Act.eval, e0, e1]; go_simp, rfl⟩)
        | 14, _ => exact vstep_copy rfl (vwant_none rfl) (fun _ _ h => h) 66 (Or.inr rfl) 13 (by kernel_rfl) rfl (fun _ h => h)
        | n + 15, h => exact absurd h (by show ¬ (n + 15 < 15); omega)
      · intro L w5 hall hJ
        have HB5 : Hid (Below w.heap.size w w5) := hJ.bel
        clear hJ hall S1 S2 S3 HC0 HC1 K1
        refine (by assumption : ∀ (a : Act) (w : World), Code.wp _ _ _ a w → _) _ _ ?_
        simp only [List.zip_cons_cons, List.zip_nil_right, putsL]
        go_simp
        go_wp2
        go_ret
        exact ⟨rfl, HB5.out⟩
  · go_wp2_with fail
    obtain ⟨w3, hw3⟩ : ∃ w3, w3 = (w2.setCell ⟨w.heap.size, 0, none⟩ (.int .i64 T)).setCell ⟨w.heap.size, 1, none⟩ (.slice A ws'.length c) := ⟨_, rfl⟩
    rw [← hw3] at HR ⊢
    clear hw3 d0 d1 f0 f1
    refine (awake_calls _).mono ?_
    rintro e w6 ⟨rfl, hb6⟩
    have HB6 : Hid (Below w.heap.size w w6) := (HR.out.next hb6).bel
    clear HR hb6
    go_wp2
    go_ret
    exact ⟨rfl, HB6.out⟩
end Go.Proofs.Ythdipdbmikkplaa
