/- TableCounts. -/
import Derived.Test.YthdipdbmikkplaaTabTells
namespace Go.Proofs.Ythdipdbmikkplaa
open Go.RowKit Nac Nac.Table
set_option maxHeartbeats 4000000 in
theorem counts_calls (w : World) (T p : Int) (tick : Nat) (htick : tick ≤ 18446744073709551615) (hT : I64 T) (A : Option Addr) (c : Nat) (ws : List Win) (hA : RW w w.heap.size A ws) (hc : ws.length ≤ c) (hcm : c ≤ 140737488351232) :
    Calls Try.prog 4 #[.agg #[.int .i64 T, .slice A ws.length c], .int .i64 p, .int .u64 tick] w fun e w' => e = .returned (.bool true) ∧ Below w.heap.size w w' := by
  have h8 : ws.length ≤ 140737488351232 := by omega
  go_enter Try.func4, Try.ntmps4
  go_wp2_with fail
  refine (few_calls _ T w.heap.size A c ws (hA.below ((Below.refl _ _).alloc (Nat.le_refl _) _)) hc hcm).mono ?_
  rintro e w2 ⟨rfl, hb2⟩
  rw [show (w.alloc (.cells #[.int .i64 T, .slice A ws.length c] 24)).heap.size = w.heap.size + 1 by simp] at hb2
  have hx : Box w2 w.heap.size [.int .i64 T, .slice A ws.length c] := (Box.new w _ _).below hb2 (Nat.lt_succ_self _)
  have R := TbR.start hA hb2
  have h8' : (fewW ws).length ≤ 140737488351232 := by have := fewW_le ws; omega
  obtain ⟨ws', hws⟩ : ∃ ws', ws' = fewW ws := ⟨_, rfl⟩
  rw [← hws] at R h8' ⊢
  have d0 : w2.cell? ⟨w.heap.size, 0, none⟩ = some (.int .i64 T) := hx.cell rfl
  have d1 : w2.cell? ⟨w.heap.size, 1, none⟩ = some (.slice A ws.length c) := hx.cell rfl
  have f0 := box_free hx 0
  have f1 := box_free hx 1
  have HR := Lib.hid R
  clear R hb2 hx hws hA
  go_wp2_with fail
  obtain ⟨w3, hw3⟩ : ∃ w3, w3 = (w2.setCell ⟨w.heap.size, 0, none⟩ (.int .i64 T)).setCell ⟨w.heap.size, 1, none⟩ (.slice A ws'.length c) := ⟨_, rfl⟩
  rw [← hw3] at HR ⊢
  clear hw3 d0 d1 f0 f1
  refine (rcheck_calls w3 T hT A c ws' HR.out.rw h8').mono ?_
  rintro e w4 ⟨rfl, hb4⟩
  have HR4 : Hid (TbR w T A ws'.length c ws' w4) := HR.out.next hb4
  clear HR hb4
  by_cases hck : check T ws' = none
  · rw [hck]
    have HCK := Lib.hid hck
    clear hck
    simp only [codeOf]
    go_wp2_with fail
    obtain ⟨s, hs⟩ : ∃ s, Hid (s = shareP T ws' p) := ⟨_, rfl⟩
    obtain ⟨g, hg⟩ : ∃ g, Hid (g = turnsP T ws' p tick) := ⟨_, rfl⟩
    obtain ⟨x, hx⟩ : ∃ x, Hid (x = nextP T ws' p tick) := ⟨_, rfl⟩
    have SS : Hid (∀ (L : Nat → Bool) w', TbR w T A ws'.length c ws' w' → L 2 = false → Calls Try.prog 14 #[.agg #[.int .i64 T, .slice A ws'.length c], .int .i64 p] w' fun e w'' => ∃ v, e = .returned v ∧ v = .int .i64 (s : Int) ∧ TbR w T A ws'.length c ws' w'') :=
      fun L w' h _ => (rshare_calls w' T p A c ws' h.rw HCK.out).mono fun e w'' hh => ⟨_, hh.1, by rw [hs.out], h.next hh.2⟩
    have SG : Hid (∀ (L : Nat → Bool) w', TbR w T A ws'.length c ws' w' → L 6 = false → Calls Try.prog 15 #[.agg #[.int .i64 T, .slice A ws'.length c], .int .i64 p, .int .u64 (tick : Int)] w' fun e w'' => ∃ v, e = .returned v ∧ v = .int .u64 (g : Int) ∧ TbR w T A ws'.length c ws' w'') :=
      fun L w' h _ => (rturns_calls w' T p tick htick A c ws' h.rw HCK.out).mono fun e w'' hh => ⟨_, hh.1, by rw [hg.out], h.next hh.2⟩
    refine region_vals [.agg #[.int .i64 T, .slice A ws'.length c], .int .i64 p, .int .i64 (s : Int), .agg #[.int .i64 T, .slice A ws'.length c], .int .i64 p, .int .u64 (tick : Int), .int .u64 (g : Int), .int .i64 (s : Int), .int .u64 (g : Int)] [some 24, some 25, some 26, some 27, some 28, some 29, some 30, some 7, some 8] (fun _ w' => TbR w T A ws'.length c ws' w') (by kernel_rfl) (by kernel_rfl) (by kernel_rfl) rfl rfl HR4.out.drew (fun ii hii => ?_) ?_
    · match ii, hii with
      | 0, _ => exact vstep_pure rfl (vwant_none rfl) (fun _ _ h => h) (fun LL aa ww cc => ⟨.agg #[.int .i64 T, .slice A ws'.length c], by have e0 : aa.tmps.getD 3 undef = .pointer (some ⟨w.heap.size, 0, none⟩) := (cc.orig 3 (by kernel_rfl)).trans rfl; have m0 := cc.world.c0; have m1 := cc.world.c1; simp only [execOp, Act.eval, e0]; go_simp, rfl⟩)
      | 1, _ => exact vstep_first rfl (vwant_none rfl) (fun _ _ h => h) 1 (Or.inl rfl) (by kernel_rfl) rfl
      | 2, _ => exact vstep_call rfl (vwant_none rfl) _ _ _ rfl (enters_of Try.func14 (by kernel_rfl) rfl) (fun LL aa ww cc => by have e0 : aa.tmps.getD 24 undef = .agg #[.int .i64 T, .slice A ws'.length c] := cc.slot 0 24 (by kernel_rfl) rfl; have e1 : aa.tmps.getD 25 undef = .int .i64 p := cc.slot 1 25 (by kernel_rfl) rfl; simp only [List.map_toArray, List.map_cons, List.map_nil, Act.eval, e0, e1]; exact (SS.out) LL ww cc.world cc.fresh)
      | 3, _ => exact vstep_pure rfl (vwant_none rfl) (fun _ _ h => h) (fun LL aa ww cc => ⟨.agg #[.int .i64 T, .slice A ws'.length c], by have e0 : aa.tmps.getD 3 undef = .pointer (some ⟨w.heap.size, 0, none⟩) := (cc.orig 3 (by kernel_rfl)).trans rfl; have m0 := cc.world.c0; have m1 := cc.world.c1; simp only [execOp, Act.eval, e0]; go_simp, rfl⟩)
      | 4, _ => exact vstep_first rfl (vwant_none rfl) (fun _ _ h => h) 1 (Or.inl rfl) (by kernel_rfl) rfl
      | 5, _ => exact vstep_first rfl (vwant_none rfl) (fun _ _ h => h) 2 (Or.inl rfl) (by kernel_rfl) rfl
      | 6, _ => exact vstep_call rfl (vwant_none rfl) _ _ _ rfl (enters_of Try.func15 (by kernel_rfl) rfl) (fun LL aa ww cc => by have e0 : aa.tmps.getD 27 undef = .agg #[.int .i64 T, .slice A ws'.length c] := cc.slot 3 27 (by kernel_rfl) rfl; have e1 : aa.tmps.getD 28 undef = .int .i64 p := cc.slot 4 28 (by kernel_rfl) rfl; have e2 : aa.tmps.getD 29 undef = .int .u64 (tick : Int) := cc.slot 5 29 (by kernel_rfl) rfl; simp only [List.map_toArray, List.map_cons, List.map_nil, Act.eval, e0, e1, e2]; exact (SG.out) LL ww cc.world cc.fresh)
      | 7, _ => exact vstep_copy rfl (vwant_none rfl) (fun _ _ h => h) 26 (Or.inr rfl) 2 (by kernel_rfl) rfl (fun _ h => h)
      | 8, _ => exact vstep_copy rfl (vwant_none rfl) (fun _ _ h => h) 30 (Or.inr rfl) 6 (by kernel_rfl) rfl (fun _ h => h)
      | n + 9, h => exact absurd h (by show ¬ (n + 9 < 9); omega)
    · intro L0 w5 hall hJ
      have HR5 : Hid (TbR w T A ws'.length c ws' w5) := hJ
      clear hJ hall SS SG HR4
      refine (by assumption : ∀ (a : Act) (w : World), Code.wp _ _ _ a w → _) _ _ ?_
      simp only [List.zip_cons_cons, List.zip_nil_right, putsL]
      have c0 := HR5.out.c0
      have c1 := HR5.out.c1
      go_simp
      go_wp2_with fail
      refine (rnext_calls _ T p tick htick A c ws' HR5.out.rw HCK.out).mono ?_
      rintro e w6 ⟨rfl, hb6⟩
      rw [← hx.out]
      have HR6 : Hid (TbR w T A ws'.length c ws' w6) := HR5.out.next hb6
      clear HR5 hb6 c0 c1
      have c0 := HR6.out.c0
      have c1 := HR6.out.c1
      go_wp2_with fail
      refine (next_calls _ T p tick htick hT A c ws' HR6.out.rw h8').mono ?_
      rintro e w7 ⟨rfl, hb7⟩
      rw [← hx.out]
      have HR7 : Hid (TbR w T A ws'.length c ws' w7) := HR6.out.next hb7
      clear HR6 hb7 c0 c1
      have c0 := HR7.out.c0
      have c1 := HR7.out.c1
      go_wp2_with fail
      refine (share_calls _ T p hT A c ws' HR7.out.rw h8').mono ?_
      rintro e w8 ⟨rfl, hb8⟩
      rw [← hs.out]
      have HR8 : Hid (TbR w T A ws'.length c ws' w8) := HR7.out.next hb8
      clear HR7 hb8 c0 c1
      have c0 := HR8.out.c0
      have c1 := HR8.out.c1
      go_wp2_with fail
      refine (turns_calls _ T p tick htick hT A c ws' HR8.out.rw h8').mono ?_
      rintro e w9 ⟨rfl, hb9⟩
      rw [← hg.out]
      have HR9 : Hid (TbR w T A ws'.length c ws' w9) := HR8.out.next hb9
      clear HR8 hb9 c0 c1
      go_wp2_with fail
      refine (awake_calls _).mono ?_
      rintro e w10 ⟨rfl, hb10⟩
      have HB10 : Hid (Below w.heap.size w w10) := (HR9.out.next hb10).bel
      clear HR9 hb10
      go_wp2
      go_ret
      exact ⟨rfl, HB10.out⟩
  · have hcn := code_ne T ws' hck
    obtain ⟨x, hx⟩ : ∃ x, x = codeOf (check T ws') := ⟨_, rfl⟩
    rw [← hx] at hcn ⊢
    clear hx
    have hcb : ((x.1 : Int) == 0) = false := by rw [beq_eq_false_iff_ne]; omega
    have HS : Hid (shareP T ws' p = 0) := Lib.hid (if_neg hck)
    have HG : Hid (turnsP T ws' p tick = 0) := Lib.hid (if_neg hck)
    have HN : Hid (nextP T ws' p tick = (0, false)) := Lib.hid (if_neg hck)
    clear hck
    have HR6 := HR4
    clear HR4
    have c0 := HR6.out.c0
    have c1 := HR6.out.c1
    go_wp2_with fail
    refine (next_calls _ T p tick htick hT A c ws' HR6.out.rw h8').mono ?_
    rintro e w7 ⟨rfl, hb7⟩
    rw [HN.out]
    have HR7 : Hid (TbR w T A ws'.length c ws' w7) := HR6.out.next hb7
    clear HR6 hb7 c0 c1
    have c0 := HR7.out.c0
    have c1 := HR7.out.c1
    go_wp2_with fail
    refine (share_calls _ T p hT A c ws' HR7.out.rw h8').mono ?_
    rintro e w8 ⟨rfl, hb8⟩
    rw [HS.out]
    have HR8 : Hid (TbR w T A ws'.length c ws' w8) := HR7.out.next hb8
    clear HR7 hb8 c0 c1
    have c0 := HR8.out.c0
    have c1 := HR8.out.c1
    go_wp2_with fail
    refine (turns_calls _ T p tick htick hT A c ws' HR8.out.rw h8').mono ?_
    rintro e w9 ⟨rfl, hb9⟩
    rw [HG.out]
    have HR9 : Hid (TbR w T A ws'.length c ws' w9) := HR8.out.next hb9
    clear HR8 hb9 c0 c1
    go_wp2_with fail
    refine (awake_calls _).mono ?_
    rintro e w10 ⟨rfl, hb10⟩
    have HB10 : Hid (Below w.heap.size w w10) := (HR9.out.next hb10).bel
    clear HR9 hb10
    go_wp2
    go_ret
    exact ⟨rfl, HB10.out⟩
end Go.Proofs.Ythdipdbmikkplaa
