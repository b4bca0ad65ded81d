/- TableTells, TableCounts. -/
import Derived.Test.YthdipdbmikkplaaTabRefs3
namespace Go.Proofs.Ythdipdbmikkplaa
open Go.RowKit Nac Nac.Table
theorem chk_pos (T : Int) : ∀ (ws : List Win) (e : Int) (i : Nat) (x : Nat × Nat), chk T ws e i = some x → x.1 ≠ 0 := by
  intro ws
  induction ws with
  | nil => intro e i x h; cases h
  | cons w ws ih =>
    intro e i x h
    unfold chk at h
    split at h
    · injection h with h; subst h; simp
    split at h
    · injection h with h; subst h; simp
    split at h
    · injection h with h; subst h; simp
    · exact ih _ _ _ h
theorem code_ne (T : Int) (ws : List Win) (h : check T ws ≠ none) : (codeOf (check T ws)).1 ≠ 0 := by
  cases hc : check T ws with
  | none => exact absurd hc h
  | some x =>
    show x.1 ≠ 0
    unfold check at hc
    split at hc
    · injection hc with hc; subst hc; simp
    · exact chk_pos T ws 0 0 x hc
def ptrVD (z : Int) : VD := .pr (fun v w' => ∃ b o, v = .pointer (some ⟨b, o, none⟩) ∧ b < w'.heap.size ∧ w'.cell? ⟨b, o, none⟩ = some (.int .i64 z)) fun _ _ _ ⟨b, o, h1, h2, h3⟩ hb => ⟨b, o, h1, Nat.lt_of_lt_of_le h2 hb.size, (hb.cell (p := ⟨b, o, none⟩) h2).trans h3⟩
set_option maxHeartbeats 4000000 in
theorem tells_calls (w : World) (T : Int) (tick : Nat) (htick : tick ≤ 18446744073709551615) (hT : I64 T) (A : Option Addr) (c : Nat) (ws : List Win) (hA : RW w w.heap.size A ws) (hc : ws.length ≤ c) (hcm : c ≤ 140737488351232) :
    Calls Try.prog 3 #[.agg #[.int .i64 T, .slice A ws.length c], .int .u64 tick] w fun e w' => e = .returned (.bool true) ∧ Below w.heap.size w w' := by
  have h8 : ws.length ≤ 140737488351232 := by omega
  go_enter Try.func3, Try.ntmps3
  go_wp2_with fail
  refine (few_calls _ T w.heap.size A c ws (hA.below ((Below.refl _ _).alloc (Nat.le_refl _) _)) hc hcm).mono ?_
  rintro e w2 ⟨rfl, hb2⟩
  rw [show (w.alloc (.cells #[.int .i64 T, .slice A ws.length c] 24)).heap.size = w.heap.size + 1 by simp] at hb2
  have hx : Box w2 w.heap.size [.int .i64 T, .slice A ws.length c] := (Box.new w _ _).below hb2 (Nat.lt_succ_self _)
  have R := TbR.start hA hb2
  have h8' : (fewW ws).length ≤ 140737488351232 := by have := fewW_le ws; omega
  obtain ⟨ws', hws⟩ : ∃ ws', ws' = fewW ws := ⟨_, rfl⟩
  rw [← hws] at R h8' ⊢
  have d0 : w2.cell? ⟨w.heap.size, 0, none⟩ = some (.int .i64 T) := hx.cell rfl
  have d1 : w2.cell? ⟨w.heap.size, 1, none⟩ = some (.slice A ws.length c) := hx.cell rfl
  have f0 := box_free hx 0
  have f1 := box_free hx 1
  have HR := Lib.hid R
  clear R hb2 hx hws hA
  go_wp2_with fail
  obtain ⟨w3, hw3⟩ : ∃ w3, w3 = (w2.setCell ⟨w.heap.size, 0, none⟩ (.int .i64 T)).setCell ⟨w.heap.size, 1, none⟩ (.slice A ws'.length c) := ⟨_, rfl⟩
  rw [← hw3] at HR ⊢
  clear hw3 d0 d1 f0 f1
  refine (rcheck_calls w3 T hT A c ws' HR.out.rw h8').mono ?_
  rintro e w4 ⟨rfl, hb4⟩
  have HR4 : Hid (TbR w T A ws'.length c ws' w4) := HR.out.next hb4
  clear HR hb4
  by_cases hck : check T ws' = none
  · rw [hck]
    obtain ⟨t1, t2, t3, hf⟩ := check_none hck
    have HCK := Lib.hid hck
    clear hck hf
    simp only [codeOf]
    go_wp2_with fail
    obtain ⟨r, hr⟩ : ∃ r, r = tick % T.toNat := ⟨_, rfl⟩
    have hrt : r < T.toNat := by rw [hr]; exact Nat.mod_lt _ (by omega)
    have hrT : (r : Int) = (tick : Int) % T := by
      rw [hr]
      have : T = (T.toNat : Int) := by omega
      rw [this]; rfl
    obtain ⟨pl, hpl⟩ : ∃ pl, pl = place ws' r := ⟨_, rfl⟩
    have hwin : winP T ws' tick = pl := by unfold winP; rw [if_pos HCK.out, ← hrT, hpl]
    have hwho : whoP T ws' tick = whose ws' r := by unfold whoP; rw [if_pos HCK.out, ← hrT]
    have QP : Hid (place ws' r = pl) := Lib.hid hpl.symm
    obtain ⟨N, hN⟩ : ∃ N, Hid (N = T.toNat) := ⟨_, rfl⟩
    have QR : Hid (r < N) := Lib.hid (by rw [hN.out]; exact hrt)
    have HWI := Lib.hid hwin
    have HWH := Lib.hid hwho
    have K1 : Hid (IntKind.u64.wrap T = T) := Lib.hid <| by rw [IntKind.wrap_u64]; omega
    have K2 : Hid ((tick : Int).tmod T = (r : Int)) := Lib.hid <| by rw [Int.tmod_eq_emod_of_nonneg (by omega)]; exact hrT.symm
    have K3 : Hid (IntKind.u64.wrap (r : Int) = (r : Int)) := Lib.hid <| by rw [IntKind.wrap_u64]; omega
    have K4 : Hid (¬ T = 0) := Lib.hid <| by omega
    have K5 : Hid ((T == 0) = false) := Lib.hid <| by rw [beq_eq_false_iff_ne]; omega
    have K6 : Hid (IntKind.i64.wrap (r : Int) = (r : Int)) := Lib.hid <| by rw [IntKind.wrap_i64]; omega
    have HRD : Hid (TbR w T A ws'.length c ws' w4.drew) := HR4.out.drew
    have SP : Hid (∀ w', Below w4.drew.heap.size w4.drew w' → Calls Try.prog 10 #[.agg #[.int .i64 T, .slice A ws'.length c]] w' fun e w'' => ∃ v, e = .returned v ∧ (plVD ws' N).ok v w'' ∧ Below w'.heap.size w' w'') :=
      fun w' h => (places_calls w' T A c ws' (HRD.out.next h).rw HCK.out).mono fun e w'' ⟨A3, c3, he, h3, hb⟩ => ⟨_, he, ⟨A3, c3, by rw [hN.out], by rw [hN.out]; exact h3⟩, hb⟩
    clear hr hrt hrT hpl hwin hwho
    refine region_monos (fun i => ([.is (.agg #[.int .i64 T, .slice A ws'.length c]), (plVD ws' N), .is (.int .u64 (tick : Int)), .is (.pointer (some ⟨w.heap.size, 0, none⟩)), .is (.int .i64 T), .is (.int .u64 T), .is (.int .u64 (r : Int)), .is (.int .i64 (r : Int)), (ptrVD pl), .is (.int .i64 pl), .is (.int .i64 pl)] : List VD).getD i (.is undef)) [some 18, some 19, some 20, some 21, some 22, some 23, some 24, some 25, some 26, some 27, some 6] (by kernel_rfl) (by kernel_rfl) (by kernel_rfl) rfl (fun ii hii => ?_) ?_
    · match ii, hii with
      | 0, _ => exact mstep_pure rfl (mwant_none rfl) (fun aa ww cc => ⟨.agg #[.int .i64 T, .slice A ws'.length c], by have e0 : aa.tmps.getD 2 undef = .pointer (some ⟨w.heap.size, 0, none⟩) := (cc.orig 2 (by kernel_rfl)).trans rfl; have m0 := (HRD.out.next cc.below).c0; have m1 := (HRD.out.next cc.below).c1; simp only [execOp, Act.eval, e0]; go_simp, rfl⟩)
      | 1, _ => exact mstep_call rfl (mwant_none rfl) _ _ _ rfl (enters_of Try.func10 (by kernel_rfl) rfl) (fun aa ww cc => by have e0 : aa.tmps.getD 18 undef = .agg #[.int .i64 T, .slice A ws'.length c] := cc.slot 0 18 (by kernel_rfl) rfl; simp only [List.map_toArray, List.map_cons, List.map_nil, Act.eval, e0]; exact (SP.out) ww cc.below)
      | 2, _ => exact mstep_first rfl (mwant_none rfl) 1 (Or.inl rfl) (by kernel_rfl) (fun _ _ => rfl)
      | 3, _ => exact mstep_pure rfl (mwant_none rfl) (fun aa ww cc => ⟨.pointer (some ⟨w.heap.size, 0, none⟩), by have e0 : aa.tmps.getD 2 undef = .pointer (some ⟨w.heap.size, 0, none⟩) := (cc.orig 2 (by kernel_rfl)).trans rfl; simp only [execOp, Act.eval, e0]; go_simp, rfl⟩)
      | 4, _ => exact mstep_pure rfl (mwant_none rfl) (fun aa ww cc => ⟨.int .i64 T, by have e0 : aa.tmps.getD 21 undef = .pointer (some ⟨w.heap.size, 0, none⟩) := cc.slot 3 21 (by kernel_rfl) rfl; have m0 := (HRD.out.next cc.below).c0; have m1 := (HRD.out.next cc.below).c1; simp only [execOp, Act.eval, e0]; go_simp, rfl⟩)
      | 5, _ => exact mstep_pure rfl (mwant_none rfl) (fun aa ww cc => ⟨.int .u64 T, by have e0 : aa.tmps.getD 22 undef = .int .i64 T := cc.slot 4 22 (by kernel_rfl) rfl; have q := K1.out; simp only [execOp, Act.eval, e0]; go_simp, rfl⟩)
      | 6, _ => exact mstep_pure rfl (mwant_none rfl) (fun aa ww cc => ⟨.int .u64 (r : Int), by have e0 : aa.tmps.getD 20 undef = .int .u64 (tick : Int) := cc.slot 2 20 (by kernel_rfl) rfl; have e1 : aa.tmps.getD 23 undef = .int .u64 T := cc.slot 5 23 (by kernel_rfl) rfl; have k2 := K2.out; have k3 := K3.out; have k4 := K4.out; have k5 := K5.out; simp only [execOp, Act.eval, e0, e1]; go_simp, rfl⟩)
      | 7, _ => exact mstep_pure rfl (mwant_none rfl) (fun aa ww cc => ⟨.int .i64 (r : Int), by have e0 : aa.tmps.getD 24 undef = .int .u64 (r : Int) := cc.slot 6 24 (by kernel_rfl) rfl; have k := K6.out; simp only [execOp, Act.eval, e0]; go_simp, rfl⟩)
      | 8, _ => exact mstep_pure rfl (mwant_none rfl) (fun aa ww cc => by obtain ⟨A3, c3, e0, h3⟩ := cc.slot 1 19 (by kernel_rfl) rfl; have e1 : aa.tmps.getD 25 undef = .int .i64 (r : Int) := cc.slot 7 25 (by kernel_rfl) rfl; obtain ⟨b3, o3, rfl, hb3, hl⟩ := h3.get (k := r) (by rw [plL_len]; exact QR.out); rw [plL_get, QP.out] at hl; have q := QR.out; exact ⟨.pointer (some ⟨b3, o3 + r, none⟩), by (simp only [execOp, Act.eval, e0, e1]; go_simp), ⟨b3, o3 + r, rfl, hb3, hl⟩⟩)
      | 9, _ => exact mstep_pure rfl (mwant_none rfl) (fun aa ww cc => by obtain ⟨b3, o3, e0, hb3, hl⟩ := cc.slot 8 26 (by kernel_rfl) rfl; exact ⟨.int .i64 pl, by (simp only [execOp, Act.eval, e0]; go_simp), rfl⟩)
      | 10, _ => exact mstep_copy rfl (mwant_none rfl) 27 (Or.inr rfl) 9 (by kernel_rfl) rfl rfl
      | n + 11, h => exact absurd h (by show ¬ (n + 11 < 11); omega)
    · intro VV w5 hlen hb5 hok
      match VV, hlen with
      | [v0, v1, v2, v3, v4, v5, v6, v7, v8, v9, v10], _ =>
        obtain rfl : v0 = .agg #[.int .i64 T, .slice A ws'.length c] := hok 0 18 rfl
        have p1 := hok 1 19 rfl
        obtain rfl : v2 = .int .u64 (tick : Int) := hok 2 20 rfl
        obtain rfl : v3 = .pointer (some ⟨w.heap.size, 0, none⟩) := hok 3 21 rfl
        obtain rfl : v4 = .int .i64 T := hok 4 22 rfl
        obtain rfl : v5 = .int .u64 T := hok 5 23 rfl
        obtain rfl : v6 = .int .u64 (r : Int) := hok 6 24 rfl
        obtain rfl : v7 = .int .i64 (r : Int) := hok 7 25 rfl
        have p8 := hok 8 26 rfl
        obtain rfl : v9 = .int .i64 pl := hok 9 27 rfl
        obtain rfl : v10 = .int .i64 pl := hok 10 6 rfl
        have HR5 : Hid (TbR w T A ws'.length c ws' w5) := HR4.out.next hb5
        clear hok hb5 p1 p8 SP HRD HR4 K1 K2 K3 K4 K5 K6
        refine (by assumption : ∀ (a : Act) (w : World), Code.wp _ _ _ a w → _) _ _ ?_
        simp only [List.zip_cons_cons, List.zip_nil_right, putsL]
        have c0 := HR5.out.c0
        have c1 := HR5.out.c1
        have hplt := place_lt ws' r
        rw [QP.out] at hplt
        have HX : ∃ y : Int, Hid (y = whoP T ws' tick) ∧ ((pl < 0 ∧ y = -1) ∨ ∃ i : Nat, ∃ h : i < ws'.length, pl = (i : Int) ∧ y = ws'[i].part) := by
          refine ⟨_, rfl, ?_⟩
          rw [HWH.out]
          unfold whose
          rw [QP.out]
          by_cases hn : pl < 0
          · left; exact ⟨hn, if_pos hn⟩
          · right
            have hil : pl.toNat < ws'.length := by omega
            refine ⟨pl.toNat, hil, by omega, ?_⟩
            rw [if_neg hn, List.getD_eq_getElem?_getD, List.getElem?_eq_getElem hil]
            rfl
        obtain ⟨y, HY, hy⟩ := HX
        rcases hy with ⟨hn, rfl⟩ | ⟨i, hil, hi, hyi⟩
        · have hnd : decide (0 ≤ pl) = false := decide_eq_false (by omega)
          go_simp
          go_wp2_with fail
          refine (who_calls _ T tick htick hT A c ws' HR5.out.rw h8').mono ?_
          rintro e w6 ⟨rfl, hb6⟩
          rw [← HY.out]
          have HR6 : Hid (TbR w T A ws'.length c ws' w6) := HR5.out.next hb6
          clear HR5 hb6 c0 c1
          have c0 := HR6.out.c0
          have c1 := HR6.out.c1
          go_wp2_with fail
          refine (window_calls _ T tick htick hT A c ws' HR6.out.rw h8').mono ?_
          rintro e w7 ⟨rfl, hb7⟩
          rw [HWI.out]
          have HR7 : Hid (TbR w T A ws'.length c ws' w7) := HR6.out.next hb7
          clear HR6 hb7 c0 c1
          go_wp2_with fail
          refine (awake_calls _).mono ?_
          rintro e w8 ⟨rfl, hb8⟩
          have HB8 : Hid (Below w.heap.size w w8) := (HR7.out.next hb8).bel
          clear HR7 hb8
          go_wp2
          go_ret
          exact ⟨rfl, HB8.out⟩
        · subst hi
          obtain ⟨b, o, rfl, hb, d0, d1, d2, hw⟩ := HR5.out.rw.get hil
          rw [← hyi] at d0
          clear hyi hw d1 d2 hplt
          go_simp
          go_wp2_with fail
          refine (who_calls _ T tick htick hT (some ⟨b, o, none⟩) c ws' HR5.out.rw h8').mono ?_
          rintro e w6 ⟨rfl, hb6⟩
          rw [← HY.out]
          have HR6 : Hid (TbR w T (some ⟨b, o, none⟩) ws'.length c ws' w6) := HR5.out.next hb6
          clear HR5 hb6 c0 c1 d0
          have c0 := HR6.out.c0
          have c1 := HR6.out.c1
          go_wp2_with fail
          refine (window_calls _ T tick htick hT (some ⟨b, o, none⟩) c ws' HR6.out.rw h8').mono ?_
          rintro e w7 ⟨rfl, hb7⟩
          rw [HWI.out]
          have HR7 : Hid (TbR w T (some ⟨b, o, none⟩) ws'.length c ws' w7) := HR6.out.next hb7
          clear HR6 hb7 c0 c1
          go_wp2_with fail
          refine (awake_calls _).mono ?_
          rintro e w8 ⟨rfl, hb8⟩
          have HB8 : Hid (Below w.heap.size w w8) := (HR7.out.next hb8).bel
          clear HR7 hb8
          go_wp2
          go_ret
          exact ⟨rfl, HB8.out⟩
  · have hcn := code_ne T ws' hck
    obtain ⟨x, hx⟩ : ∃ x, x = codeOf (check T ws') := ⟨_, rfl⟩
    rw [← hx] at hcn ⊢
    clear hx
    have hcb : ((x.1 : Int) == 0) = false := by rw [beq_eq_false_iff_ne]; omega
    have HWI : Hid (winP T ws' tick = -1) := Lib.hid (if_neg hck)
    have HWH : Hid (whoP T ws' tick = -1) := Lib.hid (if_neg hck)
    have c0 := HR4.out.c0
    have c1 := HR4.out.c1
    clear hck
    go_wp2_with fail
    refine (who_calls _ T tick htick hT A c ws' HR4.out.rw h8').mono ?_
    rintro e w6 ⟨rfl, hb6⟩
    rw [HWH.out]
    have HR6 : Hid (TbR w T A ws'.length c ws' w6) := HR4.out.next hb6
    clear HR4 hb6 c0 c1
    have c0 := HR6.out.c0
    have c1 := HR6.out.c1
    go_wp2_with fail
    refine (window_calls _ T tick htick hT A c ws' HR6.out.rw h8').mono ?_
    rintro e w7 ⟨rfl, hb7⟩
    rw [HWI.out]
    have HR7 : Hid (TbR w T A ws'.length c ws' w7) := HR6.out.next hb7
    clear HR6 hb7 c0 c1
    go_wp2_with fail
    refine (awake_calls _).mono ?_
    rintro e w8 ⟨rfl, hb8⟩
    have HB8 : Hid (Below w.heap.size w w8) := (HR7.out.next hb8).bel
    clear HR7 hb8
    go_wp2
    go_ret
    exact ⟨rfl, HB8.out⟩
end Go.Proofs.Ythdipdbmikkplaa
