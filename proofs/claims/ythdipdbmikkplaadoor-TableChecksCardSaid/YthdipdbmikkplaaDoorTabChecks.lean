/- TableChecks. -/
import Derived.Test.YthdipdbmikkplaaDoorTabL
import Derived.Test.YthdipdbmikkplaaDoorTabRef
import Derived.Test.YthdipdbmikkplaaDoorFault
namespace Go.Proofs.YthdipdbmikkplaaDoor
open Go.RowKit Nac Nac.Table
theorem chk_pos (T : Int) : ∀ (ws : List Win) (e : Int) (i : Nat) (x : Nat × Nat), chk T ws e i = some x → x.1 ≠ 0 := by
  intro ws
  induction ws with
  | nil => intro e i x h; cases h
  | cons w ws ih =>
    intro e i x h
    unfold chk at h
    split at h
    · injection h with h; subst h; simp
    split at h
    · injection h with h; subst h; simp
    split at h
    · injection h with h; subst h; simp
    · exact ih _ _ _ h
theorem check_pos (T : Int) (ws : List Win) (x : Nat × Nat) (hc : check T ws = some x) : x.1 ≠ 0 := by
  unfold check at hc
  split at hc
  · injection hc with hc; subst hc; simp
  · exact chk_pos T ws 0 0 x hc
set_option maxHeartbeats 4000000 in
theorem checks_calls (w : World) (hd : Hdl w) (T : Int) (hT : I64 T) (A : Option Addr) (c : Nat) (ws : List Win) (hA : RW w w.heap.size A ws) (hc : ws.length ≤ c) (hcm : c ≤ 140737488351232) :
    Calls Tryd.prog 3 #[.agg #[.int .i64 T, .slice A ws.length c]] w fun e w' => e = .returned (.bool true) ∧ Below w.heap.size w w' := by
  have h8 : ws.length ≤ 140737488351232 := by omega
  go_enter Tryd.func3, Tryd.ntmps3
  go_wp2_with fail
  refine (few_calls _ T w.heap.size A c ws (hA.below ((Below.refl _ _).alloc (Nat.le_refl _) _)) hc hcm).mono ?_
  rintro e w2 ⟨rfl, hb2⟩
  rw [show (w.alloc (.cells #[.int .i64 T, .slice A ws.length c] 24)).heap.size = w.heap.size + 1 by simp] at hb2
  have hx : Box w2 w.heap.size [.int .i64 T, .slice A ws.length c] := (Box.new w _ _).below hb2 (Nat.lt_succ_self _)
  have R := TbR.start hA hb2
  have h8' : (fewW ws).length ≤ 140737488351232 := by have := fewW_le ws; omega
  obtain ⟨ws', hws⟩ : ∃ ws', ws' = fewW ws := ⟨_, rfl⟩
  rw [← hws] at R h8' ⊢
  have d0 : w2.cell? ⟨w.heap.size, 0, none⟩ = some (.int .i64 T) := hx.cell rfl
  have d1 : w2.cell? ⟨w.heap.size, 1, none⟩ = some (.slice A ws.length c) := hx.cell rfl
  have f0 := box_free hx 0
  have f1 := box_free hx 1
  have HR := Lib.hid R
  have HD := Lib.hid hd
  clear R hb2 hx hws hA hd
  go_wp2_with fail
  obtain ⟨w3, hw3⟩ : ∃ w3, w3 = (w2.setCell ⟨w.heap.size, 0, none⟩ (.int .i64 T)).setCell ⟨w.heap.size, 1, none⟩ (.slice A ws'.length c) := ⟨_, rfl⟩
  rw [← hw3] at HR ⊢
  clear hw3 d0 d1 f0 f1
  refine (check_calls w3 T hT A c ws' HR.out.rw h8').mono ?_
  rintro e w4 ⟨⟨v, rfl, hv⟩, hb4⟩
  have HR4 : Hid (TbR w T A ws'.length c ws' w4) := HR.out.next hb4
  have HV := Lib.hid hv
  clear HR hb4 hv
  have c0 := HR4.out.c0
  have c1 := HR4.out.c1
  go_wp2_with fail
  refine (rcheck_calls w4 T hT A c ws' HR4.out.rw h8').mono ?_
  rintro e w5 ⟨rfl, hb5⟩
  have HR5 : Hid (TbR w T A ws'.length c ws' w5) := HR4.out.next hb5
  cases hck : check T ws' with
  | none =>
    obtain rfl := errV_none HV.out hck
    clear HV HR4 hb5 c0 c1 hck
    simp only [codeOf]
    go_wp2_with fail
    refine (awake_calls _).mono ?_
    rintro e w8 ⟨rfl, hb8⟩
    have HB8 : Hid (Below w.heap.size w w8) := (HR5.out.next hb8).bel
    clear HR5 hb8
    go_wp2
    go_ret
    exact ⟨rfl, HB8.out⟩
  | some x =>
    have hpos := check_pos T ws' x hck
    have hv := HV.out
    rw [hck] at hv
    obtain ⟨cd, at_⟩ := x
    simp only at hpos
    obtain ⟨g, rfl, hbox⟩ := hv
    have hbox5 := hbox.below hb5 hbox.lt
    have HX5 := Lib.hid hbox5
    have hcb : ((cd : Int) == 0) = false := by rw [beq_eq_false_iff_ne]; omega
    have HD5 : Hid (Hdl w5) := HD.out.below HR5.out.bel HD.out.lt
    clear HV HR4 hb5 c0 c1 hck hbox hbox5 hpos
    simp only [codeOf]
    go_wp2_with fail
    refine (code_hit _ g cd at_ HD5.out HX5.out).mono ?_
    rintro e w6 ⟨rfl, hb6⟩
    have HR6 : Hid (TbR w T A ws'.length c ws' w6) := HR5.out.next hb6
    have HX6 : Hid (Box w6 g [.int .i64 cd, .int .i64 at_, .nilIface]) := HX5.out.below hb6 HX5.out.lt
    have HD6 : Hid (Hdl w6) := HD.out.below HR6.out.bel HD.out.lt
    clear HR5 HX5 HD5 hb6
    go_wp2_with fail
    refine (path_hit _ g cd at_ HD6.out HX6.out).mono ?_
    rintro e w7 ⟨gp, cp, rfl, hcp, hgp, hb7⟩
    have HR7 : Hid (TbR w T A ws'.length c ws' w7) := HR6.out.next hb7
    have HX7 : Hid (Box w7 g [.int .i64 cd, .int .i64 at_, .nilIface]) := HX6.out.below hb7 HX6.out.lt
    have HD7 : Hid (Hdl w7) := HD.out.below HR7.out.bel HD.out.lt
    clear HR6 HX6 HD6 hb7 hcp hgp
    go_wp2_with fail
    refine (path_hit _ g cd at_ HD7.out HX7.out).mono ?_
    rintro e w8 ⟨gp', cp', rfl, hcp, hgp, hb8⟩
    have HR8 : Hid (TbR w T A ws'.length c ws' w8) := HR7.out.next hb8
    clear HR7 HX7 HD7 hb8 hgp
    go_wp2_with fail
    refine (awake_calls _).mono ?_
    rintro e w9 ⟨rfl, hb9⟩
    have HB9 : Hid (Below w.heap.size w w9) := (HR8.out.next hb9).bel
    clear HR8 hb9 hcp
    go_wp2
    go_ret
    exact ⟨rfl, HB9.out⟩
end Go.Proofs.YthdipdbmikkplaaDoor
