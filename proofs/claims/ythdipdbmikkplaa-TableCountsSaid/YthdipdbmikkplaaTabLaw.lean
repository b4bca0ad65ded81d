/- What the table laws share: the table as it lies behind few. And TableShares. -/
import Derived.Test.YthdipdbmikkplaaTabAwake
namespace Go.Proofs.Ythdipdbmikkplaa
open Go.RowKit Nac Nac.Table
theorem box_setCell {w : World} {b : Nat} {cs : List Value} (h : Box w b cs) (j : Nat) (v : Value) : Box (w.setCell ⟨b, j, none⟩ v) b (cs.set j v) := by
  obtain ⟨t, h⟩ := h
  exact ⟨t, by rw [heap_setCell_same w b j _ t v h]; simp⟩
theorem box_free {w : World} {b : Nat} {cs : List Value} (h : Box w b cs) (j : Nat) : w.frozen? ⟨b, j, none⟩ = false := by
  obtain ⟨t, h⟩ := h
  exact frozen_of_row w b j _ t h
/-- the table, as a law holds it -/
structure TbR (w : World) (T : Int) (A : Option Addr) (n c : Nat) (ws : List Win) (W : World) : Prop where
  bel : Below w.heap.size w W
  box : Box W w.heap.size [.int .i64 T, .slice A n c]
  rw : RW W W.heap.size A ws
  len : n = ws.length
theorem TbR.next {w W W' : World} {T : Int} {A : Option Addr} {n c : Nat} {ws : List Win} (h : TbR w T A n c ws W) (hb : Below W.heap.size W W') : TbR w T A n c ws W' :=
  ⟨h.bel.trans (hb.mono h.bel.size), h.box.below hb h.box.lt, (h.rw.below hb).mono hb.size, h.len⟩
theorem TbR.drew {w W : World} {T : Int} {A : Option Addr} {n c : Nat} {ws : List Win} (h : TbR w T A n c ws W) : TbR w T A n c ws W.drew :=
  ⟨h.bel.drew, h.box, h.rw, h.len⟩
theorem TbR.c0 {w W : World} {T : Int} {A : Option Addr} {n c : Nat} {ws : List Win} (h : TbR w T A n c ws W) : W.cell? ⟨w.heap.size, 0, none⟩ = some (.int .i64 T) := h.box.cell rfl
theorem TbR.c1 {w W : World} {T : Int} {A : Option Addr} {n c : Nat} {ws : List Win} (h : TbR w T A n c ws W) : W.cell? ⟨w.heap.size, 1, none⟩ = some (.slice A n c) := h.box.cell rfl
/-- behind 't = few(t)' -/
theorem TbR.start {w w2 : World} {T : Int} {A : Option Addr} {c : Nat} {ws : List Win} (hA : RW w w.heap.size A ws) (hb : Below (w.heap.size + 1) (w.alloc (.cells #[.int .i64 T, .slice A ws.length c] 24)) w2) :
    TbR w T A (fewW ws).length c (fewW ws) ((w2.setCell ⟨w.heap.size, 0, none⟩ (.int .i64 T)).setCell ⟨w.heap.size, 1, none⟩ (.slice A (fewW ws).length c)) := by
  have h0 : Below w.heap.size w (w.alloc (.cells #[.int .i64 T, .slice A ws.length c] 24)) := (Below.refl _ _).alloc (Nat.le_refl _) _
  have h1 : Below w.heap.size w w2 := h0.trans (hb.mono (Nat.le_succ _))
  have h2 : Below w.heap.size w ((w2.setCell ⟨w.heap.size, 0, none⟩ (.int .i64 T)).setCell ⟨w.heap.size, 1, none⟩ (.slice A (fewW ws).length c)) := (h1.setCell (Nat.le_refl _) _).setCell (Nat.le_refl _) _
  have hx : Box w2 w.heap.size [.int .i64 T, .slice A ws.length c] := (Box.new w _ _).below hb (Nat.lt_succ_self _)
  exact ⟨h2, box_setCell (box_setCell hx 0 _) 1 _, ((RW.few hA).below h2).mono h2.size, rfl⟩
theorem fewW_le (ws : List Win) : (fewW ws).length ≤ 140737488351232 ∨ 140737488351232 < ws.length := by
  unfold fewW; split
  · left; simp; omega
  · omega
/-- the shares of the first p partitions together -/
def shares8 (T : Int) (ws : List Win) (p : Nat) : Nat := if check T ws = none then cnt8 ws T.toNat p else 0
theorem shares8_zero (T : Int) (ws : List Win) : shares8 T ws 0 = 0 := by unfold shares8; split <;> rfl
theorem shares8_succ (T : Int) (ws : List Win) (p : Nat) : shares8 T ws (p + 1) = shares8 T ws p + shareP T ws p := by
  unfold shares8 shareP
  by_cases h : check T ws = none
  · rw [if_pos h, if_pos h, if_pos h]; rfl
  · rw [if_neg h, if_neg h, if_neg h]
theorem shareP_le (T : Int) (ws : List Win) (p : Int) : shareP T ws p ≤ 256 := by
  unfold shareP
  by_cases h : check T ws = none
  · rw [if_pos h]
    have := cnt_le (tf ws p) T.toNat
    have := check_none h
    omega
  · rw [if_neg h]; omega
theorem share_none (T : Int) (ws : List Win) (p : Int) (hp : p < 0 ∨ 8 ≤ p) : shareP T ws p = 0 := by
  unfold shareP
  by_cases h : check T ws = none
  · rw [if_pos h]; exact none_out (check_none h).2.2.2 p hp T.toNat
  · rw [if_neg h]
set_option maxHeartbeats 4000000 in
theorem shares_calls (w : World) (T p : Int) (hT : I64 T) (A : Option Addr) (c : Nat) (ws : List Win) (hA : RW w w.heap.size A ws) (hc : ws.length ≤ c) (hcm : c ≤ 140737488351232) :
    Calls Try.prog 5 #[.agg #[.int .i64 T, .slice A ws.length c], .int .i64 p] w fun e w' => e = .returned (.bool true) ∧ Below w.heap.size w w' := by
  have h8 : ws.length ≤ 140737488351232 := by omega
  go_enter Try.func5, Try.ntmps5
  go_wp2_with fail
  refine (few_calls _ T w.heap.size A c ws (hA.below ((Below.refl _ _).alloc (Nat.le_refl _) _)) hc hcm).mono ?_
  rintro e w2 ⟨rfl, hb2⟩
  rw [show (w.alloc (.cells #[.int .i64 T, .slice A ws.length c] 24)).heap.size = w.heap.size + 1 by simp] at hb2
  have hx : Box w2 w.heap.size [.int .i64 T, .slice A ws.length c] := (Box.new w _ _).below hb2 (Nat.lt_succ_self _)
  have R := TbR.start hA hb2
  have h8' : (fewW ws).length ≤ 140737488351232 := by have := fewW_le ws; omega
  obtain ⟨ws', hws⟩ : ∃ ws', ws' = fewW ws := ⟨_, rfl⟩
  rw [← hws] at R h8' ⊢
  have d0 : w2.cell? ⟨w.heap.size, 0, none⟩ = some (.int .i64 T) := hx.cell rfl
  have d1 : w2.cell? ⟨w.heap.size, 1, none⟩ = some (.slice A ws.length c) := hx.cell rfl
  have f0 := box_free hx 0
  have f1 := box_free hx 1
  have HR := Lib.hid R
  clear R hb2 hx hws hA
  go_wp2_with fail
  obtain ⟨w3, hw3⟩ : ∃ w3, w3 = (w2.setCell ⟨w.heap.size, 0, none⟩ (.int .i64 T)).setCell ⟨w.heap.size, 1, none⟩ (.slice A ws'.length c) := ⟨_, rfl⟩
  rw [← hw3] at HR ⊢
  clear hw3 d0 d1 f0 f1
  go_loopw [5, 6] (fun s5 s6 wr => ∃ (k n : Nat), k ≤ 8 ∧ s6 = .int .i64 k ∧ s5 = .int .i64 n ∧ n ≤ 256 * k ∧ Hid (n = shares8 T ws' k) ∧ Hid (TbR w T A ws'.length c ws' wr)) (fun _ s6 _ => 8 - (intOf s6).toNat)
  case atStart => exact ⟨0, 0, by omega, rfl, rfl, by omega, (shares8_zero T ws').symm, HR⟩
  case round =>
    clear HR
    obtain ⟨k, n, hk, rfl, rfl, hn, HN, HR⟩ := hrel
    have c0 := HR.out.c0
    have c1 := HR.out.c1
    by_cases hk8 : k < 8
    · have hs := shareP_le T ws' k
      have HN2 : Hid (n + shareP T ws' k = shares8 T ws' (k + 1)) := by show _ = _; rw [shares8_succ, HN.out]
      obtain ⟨s, hse⟩ : ∃ s, Hid (s = shareP T ws' k) := ⟨_, rfl⟩
      rw [← hse.out] at hs HN2
      go_wp2_with fail
      refine (share_calls wr T k hT A c ws' HR.out.rw h8').mono ?_
      rintro e w4 ⟨rfl, hb4⟩
      rw [← hse.out]
      have HR4 : Hid (TbR w T A ws'.length c ws' w4) := HR.out.next hb4
      clear hb4 HR c0 c1
      go_wp2
      go_roundw
      case rel => exact ⟨k + 1, n + s, by omega, by go_num, by go_num, by omega, HN2, HR4⟩
      case measure => simp [intOf]; omega
    · obtain rfl : k = 8 := by omega
      by_cases hv : check T ws' = none
      · obtain ⟨t1, t2, t3, hf⟩ := check_none hv
        have hnT : (n : Int) ≤ T := by
          have h1 : shares8 T ws' 8 = cnt8 ws' T.toNat 8 := if_pos hv
          have h2 := cnt8_le ws' 8 T.toNat
          have := HN.out
          omega
        have hck : ∀ W, TbR w T A ws'.length c ws' W → Calls Try.prog 20 #[.agg #[.int .i64 T, .slice A ws'.length c]] W fun e w' => e = .returned .nilIface ∧ Hid (TbR w T A ws'.length c ws' w') := by
          intro W hW
          refine (check_calls W T hT A c ws' hW.rw h8').mono ?_
          rintro e w' ⟨⟨v, rfl, hv'⟩, hb⟩
          rw [errV_none hv' hv]
          exact ⟨rfl, hW.next hb⟩
        have HCK := Lib.hid hck
        clear HN hck hf
        by_cases hp : 0 ≤ p ∧ p < 8
        · obtain ⟨hp0, hp1⟩ := hp
          go_wp2_with fail
          refine (HCK.out _ HR.out).mono ?_
          rintro e w4 ⟨rfl, HR4⟩
          clear HR c0 c1
          have c0 := HR4.out.c0
          have c1 := HR4.out.c1
          go_wp2_with fail
          refine (HCK.out _ HR4.out).mono ?_
          rintro e w5 ⟨rfl, HR5⟩
          clear HR4 c0 c1
          have c0 := HR5.out.c0
          go_wp2_with fail
          refine (awake_calls _).mono ?_
          rintro e w6 ⟨rfl, hb6⟩
          have HB6 : Hid (Below w.heap.size w w6) := (HR5.out.next hb6).bel
          clear HR5 hb6 c0
          go_wp2
          go_ret
          exact ⟨rfl, HB6.out⟩
        · have hsp : shareP T ws' p = 0 := share_none T ws' p (by omega)
          have HSP := Lib.hid hsp
          have hp' : p < 0 ∨ (0 ≤ p ∧ 8 ≤ p) := by omega
          clear hp hsp
          rcases hp' with hp | ⟨hp, hp2⟩
          all_goals
            go_wp2_with fail
            refine (share_calls _ T p hT A c ws' HR.out.rw h8').mono ?_
            rintro e w4 ⟨rfl, hb4⟩
            rw [HSP.out]
            have HR4 : Hid (TbR w T A ws'.length c ws' w4) := HR.out.next hb4
            clear hb4 HR c0 c1
            have c0 := HR4.out.c0
            have c1 := HR4.out.c1
            go_wp2_with fail
            refine (HCK.out _ HR4.out).mono ?_
            rintro e w5 ⟨rfl, HR5⟩
            clear HR4 c0 c1
            have c0 := HR5.out.c0
            have c1 := HR5.out.c1
            go_wp2_with fail
            refine (HCK.out _ HR5.out).mono ?_
            rintro e w6 ⟨rfl, HR6⟩
            clear HR5 c0 c1
            have c0 := HR6.out.c0
            go_wp2_with fail
            refine (awake_calls _).mono ?_
            rintro e w7 ⟨rfl, hb7⟩
            have HB7 : Hid (Below w.heap.size w w7) := (HR6.out.next hb7).bel
            clear HR6 hb7 c0
            go_wp2
            go_ret
            exact ⟨rfl, HB7.out⟩
      · have hn0 : n = 0 := by have h1 : shares8 T ws' 8 = 0 := if_neg hv
                               have := HN.out; omega
        subst hn0
        have hck : ∀ W, TbR w T A ws'.length c ws' W → Calls Try.prog 20 #[.agg #[.int .i64 T, .slice A ws'.length c]] W fun e w' => (∃ q, e = .returned (.iface 52 q)) ∧ Hid (TbR w T A ws'.length c ws' w') := by
          intro W hW
          refine (check_calls W T hT A c ws' hW.rw h8').mono ?_
          rintro e w' ⟨⟨v, rfl, hv'⟩, hb⟩
          obtain ⟨q, rfl⟩ := errV_some hv' hv
          exact ⟨⟨q, rfl⟩, hW.next hb⟩
        have HCK := Lib.hid hck
        have hsp : shareP T ws' p = 0 := if_neg hv
        have HSP := Lib.hid hsp
        clear HN hck hsp
        have hp' : (0 ≤ p ∧ p < 8) ∨ p < 0 ∨ (0 ≤ p ∧ 8 ≤ p) := by omega
        rcases hp' with ⟨hp, hp2⟩ | hp | ⟨hp, hp2⟩
        · go_wp2_with fail
          refine (HCK.out _ HR.out).mono ?_
          rintro e w4 ⟨⟨q, rfl⟩, HR4⟩
          clear HR c0 c1
          go_wp2_with fail
          refine (awake_calls _).mono ?_
          rintro e w6 ⟨rfl, hb6⟩
          have HB6 : Hid (Below w.heap.size w w6) := (HR4.out.next hb6).bel
          clear HR4 hb6
          go_wp2
          go_ret
          exact ⟨rfl, HB6.out⟩
        all_goals
          go_wp2_with fail
          refine (share_calls _ T p hT A c ws' HR.out.rw h8').mono ?_
          rintro e w4 ⟨rfl, hb4⟩
          rw [HSP.out]
          have HR4 : Hid (TbR w T A ws'.length c ws' w4) := HR.out.next hb4
          clear hb4 HR c0 c1
          have c0 := HR4.out.c0
          have c1 := HR4.out.c1
          go_wp2_with fail
          refine (HCK.out _ HR4.out).mono ?_
          rintro e w5 ⟨⟨q, rfl⟩, HR5⟩
          clear HR4 c0 c1
          go_wp2_with fail
          refine (awake_calls _).mono ?_
          rintro e w6 ⟨rfl, hb6⟩
          have HB6 : Hid (Below w.heap.size w w6) := (HR5.out.next hb6).bel
          clear HR5 hb6
          go_wp2
          go_ret
          exact ⟨rfl, HB6.out⟩
end Go.Proofs.Ythdipdbmikkplaa
