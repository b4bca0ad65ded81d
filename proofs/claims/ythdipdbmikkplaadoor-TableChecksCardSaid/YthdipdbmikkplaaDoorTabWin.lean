/- Window, Who, below, Share. -/
import Derived.Test.YthdipdbmikkplaaDoorTabAt
import Derived.Deep.RegionHeld3
namespace Go.Proofs.YthdipdbmikkplaaDoor
open Go.RowKit Nac Nac.Table
theorem check_none {T : Int} {ws : List Win} (h : check T ws = none) : 1 ≤ T ∧ T ≤ 256 ∧ ws.length ≤ 32 ∧ Fit T 0 ws := by
  unfold check at h
  by_cases h0 : T < 1 ∨ 256 < T ∨ 32 < ws.length
  · rw [if_pos h0] at h; cases h
  · rw [if_neg h0] at h
    exact ⟨by omega, by omega, by omega, fit_of_chk T ws 0 0 h⟩
theorem errV_none {v : Value} {w : World} {R : Option (Nat × Nat)} (h : ErrV R v w) (hR : R = none) : v = .nilIface := by subst hR; exact h
theorem errV_some {v : Value} {w : World} {R : Option (Nat × Nat)} (h : ErrV R v w) (hR : R ≠ none) : ∃ p, v = .iface 47 p := by
  cases R with
  | none => exact absurd rfl hR
  | some x => obtain ⟨g, hv, _⟩ := h; exact ⟨_, hv⟩
set_option maxHeartbeats 2000000 in
theorem window_bad (w : World) (T : Int) (tick : Nat) (hT : I64 T) (A : Option Addr) (c : Nat) (ws : List Win) (hA : RW w w.heap.size A ws) (h8 : ws.length ≤ 140737488351232) (hc : check T ws ≠ none) :
    Calls Tryd.prog 18 #[.agg #[.int .i64 T, .slice A ws.length c], .int .u64 tick] w fun e w' => e = .returned (.int .i64 (-1)) ∧ Below w.heap.size w w' := by
  go_enter Tryd.func18, Tryd.ntmps18
  go_wp2_with fail
  have hb0 : Below w.heap.size w (w.alloc (.cells #[.int .i64 T, .slice A ws.length c] 24)) := (Below.refl _ _).alloc (Nat.le_refl _) _
  refine (check_calls _ T hT A c ws ((hA.below hb0).mono hb0.size) h8).mono ?_
  rintro e w2 ⟨⟨v, rfl, hv⟩, hb2⟩
  obtain ⟨p, rfl⟩ := errV_some hv hc
  have HB : Hid (Below w.heap.size w w2) := hb0.trans (hb2.mono hb0.size)
  clear hv hb2 hb0 hc
  go_wp2
  go_ret
  exact ⟨rfl, HB.out⟩
set_option maxHeartbeats 2000000 in
theorem window_ok (w : World) (T : Int) (tick : Nat) (htick : tick ≤ 18446744073709551615) (hT : I64 T) (A : Option Addr) (c : Nat) (ws : List Win) (hA : RW w w.heap.size A ws) (h8 : ws.length ≤ 140737488351232) (hc : check T ws = none) :
    Calls Tryd.prog 18 #[.agg #[.int .i64 T, .slice A ws.length c], .int .u64 tick] w fun e w' => e = .returned (.int .i64 (place ws (tick % T))) ∧ Below w.heap.size w w' := by
  obtain ⟨t1, t2, t3, hf⟩ := check_none hc
  go_enter Tryd.func18, Tryd.ntmps18
  go_wp2_with fail
  obtain ⟨w1, hw1⟩ : ∃ w1, w1 = w.alloc (.cells #[.int .i64 T, .slice A ws.length c] 24) := ⟨_, rfl⟩
  have hb0 : Below w.heap.size w w1 := by rw [hw1]; exact (Below.refl _ _).alloc (Nat.le_refl _) _
  have hx0 : Box w1 w.heap.size [.int .i64 T, .slice A ws.length c] := by rw [hw1]; exact Box.new w _ _
  rw [← hw1]
  clear hw1
  have hA1 := (hA.below hb0).mono hb0.size
  refine (check_calls w1 T hT A c ws hA1 h8).mono ?_
  rintro e w2 ⟨⟨v, rfl, hv⟩, hb2⟩
  obtain rfl := errV_none hv hc
  have hx2 := hx0.below hb2 hx0.lt
  have HB : Hid (Below w.heap.size w w2) := hb0.trans (hb2.mono hb0.size)
  have m0 : w2.cell? ⟨w.heap.size, 0, none⟩ = some (.int .i64 T) := hx2.cell rfl
  have m1 : w2.cell? ⟨w.heap.size, 1, none⟩ = some (.slice A ws.length c) := hx2.cell rfl
  have hA2 := (hA1.below hb2).mono hb2.size
  clear hv hb2 hb0 hc hx0 hA1
  go_wp2_with fail
  have HA : Hid (RW w2.drew w2.drew.heap.size A ws) := hA2
  clear hA2
  have HX := Lib.hid hx2; clear hx2
  have HF := Lib.hid hf; clear hf
  have HK : I64 ((tick : Int) % T) := by have := Int.emod_nonneg (tick : Int) (show T ≠ 0 by omega); have := Int.emod_lt_of_pos (tick : Int) (show 0 < T by omega); exact ⟨by omega, by omega⟩
  have q1 : IntKind.u64.wrap T = T := by rw [IntKind.wrap_u64]; omega
  have q2 : (tick : Int).tmod T = (tick : Int) % T := Int.tmod_eq_emod_of_nonneg (by omega)
  have q3 : IntKind.u64.wrap ((tick : Int) % T) = (tick : Int) % T := by rw [IntKind.wrap_u64]; have := HK.hi; have := Int.emod_nonneg (tick : Int) (show T ≠ 0 by omega); omega
  have q4 : IntKind.i64.wrap ((tick : Int) % T) = (tick : Int) % T := by rw [IntKind.wrap_i64]; have := HK.hi; have := HK.lo; omega
  have q5 : ¬ T = 0 := by omega
  have q6 : (T == 0) = false := by simpa using q5
  go_region_with (go_at_call 17; refine (at_calls _ T ((tick : Int) % T) hT HK A c ws HA.out h8 HF.out t2).mono ?_; rintro e w3 ⟨rfl, hb3⟩)
  all_goals
    go_wp2
    go_ret
    exact ⟨rfl, HB.out.drew.trans (hb3.mono HB.out.size)⟩
/-- what Window, Who, Share tell -/
def winP (T : Int) (ws : List Win) (tick : Nat) : Int := if check T ws = none then place ws (tick % T) else -1
def whoP (T : Int) (ws : List Win) (tick : Nat) : Int := if check T ws = none then whose ws (tick % T) else -1
theorem window_calls (w : World) (T : Int) (tick : Nat) (htick : tick ≤ 18446744073709551615) (hT : I64 T) (A : Option Addr) (c : Nat) (ws : List Win) (hA : RW w w.heap.size A ws) (h8 : ws.length ≤ 140737488351232) :
    Calls Tryd.prog 18 #[.agg #[.int .i64 T, .slice A ws.length c], .int .u64 tick] w fun e w' => e = .returned (.int .i64 (winP T ws tick)) ∧ Below w.heap.size w w' := by
  unfold winP
  by_cases hc : check T ws = none
  · rw [if_pos hc]; exact window_ok w T tick htick hT A c ws hA h8 hc
  · rw [if_neg hc]; exact window_bad w T tick hT A c ws hA h8 hc
set_option maxHeartbeats 2000000 in
theorem who_calls (w : World) (T : Int) (tick : Nat) (htick : tick ≤ 18446744073709551615) (hT : I64 T) (A : Option Addr) (c : Nat) (ws : List Win) (hA : RW w w.heap.size A ws) (h8 : ws.length ≤ 140737488351232) :
    Calls Tryd.prog 13 #[.agg #[.int .i64 T, .slice A ws.length c], .int .u64 tick] w fun e w' => e = .returned (.int .i64 (whoP T ws tick)) ∧ Below w.heap.size w w' := by
  go_enter Tryd.func13, Tryd.ntmps13
  go_wp2_with fail
  obtain ⟨w1, hw1⟩ : ∃ w1, w1 = w.alloc (.cells #[.int .i64 T, .slice A ws.length c] 24) := ⟨_, rfl⟩
  have hb0 : Below w.heap.size w w1 := by rw [hw1]; exact (Below.refl _ _).alloc (Nat.le_refl _) _
  have hx0 : Box w1 w.heap.size [.int .i64 T, .slice A ws.length c] := by rw [hw1]; exact Box.new w _ _
  rw [← hw1]
  clear hw1
  have hA1 := (hA.below hb0).mono hb0.size
  refine (window_calls w1 T tick htick hT A c ws hA1 h8).mono ?_
  rintro e w2 ⟨rfl, hb2⟩
  have hx2 := hx0.below hb2 hx0.lt
  have HB : Hid (Below w.heap.size w w2) := hb0.trans (hb2.mono hb0.size)
  have m1 : w2.cell? ⟨w.heap.size, 1, none⟩ = some (.slice A ws.length c) := hx2.cell rfl
  have hA2 := (hA1.below hb2).mono hb2.size
  clear hb2 hb0 hx0 hA1 hx2
  by_cases hn : winP T ws tick < 0
  · have hw : whoP T ws tick = -1 := by
      unfold whoP
      unfold winP at hn
      by_cases hc : check T ws = none
      · rw [if_pos hc] at hn ⊢; unfold whose; rw [if_pos hn]
      · rw [if_neg hc]
    have HW := Lib.hid hw; clear hw hA2
    obtain ⟨i, hi⟩ : ∃ i, Hid (i = winP T ws tick) := ⟨_, rfl⟩
    rw [← hi.out] at hn ⊢
    go_wp2
    go_ret
    rw [HW.out]
    exact ⟨rfl, HB.out⟩
  · have hc : check T ws = none := by
      unfold winP at hn
      by_cases hc : check T ws = none
      · exact hc
      · rw [if_neg hc] at hn; exact absurd (by decide) hn
    have hwin : winP T ws tick = place ws (tick % T) := by unfold winP; rw [if_pos hc]
    rw [hwin] at hn ⊢
    have hlt := place_lt ws (tick % T)
    obtain ⟨i, hi⟩ : ∃ i : Nat, place ws (tick % T) = (i : Int) := ⟨(place ws (tick % T)).toNat, by omega⟩
    have hw : whoP T ws tick = (ws.getD i oops).part := by
      unfold whoP whose
      rw [if_pos hc, if_neg hn, hi]
      rfl
    rw [hi] at hn hlt ⊢
    have hil : i < ws.length := by omega
    obtain ⟨b, o, rfl, hb, c0, c1, c2, hwo⟩ := hA2.get hil
    have hw' : whoP T ws tick = ws[i].part := by rw [hw, List.getD_eq_getElem?_getD, List.getElem?_eq_getElem hil]; rfl
    have HW := Lib.hid hw'
    clear hw hw' hi hc hwin hlt hA2
    go_wp2
    go_ret
    rw [HW.out]
    exact ⟨rfl, HB.out⟩
theorem belowI_append (xs ys : List Win) (p k : Int) : belowI (xs ++ ys) p k = belowI xs p k + belowI ys p k := by
  induction xs with
  | nil => simp [belowI]
  | cons x xs ih => simp only [List.cons_append, belowI, ih]; omega
theorem belowI_take (ws : List Win) (j : Nat) (h : j < ws.length) (p k : Int) : belowI (ws.take (j + 1)) p k = belowI (ws.take j) p k + (if ws[j].part = p ∧ ws[j].start < k then min ws[j].ticks (k - ws[j].start) else 0) := by
  rw [List.take_succ_eq_append_getElem h, belowI_append]
  simp [belowI]
theorem belowI_bound {T : Int} {ws : List Win} (hf : Fit T 0 ws) (p k : Int) (hk : k ≤ 256) (j : Nat) (hj : j ≤ ws.length) : 0 ≤ belowI (ws.take j) p k ∧ belowI (ws.take j) p k ≤ 256 * j := by
  induction j with
  | zero => simp [belowI]
  | succ j ih =>
    have := ih (by omega)
    have hg := fit_get hf j (by omega)
    rw [belowI_take ws j (by omega)]
    split <;> omega
set_option maxHeartbeats 2000000 in
theorem below_calls (w : World) (T p k : Int) (hk0 : 0 ≤ k) (hk : k ≤ 256) (A : Option Addr) (c : Nat) (ws : List Win) (hA : RW w w.heap.size A ws) (hl : ws.length ≤ 32) (hf : Fit T 0 ws) :
    Calls Tryd.prog 19 #[.agg #[.int .i64 T, .slice A ws.length c], .int .i64 p, .int .i64 k] w fun e w' => e = .returned (.int .u64 (belowI ws p k)) ∧ Below w.heap.size w w' := by
  have HF := Lib.hid hf; clear hf
  go_enter Tryd.func19, Tryd.ntmps19
  go_wp2_with fail
  go_loopw [7, 13] (fun s7 s13 wr => ∃ (j : Nat) (n : Int), j ≤ ws.length ∧ s13 = .int .i64 j ∧ s7 = .int .i64 n ∧ 0 ≤ n ∧ n ≤ 256 * j ∧ Hid (n = belowI (ws.take j) p k) ∧ Below w.heap.size w wr) (fun _ s13 _ => 40 - (intOf s13).toNat)
  case atStart => exact ⟨0, 0, by omega, rfl, rfl, by omega, by omega, rfl, (Below.refl _ _).alloc (Nat.le_refl _) _⟩
  case round =>
    obtain ⟨j, n, hj, rfl, rfl, hn0, hn1, HN, hbel⟩ := hrel
    by_cases hjl : j < ws.length
    · obtain ⟨b, o, rfl, hb, c0, c1, c2, hw⟩ := (hA.below hbel).get hjl
      have hst := belowI_take ws j hjl p k
      have hfg := fit_get HF.out j hjl
      have hbd := belowI_bound HF.out p k hk (j + 1) (by omega)
      obtain ⟨⟨q, s, t⟩, hx⟩ : ∃ x, x = ws[j] := ⟨_, rfl⟩
      rw [← hx] at c0 c1 c2 hst hfg
      clear hx hw
      simp only at c0 c1 c2 hst hfg
      rw [← HN.out] at hst
      obtain ⟨g1, g2, g3, g4, g5, g6⟩ := hfg
      have HB := Lib.hid hbel; clear hbel
      by_cases hp : q = p
      · by_cases hs : s < k
        · rw [if_pos ⟨hp, hs⟩] at hst
          obtain ⟨d, hd⟩ : ∃ d, min t (k - s) = d := ⟨_, rfl⟩
          have hm1 : (if k - s < t then k - s else t) = d := by rw [← hd]; split <;> omega
          rw [hd] at hst
          have hd0 : 0 ≤ d := by omega
          have hd1 : d ≤ 256 := by omega
          have HS : Hid (n + d = belowI (ws.take (j + 1)) p k) := hst.symm
          clear hst hbd hd
          subst hp
          go_wp2
          go_roundw
          case rel => exact ⟨j + 1, n + d, by omega, by go_num, by first | rfl | rw [hm1], by omega, by omega, HS, HB.out.alloc HB.out.size _⟩
          case measure => simp [intOf]; omega
        · rw [if_neg (fun h => hs h.2)] at hst
          have HS : Hid (n = belowI (ws.take (j + 1)) p k) := by show n = _; omega
          clear hst hbd
          subst hp
          go_wp2
          go_roundw
          case rel => exact ⟨j + 1, n, by omega, by go_num, rfl, by omega, by omega, HS, HB.out.alloc HB.out.size _⟩
          case measure => simp [intOf]; omega
      · rw [if_neg (fun h => hp h.1)] at hst
        have HS : Hid (n = belowI (ws.take (j + 1)) p k) := by show n = _; omega
        have hpe : (q == p) = false := by simpa using hp
        clear hst hbd
        go_wp2
        go_roundw
        case rel => exact ⟨j + 1, n, by omega, by go_num, rfl, by omega, by omega, HS, HB.out.alloc HB.out.size _⟩
        case measure => simp [intOf]; omega
    · have HB := Lib.hid hbel; clear hbel
      have hn2 : n ≤ 8192 := by omega
      go_wp2
      go_ret
      rw [HN.out, List.take_of_length_le (by omega)]
      exact ⟨rfl, HB.out⟩
end Go.Proofs.YthdipdbmikkplaaDoor
