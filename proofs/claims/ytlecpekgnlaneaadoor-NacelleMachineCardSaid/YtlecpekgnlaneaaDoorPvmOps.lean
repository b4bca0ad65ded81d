/- pvm: illFormed, truth, result. -/
import Derived.Test.YtlecpekgnlaneaaDoorPvmCheck
namespace Go.Proofs.YtlecpekgnlaneaaDoor
open Go.RowKit Nac Nac.Pvm
theorem code_nil (w : World) :
    Calls Tryd.prog 31 #[.nilIface] w fun e w' => e = .returned (.int .i64 0) ∧ Below w.heap.size w w' := by
  go_enter Tryd.func31, Tryd.ntmps31
  go_wp2_with fail
  refine (outer_nil w).mono ?_
  rintro e w2 ⟨rfl, hb2⟩
  have HB := Lib.hid hb2
  clear hb2
  go_wp2
  go_ret
  exact ⟨rfl, HB.out⟩
theorem check_bad (i : Ins) (h : wf i = false) : check [i] = some (3, 0) := by simp [check, faultAt, h]
theorem check_well (i : Ins) (h : wf i = true) : check [i] = none ∨ ∃ c k, c ≠ 3 ∧ check [i] = some (c, k) := by
  unfold check
  rw [if_neg (by simp)]
  simp only [faultAt, h, List.length_cons, List.length_nil]
  rw [if_neg (by simp)]
  split
  · rename_i f hf
    split at hf
    · injection hf with hf
      subst hf
      exact .inr ⟨4, 0, by decide, rfl⟩
    · cases hf
  · split
    · exact .inr ⟨2, 0, by decide, rfl⟩
    · exact .inl rfl
set_option maxHeartbeats 4000000 in
theorem ill_calls (w : World) (hd : Hdl w) (i : Ins) (h : i.fits) : Calls Tryd.prog 33 #[.agg #[.int .u8 i.op, .int .u8 i.a, .int .u8 i.b, .int .u8 i.c]] w (RetB w (!wf i)) := by
  have HF := Lib.hid h
  have HD := Lib.hid hd
  obtain ⟨W, hW⟩ : ∃ W, W = (w.alloc (.cells #[.int .u8 i.op, .int .u8 i.a, .int .u8 i.b, .int .u8 i.c] 41)).alloc (.cells #[.int .u8 i.op, .int .u8 i.a, .int .u8 i.b, .int .u8 i.c] 41) := ⟨_, rfl⟩
  have HB : Hid (Below w.heap.size w W) := Lib.hid (by rw [hW]; exact ((Below.refl _ _).alloc (Nat.le_refl _) _).alloc (by simp) _)
  have hbx : Box W (w.heap.size + 1) [.int .u8 i.op, .int .u8 i.a, .int .u8 i.b, .int .u8 i.c] := by
    rw [hW]
    have := Box.new (w.alloc (.cells #[.int .u8 i.op, .int .u8 i.a, .int .u8 i.b, .int .u8 i.c] 41)) [.int .u8 i.op, .int .u8 i.a, .int .u8 i.b, .int .u8 i.c] 41
    rwa [show (w.alloc (.cells #[.int .u8 i.op, .int .u8 i.a, .int .u8 i.b, .int .u8 i.c] 41)).heap.size = w.heap.size + 1 by simp] at this
  have HRI : Hid (RIn W W.heap.size (some ⟨w.heap.size + 1, 0, none⟩) [i]) := Lib.hid fun _ => by
    refine ⟨w.heap.size + 1, 0, rfl, hbx.lt, fun j hj => ?_⟩
    obtain rfl : j = 0 := by simp at hj; omega
    exact ⟨hbx.cell rfl, hbx.cell rfl, hbx.cell rfl, hbx.cell rfl, HF.out⟩
  clear hbx hd h
  go_enter Tryd.func33, Tryd.ntmps33
  go_wp2_with fail
  rw [← hW]
  clear hW
  refine (check_calls W (some ⟨w.heap.size + 1, 0, none⟩) 1 [i] HRI.out (by simp)).mono ?_
  rintro e w2 ⟨⟨v, rfl, hv⟩, hb2⟩
  have HB2 : Hid (Below w.heap.size w w2) := Lib.hid (HB.out.trans (hb2.mono HB.out.size))
  have HD2 : Hid (Hdl w2) := HD.out.below HB2.out HD.out.lt
  clear hb2 HRI
  cases hw : wf i with
  | false =>
    rw [check_bad i hw] at hv
    obtain ⟨g, rfl, hbox⟩ := hv
    have HX := Lib.hid hbox
    have HW := Lib.hid hw
    clear hbox hw
    go_wp2_with fail
    refine (code_hit w2 g _ _ HD2.out HX.out).mono ?_
    rintro e w3 ⟨rfl, hb3⟩
    have HB3 : Hid (Below w.heap.size w w3) := Lib.hid (HB2.out.trans (hb3.mono HB2.out.size))
    clear hb3
    go_wp2
    go_ret
    exact retB (by rw [HW.out]; rfl) HB3.out
  | true =>
    rcases check_well i hw with hc | ⟨c, k, hc3, hc⟩
    · rw [hc] at hv
      have hv' : v = .nilIface := hv
      subst hv'
      have HW := Lib.hid hw
      clear hv hw hc
      go_wp2_with fail
      refine (code_nil w2).mono ?_
      rintro e w3 ⟨rfl, hb3⟩
      have HB3 : Hid (Below w.heap.size w w3) := Lib.hid (HB2.out.trans (hb3.mono HB2.out.size))
      clear hb3
      go_wp2
      go_ret
      exact retB (by rw [HW.out]; rfl) HB3.out
    · rw [hc] at hv
      obtain ⟨g, rfl, hbox⟩ := hv
      have HX := Lib.hid hbox
      have hcb : ((c : Int) == 3) = false := by simp; omega
      have HW := Lib.hid hw
      clear hbox hw hc hc3
      go_wp2_with fail
      refine (code_hit w2 g _ _ HD2.out HX.out).mono ?_
      rintro e w3 ⟨rfl, hb3⟩
      have HB3 : Hid (Below w.heap.size w w3) := Lib.hid (HB2.out.trans (hb3.mono HB2.out.size))
      clear hb3
      go_wp2
      go_ret
      exact retB (by rw [HW.out]; rfl) HB3.out
theorem truth_calls (w : World) (b : Bool) : Calls Tryd.prog 46 #[.bool b] w fun e w' => e = .returned (.int .i64 (if b then 1 else 0)) ∧ w = w' := by
  cases b
  all_goals
    go_enter Tryd.func46, Tryd.ntmps46
    go_wp2
    go_ret
    exact ⟨rfl, rfl⟩
set_option maxHeartbeats 4000000 in
theorem result_calls (w : World) (op : Nat) (b c : Int) (hop : 3 ≤ op ∧ op ≤ 12) (hc : (op = 6 ∨ op = 7) → c ≠ 0) : Calls Tryd.prog 41 #[.int .u8 op, .int .i64 b, .int .i64 c] w fun e w' => e = .returned (.int .i64 (res op b c)) ∧ w = w' := by
  have hcb : (op = 6 ∨ op = 7) → (c == 0) = false := fun h => by simp; exact hc h
  rcases (by omega : op = 3 ∨ op = 4 ∨ op = 5 ∨ op = 6 ∨ op = 7 ∨ op = 8 ∨ op = 9 ∨ op = 10 ∨ op = 11 ∨ op = 12) with rfl | rfl | rfl | rfl | rfl | rfl | rfl | rfl | rfl | rfl
  all_goals
    first
      | (have hc0 := hcb (by omega); have hc1 : ¬ c = 0 := hc (by omega); clear hcb hc)
      | clear hcb hc
    go_enter Tryd.func41, Tryd.ntmps41
    go_wp2_with (go_at_call 46; refine (truth_calls _ _).mono ?_; rintro e w' ⟨rfl, rfl⟩)
    all_goals
      go_ret
      first
        | exact ⟨rfl, rfl⟩
        | (refine ⟨?_, rfl⟩; show Ending.returned (.int .i64 1) = _; simp_all [res]; done)
        | (refine ⟨?_, rfl⟩; show Ending.returned (.int .i64 0) = _; simp_all [res]; done)
        | (refine ⟨?_, rfl⟩; show Ending.returned (.int .i64 0) = _; simp [res]; omega)
end Go.Proofs.YtlecpekgnlaneaaDoor
