/- few, some, awake. -/
import Derived.Test.YthdipdbmikkplaaDoorTabNext
namespace Go.Proofs.YthdipdbmikkplaaDoor
open Go.RowKit Nac Nac.Table
/-- what few leaves of the windows -/
def fewW (ws : List Win) : List Win := if 34 < ws.length then ws.take 34 else ws
theorem few_calls (w : World) (T : Int) (B : Nat) (A : Option Addr) (c : Nat) (ws : List Win) (hA : RW w B A ws) (hc : ws.length ≤ c) (hcm : c ≤ 140737488351232) :
    Calls Tryd.prog 4 #[.agg #[.int .i64 T, .slice A ws.length c]] w fun e w' => e = .returned (.agg #[.int .i64 T, .slice A (fewW ws).length c]) ∧ Below w.heap.size w w' := by
  by_cases h : 34 < ws.length
  · obtain ⟨b, o, rfl, _⟩ := hA (by intro e; subst e; simp at h)
    have hl : (fewW ws).length = 34 := by unfold fewW; rw [if_pos h]; simp; omega
    have HL := Lib.hid hl; clear hl
    go_enter Tryd.func4, Tryd.ntmps4
    go_wp2
    refine bodyPost_ret (v := .agg #[.int .i64 T, .slice (some ⟨b, o, none⟩) 34 c]) (by simp [results, Tryd.results4, go_sem]) rfl ⟨?_, ?_⟩
    · rw [HL.out]
    · first
        | exact ((Below.refl _ _).alloc (Nat.le_refl _) _).alloc (by simp) _
        | exact (((Below.refl _ _).alloc (Nat.le_refl _) _).alloc (by simp) _).setCell (by simp) _
  · have hl : (fewW ws).length = ws.length := by unfold fewW; rw [if_neg h]
    have HL := Lib.hid hl; clear hl
    go_enter Tryd.func4, Tryd.ntmps4
    go_wp2
    refine bodyPost_ret (v := .agg #[.int .i64 T, .slice A ws.length c]) (by simp [results, Tryd.results4, go_sem]) rfl ⟨?_, ?_⟩
    · rw [HL.out]
    · first
        | exact ((Below.refl _ _).alloc (Nat.le_refl _) _).alloc (by simp) _
        | exact (((Below.refl _ _).alloc (Nat.le_refl _) _).alloc (by simp) _).setCell (by simp) _
theorem RW.few {w : World} {B : Nat} {A : Option Addr} {ws : List Win} (h : RW w B A ws) : RW w B A (fewW ws) := by
  unfold fewW
  split
  · rename_i hl
    intro _
    obtain ⟨b, o, hA, hb, hc⟩ := h (by rintro rfl; simp at hl)
    refine ⟨b, o, hA, hb, fun j hj => ?_⟩
    have hj' : j < ws.length := by simp at hj; omega
    rw [List.getElem_take]
    exact hc j hj'
  · exact h
def someW : List Win := [⟨0, 0, 3⟩, ⟨1, 3, 2⟩, ⟨0, 8, 2⟩]
theorem someW_ok : ∀ x ∈ someW, WinOk x := by
  intro x hx
  simp [someW] at hx
  rcases hx with rfl | rfl | rfl <;> exact ⟨⟨by decide, by decide⟩, ⟨by decide, by decide⟩, ⟨by decide, by decide⟩⟩
theorem some_calls (w : World) :
    Calls Tryd.prog 11 #[] w fun e w' => (∃ g, e = .returned (.agg #[.int .i64 10, .slice (some ⟨g, 0, none⟩) 3 3]) ∧ RW w' w'.heap.size (some ⟨g, 0, none⟩) someW) ∧ Below w.heap.size w w' := by
  go_enter Tryd.func11, Tryd.ntmps11
  go_wp2
  have hb : Below w.heap.size w ((w.alloc (.cells #[.int .i64 10, .slice (some ⟨w.heap.size + 1, 0, none⟩) 3 3] 24)).alloc (.cells #[.int .i64 0, .int .i64 0, .int .i64 3, .int .i64 1, .int .i64 3, .int .i64 2, .int .i64 0, .int .i64 8, .int .i64 2] 39)) := ((Below.refl _ _).alloc (Nat.le_refl _) _).alloc (by simp) _
  have hx := Box.new (w.alloc (.cells #[.int .i64 10, .slice (some ⟨w.heap.size + 1, 0, none⟩) 3 3] 24)) [.int .i64 0, .int .i64 0, .int .i64 3, .int .i64 1, .int .i64 3, .int .i64 2, .int .i64 0, .int .i64 8, .int .i64 2] 39
  rw [show (w.alloc (.cells #[.int .i64 10, .slice (some ⟨w.heap.size + 1, 0, none⟩) 3 3] 24)).heap.size = w.heap.size + 1 by simp] at hx
  refine bodyPost_ret (v := .agg #[.int .i64 10, .slice (some ⟨w.heap.size + 1, 0, none⟩) 3 3]) (by simp [results, Tryd.results11, go_sem]) rfl ⟨⟨w.heap.size + 1, rfl, fun _ => ⟨_, 0, rfl, by simp, fun j hj => ?_⟩⟩, hb⟩
  match j, hj with
  | 0, h => exact ⟨hx.cell rfl, hx.cell rfl, hx.cell rfl, someW_ok _ (List.getElem_mem h)⟩
  | 1, h => exact ⟨hx.cell rfl, hx.cell rfl, hx.cell rfl, someW_ok _ (List.getElem_mem h)⟩
  | 2, h => exact ⟨hx.cell rfl, hx.cell rfl, hx.cell rfl, someW_ok _ (List.getElem_mem h)⟩
  | n + 3, h => exact absurd h (by show ¬ (n + 3 < 3); omega)
/-- while awake asks: the table as it lies -/
structure AwR (w : World) (bt g : Nat) (W : World) : Prop where
  bel : Below w.heap.size w W
  lt : w.heap.size ≤ bt
  box : Box W bt [.int .i64 10, .slice (some ⟨g, 0, none⟩) 3 3]
  rw : RW W W.heap.size (some ⟨g, 0, none⟩) someW
theorem AwR.next {w W W' : World} {bt g : Nat} (h : AwR w bt g W) (hb : Below W.heap.size W W') : AwR w bt g W' :=
  ⟨h.bel.trans (hb.mono h.bel.size), h.lt, h.box.below hb h.box.lt, (h.rw.below hb).mono hb.size⟩
theorem AwR.c0 {w W : World} {bt g : Nat} (h : AwR w bt g W) : W.cell? ⟨bt, 0, none⟩ = some (.int .i64 10) := h.box.cell rfl
theorem AwR.c1 {w W : World} {bt g : Nat} (h : AwR w bt g W) : W.cell? ⟨bt, 1, none⟩ = some (.slice (some ⟨g, 0, none⟩) 3 3) := h.box.cell rfl
theorem some_check : check 10 someW = none := by decide
set_option maxHeartbeats 4000000 in
theorem awake_calls (w : World) :
    Calls Tryd.prog 7 #[] w fun e w' => e = .returned (.bool true) ∧ Below w.heap.size w w' := by
  have T10 : I64 10 := ⟨by decide, by decide⟩
  go_enter Tryd.func7, Tryd.ntmps7
  go_wp2_with fail
  refine (some_calls w).mono ?_
  rintro e w1 ⟨⟨g, rfl, hrw⟩, hb1⟩
  obtain ⟨w2, hw2⟩ : ∃ w2, w2 = w1.alloc (.cells #[.int .i64 10, .slice (some ⟨g, 0, none⟩) 3 3] 24) := ⟨_, rfl⟩
  have R : AwR w w1.heap.size g w2 := by
    rw [hw2]
    exact ⟨hb1.alloc hb1.size _, hb1.size, Box.new w1 _ _, (hrw.below ((Below.refl _ _).alloc (Nat.le_refl _) _)).mono (by simp)⟩
  have HR := Lib.hid R
  clear R hrw hb1
  go_wp2_with fail
  rw [← hw2]
  clear hw2
  obtain ⟨bt, hbt⟩ : ∃ bt, bt = w1.heap.size := ⟨_, rfl⟩
  rw [← hbt] at HR ⊢
  clear hbt
  refine (next_calls _ 10 1 14 (by decide) T10 (some ⟨g, 0, none⟩) 3 someW HR.out.rw (by decide)).mono ?_
  rintro e w3 ⟨rfl, hb3⟩
  have HR' := Lib.hid (HR.out.next hb3)
  clear hb3 HR
  have HR := HR'
  clear HR'
  have c0 := HR.out.c0
  have c1 := HR.out.c1
  rw [show nextP 10 someW 1 14 = (23, true) by decide]
  go_wp2_with fail
  clear c0 c1
  refine (check_calls _ 10 T10 (some ⟨g, 0, none⟩) 3 someW HR.out.rw (by decide)).mono ?_
  rintro e w3 ⟨⟨v, rfl, hv⟩, hb3⟩
  have HR' := Lib.hid (HR.out.next hb3)
  clear hb3 HR
  have HR := HR'
  clear HR'
  have c0 := HR.out.c0
  have c1 := HR.out.c1
  obtain rfl := errV_none hv some_check
  clear hv
  go_wp2_with fail
  clear c0 c1
  refine (who_calls _ 10 12 (by decide) T10 (some ⟨g, 0, none⟩) 3 someW HR.out.rw (by decide)).mono ?_
  rintro e w3 ⟨rfl, hb3⟩
  have HR' := Lib.hid (HR.out.next hb3)
  clear hb3 HR
  have HR := HR'
  clear HR'
  have c0 := HR.out.c0
  have c1 := HR.out.c1
  rw [show whoP 10 someW 12 = 0 by decide]
  go_wp2_with fail
  clear c0 c1
  refine (who_calls _ 10 13 (by decide) T10 (some ⟨g, 0, none⟩) 3 someW HR.out.rw (by decide)).mono ?_
  rintro e w3 ⟨rfl, hb3⟩
  have HR' := Lib.hid (HR.out.next hb3)
  clear hb3 HR
  have HR := HR'
  clear HR'
  have c0 := HR.out.c0
  have c1 := HR.out.c1
  rw [show whoP 10 someW 13 = 1 by decide]
  go_wp2_with fail
  clear c0 c1
  refine (who_calls _ 10 15 (by decide) T10 (some ⟨g, 0, none⟩) 3 someW HR.out.rw (by decide)).mono ?_
  rintro e w3 ⟨rfl, hb3⟩
  have HR' := Lib.hid (HR.out.next hb3)
  clear hb3 HR
  have HR := HR'
  clear HR'
  have c0 := HR.out.c0
  have c1 := HR.out.c1
  rw [show whoP 10 someW 15 = (-1) by decide]
  go_wp2_with fail
  clear c0 c1
  refine (share_calls _ 10 0 T10 (some ⟨g, 0, none⟩) 3 someW HR.out.rw (by decide)).mono ?_
  rintro e w3 ⟨rfl, hb3⟩
  have HR' := Lib.hid (HR.out.next hb3)
  clear hb3 HR
  have HR := HR'
  clear HR'
  have c0 := HR.out.c0
  have c1 := HR.out.c1
  rw [show shareP 10 someW 0 = 5 by decide]
  go_wp2_with fail
  clear c0 c1
  refine (turns_calls _ 10 0 12 (by decide) T10 (some ⟨g, 0, none⟩) 3 someW HR.out.rw (by decide)).mono ?_
  rintro e w3 ⟨rfl, hb3⟩
  have HB : Hid (Below w.heap.size w w3) := (HR.out.next hb3).bel
  clear hb3 HR
  rw [show turnsP 10 someW 0 12 = 7 by decide]
  go_wp2
  go_ret
  exact ⟨rfl, HB.out⟩
end Go.Proofs.YthdipdbmikkplaaDoor
