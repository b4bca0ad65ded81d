/- Bundle 10 of the texts Filt2, Filt3, RefNum, Filt4, GShape, GFit, GCheck. -/
import Derived.Test.YtiebpmpjclnpeaaDoorGb8
import Derived.Test.YtiebpmpjclnpeaaDoorGb9
/- filter: Begin, Frame, Take, satisfied. -/
namespace Go.Proofs.YtiebpmpjclnpeaaDoor
open Go.RowKit Nac Nac.Gram Nac.Crc
theorem zCap : ((Tryd.prog.info? 36).bind (·.zero)) = some (.agg (cpv ⟨0, 0, 0⟩).toArray) := by kernel_rfl
theorem builtCap (a b c : Int) : Tryd.prog.built 36 [(0, .int .i64 a), (1, .int .i64 b), (2, .int .i64 c)] = some (cpv ⟨a, b, c⟩).toArray := by kernel_rfl
theorem builtCap0 : Tryd.prog.built 36 [] = some (cpv ⟨0, 0, 0⟩).toArray := by kernel_rfl
def RetBegin (w : World) (r b : Int) (e : Ending) (w' : World) : Prop :=
  ((e = .returned (.tuple #[.agg (cpv ⟨r, b, b⟩).toArray, .int .i64 0]) ∧ Cp.Ok ⟨r, b, b⟩) ∨ (e = .returned (.tuple #[.agg (cpv ⟨0, 0, 0⟩).toArray, .int .i64 1]) ∧ ¬ Cp.Ok ⟨r, b, b⟩)) ∧ Below w.heap.size w w'
set_option maxHeartbeats 4000000 in
theorem begin_calls (w : World) (r b : Int) : Calls Tryd.prog 5 #[.int .i64 r, .int .i64 b] w (RetBegin w r b) := by
  have hbd : ∀ w, (Instr.build 36 #[(0, .int .i64 r), (1, .int .i64 b), (2, .int .i64 b)]).run Tryd.prog w = .ok (.agg (cpv ⟨r, b, b⟩).toArray) w := fun w => run_build w _ _ _ (builtCap r b b)
  have hbz : ∀ w, (Instr.build 36 #[]).run Tryd.prog w = .ok (.agg (cpv ⟨0, 0, 0⟩).toArray) w := fun w => run_build w _ _ _ builtCap0
  go_enter Tryd.func5, Tryd.ntmps5
  go_wp2_with (first | ((with_reducible show wpList _ _ _ (Oper.mk (some 4) (Op.alloc 36) _ _ _ _ :: _) _ _); refine wpList_allocS _ zCap rfl rfl ?_) | fail)
  intro w1 hb1 hg1 hs1
  obtain ⟨b4, hb4e⟩ : ∃ b, b = w.heap.size := ⟨_, rfl⟩
  rw [← hb4e] at hb1 ⊢
  have HB1 := Lib.hid hb1
  have HW1 : Hid (Below w.heap.size w w1 ∧ w.heap.size ≤ b4) := Lib.hid ⟨grown_below hg1 (Nat.le_refl _) (fun k e => by cases e), by omega⟩
  clear hb1 hg1 hs1 hb4e
  go_wp2_with (first | ((with_reducible show wpList _ _ _ (Oper.mk (some 6) (Op.alloc 36) _ _ _ _ :: _) _ _); refine wpList_allocS _ zCap rfl rfl ?_) | fail)
  intro w2 hb2 hg2 hs2
  obtain ⟨b6, hb6e⟩ : ∃ b, b = w1.heap.size := ⟨_, rfl⟩
  rw [← hb6e] at hb2 ⊢
  have HB2 := Lib.hid hb2
  have HB42 : Hid (Blk w2 b4 (cpv ⟨0, 0, 0⟩)) := Lib.hid (HB1.out.grown hg2 (fun e => by cases e))
  have HW2 : Hid (Below w.heap.size w w2 ∧ w.heap.size ≤ b6 ∧ b4 ≠ b6) := Lib.hid ⟨below_trans HW1.out.1 (grown_below hg2 HW1.out.1.size (fun k e => by cases e)), by have := HW1.out.1.size; omega, by have := HB1.out.lt; omega⟩
  clear hb2 hg2 hs2 hb6e HB1
  go_wp2_with (first
    | ((with_reducible show wpList _ _ _ (Oper.mk _ (Op.store 36 _ _) _ _ _ _ :: _) _ _); refine wpList_storeS sCap rfl _ _ rfl b6 (cpv ⟨0, 0, 0⟩) (cpv ⟨r, b, b⟩) rfl rfl HB2.out rfl rfl (cpv_one _) ?_)
    | fail)
  intro w3 hb3 hg3
  have HB3 := Lib.hid hb3
  have HB43 : Hid (Blk w3 b4 (cpv ⟨0, 0, 0⟩)) := Lib.hid (HB42.out.grown hg3 (fun e => by injection e with e; exact HW2.out.2.2 e.symm))
  have HW3 : Hid (Below w.heap.size w w3) := Lib.hid (below_trans HW2.out.1 (grown_below hg3 HW2.out.1.size fun k e => by injection e with e; have := HW2.out.2; omega))
  clear hb3 hg3 HB2 HB42
  go_wp2_with (first
    | ((with_reducible show wpList _ _ _ (Oper.mk (some 11) (Op.load 36 _) _ _ _ _ :: _) _ _); refine wpList_loadS sCap rfl _ rfl b6 (cpv ⟨r, b, b⟩) rfl HB3.out rfl ?_)
    | fail)
  refine (may_calls w3 ⟨r, b, b⟩).mono ?_
  rintro e w4 ⟨v, rfl, hv, hb⟩
  have HV := Lib.hid hv
  have HB64 : Hid (Blk w4 b6 (cpv ⟨r, b, b⟩)) := Lib.hid (HB3.out.below hb HB3.out.lt)
  have HB44 : Hid (Blk w4 b4 (cpv ⟨0, 0, 0⟩)) := Lib.hid (HB43.out.below hb HB43.out.lt)
  have HW4 : Hid (Below w.heap.size w w4) := Lib.hid (below_trans HW3.out (hb.mono HW3.out.size))
  clear hv hb HB3 HB43
  cases v with
  | false =>
    go_wp2_with (first
      | ((with_reducible show wpList _ _ _ (Oper.mk _ (Op.store 36 _ _) _ _ _ _ :: _) _ _); refine wpList_storeS sCap rfl _ _ rfl b4 (cpv ⟨0, 0, 0⟩) (cpv ⟨0, 0, 0⟩) rfl rfl HB44.out rfl rfl (cpv_one _) ?_)
      | fail)
    intro w5 hb5 hg5
    have l5 := Lib.hid (run_loadS sCap b4 _ hb5 rfl)
    have HW5 : Hid (Below w.heap.size w w5) := Lib.hid (below_trans HW4.out (grown_below hg5 HW4.out.size fun k e => by injection e with e; have := HW1.out.2; omega))
    have HN : Hid (¬ Cp.Ok ⟨r, b, b⟩) := Lib.hid fun h => by have := HV.out.2 h; cases this
    clear hb5 hg5
    go_wp2
    exact bodyPost_ret (v := .tuple #[.agg (cpv ⟨0, 0, 0⟩).toArray, .int .i64 1]) (by simp [results, Tryd.results5, asAddr, Sem.run_bind, Sem.run_pure, l5.out]) rfl ⟨.inr ⟨rfl, HN.out⟩, HW5.out⟩
  | true =>
    have HK : Hid (Cp.Ok ⟨r, b, b⟩) := Lib.hid (HV.out.1 rfl)
    go_wp2_with (first
      | ((with_reducible show wpList _ _ _ (Oper.mk (some 15) (Op.load 36 _) _ _ _ _ :: _) _ _); refine wpList_loadS sCap rfl _ rfl b6 (cpv ⟨r, b, b⟩) rfl HB64.out rfl ?_)
      | ((with_reducible show wpList _ _ _ (Oper.mk _ (Op.store 36 _ _) _ _ _ _ :: _) _ _); refine wpList_storeS sCap rfl _ _ rfl b4 (cpv ⟨0, 0, 0⟩) (cpv ⟨r, b, b⟩) rfl rfl HB44.out rfl rfl (cpv_one _) ?_)
      | fail)
    intro w5 hb5 hg5
    have l5 := Lib.hid (run_loadS sCap b4 _ hb5 rfl)
    have HW5 : Hid (Below w.heap.size w w5) := Lib.hid (below_trans HW4.out (grown_below hg5 HW4.out.size fun k e => by injection e with e; have := HW1.out.2; omega))
    clear hb5 hg5
    go_wp2
    exact bodyPost_ret (v := .tuple #[.agg (cpv ⟨r, b, b⟩).toArray, .int .i64 0]) (by simp [results, Tryd.results5, asAddr, Sem.run_bind, Sem.run_pure, l5.out]) rfl ⟨.inl ⟨rfl, HK.out⟩, HW5.out⟩
def Cp.framed (c : Cp) : Cp := ⟨c.rate, c.burst, if c.left + c.rate ≤ c.burst then c.left + c.rate else c.burst⟩
def Cp.took (c : Cp) : Cp := ⟨c.rate, c.burst, c.left - 1⟩
theorem s1IntF : (Tryd.prog.info? 3).map (·.size) = some 1 := by kernel_rfl
set_option maxHeartbeats 4000000 in
theorem frame_calls (w : World) (c : Cp) (hc : c.Ok) : Calls Tryd.prog 10 #[.agg (cpv c).toArray] w (RetG w (.agg (cpv c.framed).toArray)) := by
  obtain ⟨r, b, l⟩ := c
  have HC := Lib.hid hc
  obtain ⟨z, hz⟩ : ∃ z, z = if l + r ≤ b then l + r else b := ⟨_, rfl⟩
  have HZ : Hid (z = if l + r ≤ b then l + r else b) := Lib.hid hz
  have q1 : IntKind.i64.wrap (l + r) = l + r := by
    have h1 : 0 ≤ r := hc.r0
    have h2 : r ≤ 64 := hc.r64
    have h3 : 0 ≤ l := hc.l0
    have h4 : l ≤ b := hc.lb
    have h5 : b ≤ 64 := hc.b64
    rw [IntKind.wrap_i64]; omega
  have q2 : (if b < l + r then b else l + r) = z := by rw [hz]; split <;> split <;> omega
  clear hc hz
  obtain ⟨y, hy⟩ : ∃ y, y = l + r := ⟨_, rfl⟩
  have HY := Lib.hid hy
  rw [← hy] at q1 q2
  clear hy
  go_enter Tryd.func10, Tryd.ntmps10
  go_wp2_with (first | ((with_reducible show wpList _ _ _ (Oper.mk (some 1) (Op.box 36 _) _ _ _ _ :: _) _ _); refine wpList_boxS (T := 36) rfl _ rfl (cpv ⟨r, b, l⟩) rfl ?_) | fail)
  intro w1 hb1 hg1 hs1
  obtain ⟨b1, hb1e⟩ : ∃ b, b = w.heap.size := ⟨_, rfl⟩
  rw [← hb1e] at hb1 ⊢
  have HB1 := Lib.hid hb1
  have HW1 : Hid (Below w.heap.size w w1 ∧ w.heap.size ≤ b1) := Lib.hid ⟨grown_below hg1 (Nat.le_refl _) (fun k e => by cases e), by omega⟩
  clear hb1 hg1 hs1 hb1e
  go_wp2_with (first | ((with_reducible show wpList _ _ _ (Oper.mk (some 2) (Op.alloc 36) _ _ _ _ :: _) _ _); refine wpList_allocS _ zCap rfl rfl ?_) | fail)
  intro w2 hb2 hg2 hs2
  obtain ⟨b2, hb2e⟩ : ∃ b, b = w1.heap.size := ⟨_, rfl⟩
  rw [← hb2e] at hb2 ⊢
  have HB2 := Lib.hid hb2
  have HB12 : Hid (Blk w2 b1 (cpv ⟨r, b, l⟩)) := Lib.hid (HB1.out.grown hg2 (fun e => by cases e))
  have HW2 : Hid (Below w.heap.size w w2 ∧ w.heap.size ≤ b2 ∧ b1 ≠ b2) := Lib.hid ⟨below_trans HW1.out.1 (grown_below hg2 HW1.out.1.size (fun k e => by cases e)), by have := HW1.out.1.size; omega, by have := HB1.out.lt; omega⟩
  clear hb2 hg2 hs2 hb2e HB1
  go_wp2_with (first
    | ((with_reducible show wpList _ _ _ (Oper.mk (some 3) (Op.load 36 _) _ _ _ _ :: _) _ _); refine wpList_loadS sCap rfl _ rfl b1 (cpv ⟨r, b, l⟩) rfl HB12.out rfl ?_)
    | fail)
  refine (may_calls w2 ⟨r, b, l⟩).mono ?_
  rintro e w4 ⟨v, rfl, hv, hb⟩
  have hvt : v = true := hv.2 HC.out
  subst hvt
  have HB14 : Hid (Blk w4 b1 (cpv ⟨r, b, l⟩)) := Lib.hid (HB12.out.below hb HB12.out.lt)
  have HB24 : Hid (Blk w4 b2 (cpv ⟨0, 0, 0⟩)) := Lib.hid (HB2.out.below hb HB2.out.lt)
  have HW4 : Hid (Below w.heap.size w w4) := Lib.hid (below_trans HW2.out.1 (hb.mono HW2.out.1.size))
  have hc0 : w4.cell? ⟨b1, 0, none⟩ = some (.int .i64 r) := HB14.out.cell rfl
  have hc1 : w4.cell? ⟨b1, 1, none⟩ = some (.int .i64 b) := HB14.out.cell rfl
  have hc2 : w4.cell? ⟨b1, 2, none⟩ = some (.int .i64 l) := HB14.out.cell rfl
  have hy : l + r = y := HY.out.symm
  clear hv hb HB12 HB2
  go_wp2_with (first
    | ((with_reducible show wpList _ _ _ (Oper.mk _ (Op.store 3 _ _) _ _ _ _ :: _) _ _); refine wpList_storeB rfl 3 _ _ rfl b1 2 _ (.int .i64 z) rfl rfl HB14.out (by simp [cpv]) s1IntF rfl ?_)
    | fail)
  intro w5 hb5 hg5
  have HB15 : Hid (Blk w5 b1 (cpv ⟨r, b, z⟩)) := Lib.hid hb5
  have HB25 : Hid (Blk w5 b2 (cpv ⟨0, 0, 0⟩)) := Lib.hid (HB24.out.grown hg5 (fun e => by injection e with e; exact HW2.out.2.2 e))
  have HW5 : Hid (Below w.heap.size w w5) := Lib.hid (below_trans HW4.out (grown_below hg5 HW4.out.size fun k e => by injection e with e; have := HW1.out.2; omega))
  clear hb5 hg5 hc0 hc1 hc2 HB14 HB24 q1 q2 hy
  go_wp2_with (first
    | ((with_reducible show wpList _ _ _ (Oper.mk (some 14) (Op.load 36 _) _ _ _ _ :: _) _ _); refine wpList_loadS sCap rfl _ rfl b1 (cpv ⟨r, b, z⟩) rfl HB15.out rfl ?_)
    | ((with_reducible show wpList _ _ _ (Oper.mk _ (Op.store 36 _ _) _ _ _ _ :: _) _ _); refine wpList_storeS sCap rfl _ _ rfl b2 (cpv ⟨0, 0, 0⟩) (cpv ⟨r, b, z⟩) rfl rfl HB25.out rfl rfl (cpv_one _) ?_)
    | fail)
  intro w6 hb6 hg6
  have l6 := Lib.hid (run_loadS sCap b2 _ hb6 rfl)
  have HW6 : Hid (Below w.heap.size w w6) := Lib.hid (below_trans HW5.out (grown_below hg6 HW5.out.size fun k e => by injection e with e; have := HW2.out.2; omega))
  clear hb6 hg6
  go_wp2
  exact bodyPost_ret (v := .agg (cpv ⟨r, b, z⟩).toArray) (by simp [results, Tryd.results10, asAddr, Sem.run_bind, Sem.run_pure, l6.out]) rfl ⟨by rw [HZ.out]; rfl, HW6.out⟩
def RetTake (w : World) (c : Cp) (e : Ending) (w' : World) : Prop :=
  ((e = .returned (.tuple #[.agg (cpv c.took).toArray, .bool true]) ∧ 1 ≤ c.left) ∨ (e = .returned (.tuple #[.agg (cpv c).toArray, .bool false]) ∧ c.left = 0)) ∧ Below w.heap.size w w'
set_option maxHeartbeats 4000000 in
theorem take_calls (w : World) (c : Cp) (hc : c.Ok) : Calls Tryd.prog 15 #[.agg (cpv c).toArray] w (RetTake w c) := by
  obtain ⟨r, b, l⟩ := c
  have HC := Lib.hid hc
  clear hc
  go_enter Tryd.func15, Tryd.ntmps15
  go_wp2_with (first | ((with_reducible show wpList _ _ _ (Oper.mk (some 1) (Op.box 36 _) _ _ _ _ :: _) _ _); refine wpList_boxS (T := 36) rfl _ rfl (cpv ⟨r, b, l⟩) rfl ?_) | fail)
  intro w1 hb1 hg1 hs1
  obtain ⟨b1, hb1e⟩ : ∃ b, b = w.heap.size := ⟨_, rfl⟩
  rw [← hb1e] at hb1 ⊢
  have HB1 := Lib.hid hb1
  have HW1 : Hid (Below w.heap.size w w1 ∧ w.heap.size ≤ b1) := Lib.hid ⟨grown_below hg1 (Nat.le_refl _) (fun k e => by cases e), by omega⟩
  clear hb1 hg1 hs1 hb1e
  go_wp2_with (first | ((with_reducible show wpList _ _ _ (Oper.mk (some 2) (Op.alloc 36) _ _ _ _ :: _) _ _); refine wpList_allocS _ zCap rfl rfl ?_) | fail)
  intro w2 hb2 hg2 hs2
  obtain ⟨b2, hb2e⟩ : ∃ b, b = w1.heap.size := ⟨_, rfl⟩
  rw [← hb2e] at hb2 ⊢
  have HB2 := Lib.hid hb2
  have HB12 : Hid (Blk w2 b1 (cpv ⟨r, b, l⟩)) := Lib.hid (HB1.out.grown hg2 (fun e => by cases e))
  have HW2 : Hid (Below w.heap.size w w2 ∧ w.heap.size ≤ b2 ∧ b1 ≠ b2) := Lib.hid ⟨below_trans HW1.out.1 (grown_below hg2 HW1.out.1.size (fun k e => by cases e)), by have := HW1.out.1.size; omega, by have := HB1.out.lt; omega⟩
  clear hb2 hg2 hs2 hb2e HB1
  go_wp2_with (first
    | ((with_reducible show wpList _ _ _ (Oper.mk (some 4) (Op.load 36 _) _ _ _ _ :: _) _ _); refine wpList_loadS sCap rfl _ rfl b1 (cpv ⟨r, b, l⟩) rfl HB12.out rfl ?_)
    | fail)
  refine (may_calls w2 ⟨r, b, l⟩).mono ?_
  rintro e w4 ⟨v, rfl, hv, hb⟩
  have hvt : v = true := hv.2 HC.out
  subst hvt
  have HB14 : Hid (Blk w4 b1 (cpv ⟨r, b, l⟩)) := Lib.hid (HB12.out.below hb HB12.out.lt)
  have HB24 : Hid (Blk w4 b2 (cpv ⟨0, 0, 0⟩)) := Lib.hid (HB2.out.below hb HB2.out.lt)
  have HW4 : Hid (Below w.heap.size w w4) := Lib.hid (below_trans HW2.out.1 (hb.mono HW2.out.1.size))
  have hc2 : w4.cell? ⟨b1, 2, none⟩ = some (.int .i64 l) := HB14.out.cell rfl
  clear hv hb HB12 HB2
  by_cases h0 : l = 0
  · subst h0
    go_wp2_with (first
      | ((with_reducible show wpList _ _ _ (Oper.mk (some 12) (Op.load 36 _) _ _ _ _ :: _) _ _); refine wpList_loadS sCap rfl _ rfl b1 (cpv ⟨r, b, 0⟩) rfl HB14.out rfl ?_)
      | ((with_reducible show wpList _ _ _ (Oper.mk _ (Op.store 36 _ _) _ _ _ _ :: _) _ _); refine wpList_storeS sCap rfl _ _ rfl b2 (cpv ⟨0, 0, 0⟩) (cpv ⟨r, b, 0⟩) rfl rfl HB24.out rfl rfl (cpv_one _) ?_)
      | fail)
    intro w6 hb6 hg6
    have l6 := Lib.hid (run_loadS sCap b2 _ hb6 rfl)
    have HW6 : Hid (Below w.heap.size w w6) := Lib.hid (below_trans HW4.out (grown_below hg6 HW4.out.size fun k e => by injection e with e; have := HW2.out.2; omega))
    clear hb6 hg6
    go_wp2
    exact bodyPost_ret (v := .tuple #[.agg (cpv ⟨r, b, 0⟩).toArray, .bool false]) (by simp [results, Tryd.results15, asAddr, Sem.run_bind, Sem.run_pure, l6.out]) rfl ⟨.inr ⟨rfl, rfl⟩, HW6.out⟩
  · have hb0 : (l == 0) = false := by simpa using h0
    obtain ⟨z, hz⟩ : ∃ z, z = l - 1 := ⟨_, rfl⟩
    have HZ := Lib.hid hz
    have hl : 0 ≤ l ∧ l ≤ 64 := by
      have h3 : 0 ≤ l := HC.out.l0
      have h4 : l ≤ b := HC.out.lb
      have h5 : b ≤ 64 := HC.out.b64
      omega
    have H1 : Hid (1 ≤ l) := Lib.hid (by omega)
    have q1 : IntKind.i64.wrap (l - 1) = z := by rw [IntKind.wrap_i64, hz]; omega
    clear hz hl
    go_wp2_with (first
      | ((with_reducible show wpList _ _ _ (Oper.mk _ (Op.store 3 _ _) _ _ _ _ :: _) _ _); refine wpList_storeB rfl 3 _ _ rfl b1 2 _ (.int .i64 z) rfl rfl HB14.out (by simp [cpv]) s1IntF rfl ?_)
      | fail)
    intro w5 hb5 hg5
    have HB15 : Hid (Blk w5 b1 (cpv ⟨r, b, z⟩)) := Lib.hid hb5
    have HB25 : Hid (Blk w5 b2 (cpv ⟨0, 0, 0⟩)) := Lib.hid (HB24.out.grown hg5 (fun e => by injection e with e; exact HW2.out.2.2 e))
    have HW5 : Hid (Below w.heap.size w w5) := Lib.hid (below_trans HW4.out (grown_below hg5 HW4.out.size fun k e => by injection e with e; have := HW1.out.2; omega))
    clear hb5 hg5 hc2 HB14 HB24 q1
    go_wp2_with (first
      | ((with_reducible show wpList _ _ _ (Oper.mk (some 17) (Op.load 36 _) _ _ _ _ :: _) _ _); refine wpList_loadS sCap rfl _ rfl b1 (cpv ⟨r, b, z⟩) rfl HB15.out rfl ?_)
      | ((with_reducible show wpList _ _ _ (Oper.mk _ (Op.store 36 _ _) _ _ _ _ :: _) _ _); refine wpList_storeS sCap rfl _ _ rfl b2 (cpv ⟨0, 0, 0⟩) (cpv ⟨r, b, z⟩) rfl rfl HB25.out rfl rfl (cpv_one _) ?_)
      | fail)
    intro w6 hb6 hg6
    have l6 := Lib.hid (run_loadS sCap b2 _ hb6 rfl)
    have HW6 : Hid (Below w.heap.size w w6) := Lib.hid (below_trans HW5.out (grown_below hg6 HW5.out.size fun k e => by injection e with e; have := HW2.out.2; omega))
    clear hb6 hg6
    go_wp2
    exact bodyPost_ret (v := .tuple #[.agg (cpv ⟨r, b, z⟩).toArray, .bool true]) (by simp [results, Tryd.results15, asAddr, Sem.run_bind, Sem.run_pure, l6.out]) rfl ⟨.inl ⟨by rw [HZ.out]; rfl, H1.out⟩, HW6.out⟩
/-- the bytes of a field -/
def cutF (f : Fld) (l : List UInt8) : List UInt8 := (l.take (f.at_.toNat + f.size.toNat)).drop f.at_.toNat
/-- a field is as the rule asks -/
structure SatF (f : Fld) (l : List UInt8) : Prop where
  len : f.at_ + f.size ≤ l.length
  lo : f.low ≤ le (cutF f l)
  hi : le (cutF f l) ≤ f.high
set_option maxHeartbeats 4000000 in
theorem satisfied_calls (w : World) (f : Fld) (A : Option Addr) (c : Nat) (l : List UInt8) (hf : f.Ok) (hl : RB w w.heap.size A l) (hc : l.length ≤ c) (hlm : l.length ≤ 9223372036854775807) :
    Calls Tryd.prog 27 #[.agg (fdv f).toArray, .slice A l.length c] w (RetB w (SatF f l)) := by
  obtain ⟨a, s, lo, hi⟩ := f
  have ha : 0 ≤ a := hf.a
  have hs1 : 1 ≤ s := hf.s1
  have hs8 : s ≤ 8 := hf.s8
  have he : a + s ≤ 64 := hf.e
  obtain ⟨a, rfl⟩ := Int.eq_ofNat_of_zero_le ha
  obtain ⟨s, rfl⟩ := Int.eq_ofNat_of_zero_le (by omega : 0 ≤ s)
  have HLB := Lib.hid hl
  have HCC := Lib.hid hc
  obtain ⟨L, hL⟩ : ∃ L, L = l.length := ⟨_, rfl⟩
  have HL := Lib.hid hL
  rw [← hL] at hlm ⊢
  have HS : Hid (1 ≤ s ∧ s ≤ 8 ∧ a + s ≤ 64) := Lib.hid (by omega)
  obtain ⟨e2, he2⟩ : ∃ e2, e2 = a + s := ⟨_, rfl⟩
  have HE := Lib.hid he2
  have q1 : IntKind.i64.wrap ((a : Int) + (s : Int)) = (e2 : Int) := by rw [IntKind.wrap_i64, he2]; omega
  have he64 : e2 ≤ 64 := by omega
  clear hf hl hc hL ha hs1 hs8 he he2
  go_enter Tryd.func27, Tryd.ntmps27
  go_wp2_with (first | ((with_reducible show wpList _ _ _ (Oper.mk (some 2) (Op.box 79 _) _ _ _ _ :: _) _ _); refine wpList_boxS (T := 79) rfl _ rfl (fdv ⟨a, s, lo, hi⟩) rfl ?_) | fail)
  intro w1 hb1 hg1 hs1
  obtain ⟨b1, hb1e⟩ : ∃ b, b = w.heap.size := ⟨_, rfl⟩
  rw [← hb1e] at hb1 ⊢
  have HW1 : Hid (Below w.heap.size w w1) := Lib.hid (grown_below hg1 (Nat.le_refl _) (fun k e => by cases e))
  have hc0 : w1.cell? ⟨b1, 0, none⟩ = some (.int .i64 (a : Int)) := hb1.cell rfl
  have hc1 : w1.cell? ⟨b1, 1, none⟩ = some (.int .i64 (s : Int)) := hb1.cell rfl
  have hc2 : w1.cell? ⟨b1, 2, none⟩ = some (.int .u64 (lo : Int)) := hb1.cell rfl
  have hc3 : w1.cell? ⟨b1, 3, none⟩ = some (.int .u64 (hi : Int)) := hb1.cell rfl
  have HR1 : Hid (RB w1 w.heap.size A l) := Lib.hid (HLB.out.below HW1.out)
  clear hb1 hg1 hs1 hb1e
  by_cases hbig : L < e2
  · have hbi : (L : Int) < (e2 : Int) := by omega
    have HN : Hid (L < e2) := Lib.hid hbig
    go_wp2
    go_ret
    exact ⟨false, rfl, ⟨fun e => (by cases e), fun h => by have h : (a : Int) + (s : Int) ≤ (l.length : Int) := h.len; have := HN.out; have := HE.out; have := HL.out; omega⟩, HW1.out⟩
  · have hbi : ¬ (L : Int) < (e2 : Int) := by omega
    have HLE : Hid (a ≤ e2 ∧ e2 ≤ L) := Lib.hid (by have := HE.out; omega)
    clear hbig
    go_wp2_with (first
      | ((with_reducible show wpList _ _ _ (Oper.mk (some 24) _ _ _ _ _ :: _) _ _); refine wpList_cut _ (.inl rfl) _ _ _ rfl w.heap.size A L c l HL.out rfl HR1.out HCC.out a e2 (.inr rfl) (.inr rfl) HLE.out.1 HLE.out.2 ?_)
      | fail)
    intro A2 m l2 hl2 hm hml hr2
    have HL2 : Hid (l2 = cutF ⟨a, s, lo, hi⟩ l) := Lib.hid (by rw [hl2.out]; show _ = (l.take ((a : Int).toNat + (s : Int).toNat)).drop (a : Int).toNat; rw [HE.out]; rfl)
    have HM : Hid (l2.length = s) := Lib.hid (by have := hm.out; have := HE.out; omega)
    have HR2 := Lib.hid hr2
    clear hl2 hm hml hr2
    obtain ⟨n2, hn2⟩ : ∃ n2, n2 = l2.length := ⟨_, rfl⟩
    have HN2 := Lib.hid hn2
    rw [← hn2]
    clear hn2
    go_wp2_with fail
    refine (get_calls_n w1 w.heap.size A2 n2 (c - a) l2 HN2.out HR2.out (by have := HM.out; have := HS.out; omega) (by have := HM.out; have := HS.out; omega)).mono ?_
    rintro e w2 ⟨rfl, hw⟩
    subst hw
    obtain ⟨v, hv⟩ : ∃ v, v = le l2 := ⟨_, rfl⟩
    have HV : Hid (v = le (cutF ⟨a, s, lo, hi⟩ l)) := Lib.hid (by rw [hv, HL2.out])
    rw [← hv]
    have HLEN : Hid ((a : Int) + (s : Int) ≤ (l.length : Int)) := Lib.hid (by have := HLE.out; have := HE.out; have := HL.out; omega)
    clear hv
    by_cases h1 : lo ≤ v
    · by_cases h2 : v ≤ hi
      · have H2 : Hid (lo ≤ v ∧ v ≤ hi) := Lib.hid ⟨h1, h2⟩
        go_wp2
        go_ret
        exact ⟨true, rfl, ⟨fun _ => ⟨HLEN.out, by rw [← HV.out]; exact H2.out.1, by rw [← HV.out]; exact H2.out.2⟩, fun _ => rfl⟩, HW1.out⟩
      · have H2 : Hid (¬ v ≤ hi) := Lib.hid h2
        go_wp2
        go_ret
        exact ⟨false, rfl, ⟨fun e => (by cases e), fun h => by have h := h.hi; rw [← HV.out] at h; have h : v ≤ hi := h; have := H2.out; omega⟩, HW1.out⟩
    · have H2 : Hid (¬ lo ≤ v) := Lib.hid h1
      go_wp2
      go_ret
      exact ⟨false, rfl, ⟨fun e => (by cases e), fun h => by have h := h.lo; rw [← HV.out] at h; have h : lo ≤ v := h; have := H2.out; omega⟩, HW1.out⟩
end Go.Proofs.YtiebpmpjclnpeaaDoor
/- filter: Check, Pass. -/
namespace Go.Proofs.YtiebpmpjclnpeaaDoor
open Go.RowKit Nac Nac.Gram Nac.Crc
def rlv (least most : Int) (A : Option Addr) (n c : Nat) : List Value := [.int .i64 least, .int .i64 most, .slice A n c]
theorem rlv_one (a b : Int) (A : Option Addr) (n c : Nat) : ∀ v ∈ rlv a b A n c, v.oneCell' = true := by intro v hv; simp [rlv] at hv; rcases hv with rfl | rfl | rfl <;> rfl
theorem sRul : SInfo 24 3 := ⟨by kernel_rfl, _, Tryd.underlying24, rfl⟩
/-- the slice at A is a row of fields that lies below block B -/
def RF (w : World) (B : Nat) (A : Option Addr) (fs : List Fld) : Prop := fs ≠ [] → ∃ g k, A = some ⟨g, k, none⟩ ∧ g < B ∧ g < w.heap.size ∧ ∀ i (h : i < fs.length), w.rangeAt g (k + i * 4) (fdv fs[i])
theorem RF.below {w w' : World} {B B' : Nat} {A : Option Addr} {fs : List Fld} (h : RF w B A fs) (hb : Below B' w w') (hB : B ≤ B') : RF w' B A fs := fun hne => by
  obtain ⟨g, k, hA, hg, hgs, hr⟩ := h hne
  exact ⟨g, k, hA, hg, Nat.lt_of_lt_of_le hgs hb.size, fun i hi => range_below (hr i hi) hb (by omega)⟩
theorem RF.mono {w : World} {B B' : Nat} {A : Option Addr} {fs : List Fld} (h : RF w B A fs) (hB : B ≤ B') : RF w B' A fs := fun hne => by
  obtain ⟨g, k, hA, hg, hgs, hr⟩ := h hne
  exact ⟨g, k, hA, by omega, hgs, hr⟩
structure RuleOk (least most : Int) (fs : List Fld) : Prop where
  l0 : 0 ≤ least
  lm : least ≤ most
  m64 : most ≤ 64
  few : fs.length ≤ 8
  ok : ∀ f ∈ fs, f.Ok
/-- nil, just when it is so; or else a fault -/
def RetN (w : World) (p : Prop) (e : Ending) (w' : World) : Prop :=
  ((e = .returned .nilIface ∧ p) ∨ ∃ gv, e = .returned (.iface 96 (.pointer (some ⟨gv, 0, none⟩))) ∧ ¬ p) ∧ Below w.heap.size w w'
set_option maxRecDepth 100000 in
set_option maxHeartbeats 4000000 in
theorem fcheck_calls (w : World) (least most : Int) (A : Option Addr) (c : Nat) (fs : List Fld) (hr : RF w w.heap.size A fs) (hm : fs.length ≤ 9223372036854775807) :
    Calls Tryd.prog 9 #[.agg (rlv least most A fs.length c).toArray] w (RetN w (RuleOk least most fs)) := by
  have HR := Lib.hid hr
  obtain ⟨n, hnl⟩ : ∃ n, n = fs.length := ⟨_, rfl⟩
  have HNL := Lib.hid hnl
  rw [← hnl] at hm ⊢
  clear hr hnl
  go_enter Tryd.func9, Tryd.ntmps9
  go_wp2_with (first | ((with_reducible show wpList _ _ _ (Oper.mk (some 1) (Op.box 24 _) _ _ _ _ :: _) _ _); refine wpList_boxS (T := 24) rfl _ rfl (rlv least most A n c) rfl ?_) | fail)
  intro w1 hb1 hg1 hs1
  obtain ⟨b1, hb1e⟩ : ∃ b, b = w.heap.size := ⟨_, rfl⟩
  rw [← hb1e] at hb1 ⊢
  have HB1 := Lib.hid hb1
  have HW1 : Hid (Below w.heap.size w w1) := Lib.hid (grown_below hg1 (Nat.le_refl _) (fun k e => by cases e))
  have hc0 : w1.cell? ⟨b1, 0, none⟩ = some (.int .i64 least) := hb1.cell rfl
  have hc1 : w1.cell? ⟨b1, 1, none⟩ = some (.int .i64 most) := hb1.cell rfl
  have hc2 : w1.cell? ⟨b1, 2, none⟩ = some (.slice A n c) := hb1.cell rfl
  clear hb1 hg1 hs1 hb1e
  by_cases h1 : least < 0
  · clear hc1 hc2
    have HN : Hid (¬ RuleOk least most fs) := Lib.hid fun h => by have := h.l0; omega
    go_wp2_with fail
    refine (fault_new w1 1 0 (by decide)).mono ?_
    rintro e w9 ⟨⟨v, rfl, gv, rfl, hbx⟩, hb9⟩
    have HW9 : Hid (Below w.heap.size w w9) := Lib.hid (below_trans HW1.out (hb9.mono HW1.out.size))
    clear hbx hb9
    go_wp2
    go_ret
    exact ⟨.inr ⟨gv, rfl, HN.out⟩, HW9.out⟩
  by_cases h2 : most < least
  · clear hc2
    have HN : Hid (¬ RuleOk least most fs) := Lib.hid fun h => by have := h.lm; omega
    go_wp2_with fail
    refine (fault_new w1 1 0 (by decide)).mono ?_
    rintro e w9 ⟨⟨v, rfl, gv, rfl, hbx⟩, hb9⟩
    have HW9 : Hid (Below w.heap.size w w9) := Lib.hid (below_trans HW1.out (hb9.mono HW1.out.size))
    clear hbx hb9
    go_wp2
    go_ret
    exact ⟨.inr ⟨gv, rfl, HN.out⟩, HW9.out⟩
  by_cases h3 : 64 < most
  · clear hc2
    have HN : Hid (¬ RuleOk least most fs) := Lib.hid fun h => by have := h.m64; omega
    go_wp2_with fail
    refine (fault_new w1 1 0 (by decide)).mono ?_
    rintro e w9 ⟨⟨v, rfl, gv, rfl, hbx⟩, hb9⟩
    have HW9 : Hid (Below w.heap.size w w9) := Lib.hid (below_trans HW1.out (hb9.mono HW1.out.size))
    clear hbx hb9
    go_wp2
    go_ret
    exact ⟨.inr ⟨gv, rfl, HN.out⟩, HW9.out⟩
  by_cases h4 : 8 < n
  · have HN : Hid (¬ RuleOk least most fs) := Lib.hid fun h => by have := h.few; have := HNL.out; omega
    go_wp2_with fail
    refine (fault_new w1 1 0 (by decide)).mono ?_
    rintro e w9 ⟨⟨v, rfl, gv, rfl, hbx⟩, hb9⟩
    have HW9 : Hid (Below w.heap.size w w9) := Lib.hid (below_trans HW1.out (hb9.mono HW1.out.size))
    clear hbx hb9
    go_wp2
    go_ret
    exact ⟨.inr ⟨gv, rfl, HN.out⟩, HW9.out⟩
  have HLO : Hid (0 ≤ least ∧ least ≤ most ∧ most ≤ 64 ∧ fs.length ≤ 8) := Lib.hid (by have := HNL.out; omega)
  go_wp2
  clear hc0 hc1 hc2 h1 h2 h3 h4
  go_loopw [30] (fun s30 wr => ∃ (k : Nat), k ≤ n ∧ s30 = .int .i64 (k : Int) ∧ Below w1.heap.size w1 wr ∧ ∀ i (h : i < fs.length), i < k → fs[i].Ok) (fun s30 _ => n - (intOf s30).toNat)
  case atStart => exact ⟨0, Nat.zero_le _, rfl, Below.refl _ _, fun _ _ h => absurd h (Nat.not_lt_zero _)⟩
  case round =>
    obtain ⟨k, hk, rfl, hbw, hal⟩ := hrel
    have HW : Hid (Below w.heap.size w wr) := Lib.hid (below_trans HW1.out (hbw.mono HW1.out.size))
    have HB1w : Hid (Below w1.heap.size w1 wr) := Lib.hid hbw
    have HAL := Lib.hid hal
    clear hbw hal
    by_cases hlt : k < n
    · have hkl : k < fs.length := by rw [← HNL.out]; exact hlt
      have HKL := Lib.hid hkl
      obtain ⟨g, kk, hA, hgB, hgs, hrow⟩ := HR.out (by rintro rfl; simp at hkl)
      subst hA
      obtain ⟨r, hp⟩ : ∃ r, r = fs[k] := ⟨_, rfl⟩
      have HPI : Hid (∃ h : k < fs.length, r = fs[k]) := Lib.hid ⟨hkl, hp⟩
      have HROW : Hid (wr.rangeAt g (kk + k * 4) (fdv r)) := Lib.hid (by rw [hp]; exact range_below (hrow k hkl) HW.out hgB)
      clear hp hkl hgB hgs hrow
      go_wp2_with (first
        | ((with_reducible show wpList _ _ _ (Oper.mk _ (Op.load 79 _) _ _ _ _ :: _) _ _); refine wpList_loadM sFld rfl _ rfl g (kk + k * 4) (fdv r) rfl HROW.out rfl ?_)
        | ((with_reducible show wpList _ _ _ (Oper.mk _ (Op.alloc 79) _ _ _ _ :: _) _ _); refine wpList_allocS _ zFld rfl rfl ?_)
        | fail)
      intro w4 hb4 hg4 hs4
      obtain ⟨b4, hb4e⟩ : ∃ b, b = wr.heap.size := ⟨_, rfl⟩
      rw [← hb4e] at hb4 ⊢
      have HB4 := Lib.hid hb4
      have HG4 : Hid (Below wr.heap.size wr w4 ∧ wr.heap.size ≤ b4) := Lib.hid ⟨grown_below hg4 (Nat.le_refl _) (fun k e => by cases e), by omega⟩
      clear hb4 hg4 hs4 hb4e HROW
      go_wp2_with (first
        | ((with_reducible show wpList _ _ _ (Oper.mk _ (Op.store 79 _ _) _ _ _ _ :: _) _ _); refine wpList_storeS sFld rfl _ _ rfl b4 _ (fdv r) rfl rfl HB4.out rfl rfl (fdv_one _) ?_)
        | fail)
      intro w5 hb5 hg5
      have hGW : Below wr.heap.size wr w5 := below_trans HG4.out.1 (grown_below hg5 HG4.out.1.size fun k e => by injection e with e; have := HG4.out.2; omega)
      have HB5 := Lib.hid hb5
      have HW5 : Hid (Below w.heap.size w w5) := Lib.hid (below_trans HW.out (hGW.mono HW.out.size))
      have HB1w5 : Hid (Below w1.heap.size w1 w5) := Lib.hid (below_trans HB1w.out (hGW.mono HB1w.out.size))
      clear hb5 hg5 HB4 HG4 hGW
      go_wp2_with (first
        | ((with_reducible show wpList _ _ _ (Oper.mk (some 35) (Op.load 79 _) _ _ _ _ :: _) _ _); refine wpList_loadS sFld rfl _ rfl b4 (fdv r) rfl HB5.out rfl ?_)
        | fail)
      refine (valid_calls w5 r).mono ?_
      rintro e w6 ⟨v, rfl, hv, hb⟩
      have HV := Lib.hid hv
      have HW6 : Hid (Below w.heap.size w w6) := Lib.hid (below_trans HW5.out (hb.mono HW5.out.size))
      have HB16 : Hid (Below w1.heap.size w1 w6) := Lib.hid (below_trans HB1w5.out (hb.mono HB1w5.out.size))
      clear hv hb HB5 HW5 HB1w5
      cases v with
      | false =>
        have HN : Hid (¬ RuleOk least most fs) := Lib.hid fun h => by
          obtain ⟨hkl, e⟩ := HPI.out
          have := HV.out.2 (e ▸ h.ok _ (List.getElem_mem hkl))
          cases this
        go_wp2_with fail
        refine (fault_new w6 4 k (by decide)).mono ?_
        rintro e w9 ⟨⟨v, rfl, gv, rfl, hbx⟩, hb9⟩
        have HW9 : Hid (Below w.heap.size w w9) := Lib.hid (below_trans HW6.out (hb9.mono HW6.out.size))
        clear hbx hb9
        go_wp2
        go_ret
        exact ⟨.inr ⟨gv, rfl, HN.out⟩, HW9.out⟩
      | true =>
        have HAL2 : Hid (∀ i (h : i < fs.length), i < k + 1 → fs[i].Ok) := Lib.hid fun i hi hik => by
          rcases Nat.lt_or_ge i k with h | h
          · exact HAL.out i hi h
          · obtain rfl : i = k := by omega
            obtain ⟨hkl, e⟩ := HPI.out
            exact e ▸ HV.out.1 rfl
        go_wp2
        go_roundw
        case rel => exact ⟨k + 1, by omega, by go_num, HB16.out, HAL2.out⟩
        case measure => simp [intOf]; omega
    · have HOK : Hid (RuleOk least most fs) := Lib.hid ⟨HLO.out.1, HLO.out.2.1, HLO.out.2.2.1, HLO.out.2.2.2, fun f hf => by
        obtain ⟨i, hi, rfl⟩ := List.mem_iff_getElem.1 hf
        exact HAL.out i hi (by have := HNL.out; omega)⟩
      go_wp2
      go_ret
      exact ⟨.inl ⟨rfl, HOK.out⟩, HW.out⟩
/-- a message is as the rule asks -/
structure SatR (least most : Int) (fs : List Fld) (l : List UInt8) : Prop where
  lo : least ≤ l.length
  hi : l.length ≤ most
  sat : ∀ f ∈ fs, SatF f l
set_option maxRecDepth 100000 in
set_option maxHeartbeats 4000000 in
theorem fpass_calls (w : World) (least most : Int) (A A2 : Option Addr) (c c2 : Nat) (fs : List Fld) (l : List UInt8) (hr : RF w w.heap.size A fs) (hk : RuleOk least most fs) (hl : RB w w.heap.size A2 l) (hc : l.length ≤ c2) (hlm : l.length ≤ 9223372036854775807) :
    Calls Tryd.prog 14 #[.agg (rlv least most A fs.length c).toArray, .slice A2 l.length c2] w (RetN w (SatR least most fs l)) := by
  have HR := Lib.hid hr
  have HK := Lib.hid hk
  have HLB := Lib.hid hl
  have HCC := Lib.hid hc
  obtain ⟨n, hnl⟩ : ∃ n, n = fs.length := ⟨_, rfl⟩
  have HNL := Lib.hid hnl
  rw [← hnl]
  obtain ⟨L, hL⟩ : ∃ L, L = l.length := ⟨_, rfl⟩
  have HL := Lib.hid hL
  rw [← hL] at hlm ⊢
  obtain ⟨least, rfl⟩ := Int.eq_ofNat_of_zero_le hk.l0
  obtain ⟨most, rfl⟩ := Int.eq_ofNat_of_zero_le (Int.le_trans hk.l0 hk.lm)
  have hn8 : n ≤ 8 := by have := hk.few; omega
  clear hr hnl hl hc hL hk
  go_enter Tryd.func14, Tryd.ntmps14
  go_wp2_with (first | ((with_reducible show wpList _ _ _ (Oper.mk (some 2) (Op.box 24 _) _ _ _ _ :: _) _ _); refine wpList_boxS (T := 24) rfl _ rfl (rlv least most A n c) rfl ?_) | fail)
  intro w1 hb1 hg1 hs1
  obtain ⟨b2, hb2e⟩ : ∃ b, b = w.heap.size := ⟨_, rfl⟩
  rw [← hb2e] at hb1 ⊢
  have HB1 := Lib.hid hb1
  have HW1 : Hid (Below w.heap.size w w1) := Lib.hid (grown_below hg1 (Nat.le_refl _) (fun k e => by cases e))
  clear hb1 hg1 hs1 hb2e
  go_wp2_with (first
    | ((with_reducible show wpList _ _ _ (Oper.mk (some 8) (Op.load 24 _) _ _ _ _ :: _) _ _); refine wpList_loadS sRul rfl _ rfl b2 (rlv least most A n c) rfl HB1.out rfl ?_)
    | fail)
  rw [HNL.out]
  refine (fcheck_calls w1 least most A c fs ((HR.out.below HW1.out (Nat.le_refl _)).mono HW1.out.size) (by rw [← HNL.out]; omega)).mono ?_
  rw [← HNL.out]
  rintro e w2 ⟨⟨rfl, _⟩ | ⟨_, _, hno⟩, hb⟩
  case inr => exact absurd HK.out hno
  have HB2 : Hid (Blk w2 b2 (rlv least most A n c)) := Lib.hid (HB1.out.below hb HB1.out.lt)
  have HW2 : Hid (Below w.heap.size w w2) := Lib.hid (below_trans HW1.out (hb.mono HW1.out.size))
  have hc0 : w2.cell? ⟨b2, 0, none⟩ = some (.int .i64 (least : Int)) := HB2.out.cell rfl
  have hc1 : w2.cell? ⟨b2, 1, none⟩ = some (.int .i64 (most : Int)) := HB2.out.cell rfl
  have hc2 : w2.cell? ⟨b2, 2, none⟩ = some (.slice A n c) := HB2.out.cell rfl
  clear hb HB1 HW1
  by_cases h1 : L < least
  · have HN : Hid (¬ SatR least most fs l) := Lib.hid fun h => by have := h.lo; have := HL.out; omega
    go_wp2_with fail
    refine (fault_new w2 2 L (by decide)).mono ?_
    rintro e w9 ⟨⟨v, rfl, gv, rfl, hbx⟩, hb9⟩
    have HW9 : Hid (Below w.heap.size w w9) := Lib.hid (below_trans HW2.out (hb9.mono HW2.out.size))
    clear hbx hb9 hc0 hc1 hc2
    go_wp2
    go_ret
    exact ⟨.inr ⟨gv, rfl, HN.out⟩, HW9.out⟩
  by_cases h2 : most < L
  · have HN : Hid (¬ SatR least most fs l) := Lib.hid fun h => by have := h.hi; have := HL.out; omega
    go_wp2_with fail
    refine (fault_new w2 7 most (by decide)).mono ?_
    rintro e w9 ⟨⟨v, rfl, gv, rfl, hbx⟩, hb9⟩
    have HW9 : Hid (Below w.heap.size w w9) := Lib.hid (below_trans HW2.out (hb9.mono HW2.out.size))
    clear hbx hb9 hc0 hc1 hc2
    go_wp2
    go_ret
    exact ⟨.inr ⟨gv, rfl, HN.out⟩, HW9.out⟩
  have HLO : Hid (least ≤ L ∧ L ≤ most) := Lib.hid (by omega)
  go_wp2
  clear hc0 hc1 hc2 h1 h2
  go_loopw [33] (fun s33 wr => ∃ (k : Nat), k ≤ n ∧ s33 = .int .i64 (k : Int) ∧ Below w2.heap.size w2 wr ∧ ∀ i (h : i < fs.length), i < k → SatF fs[i] l) (fun s33 _ => n - (intOf s33).toNat)
  case atStart => exact ⟨0, Nat.zero_le _, rfl, Below.refl _ _, fun _ _ h => absurd h (Nat.not_lt_zero _)⟩
  case round =>
    obtain ⟨k, hk, rfl, hbw, hal⟩ := hrel
    have HW : Hid (Below w.heap.size w wr) := Lib.hid (below_trans HW2.out (hbw.mono HW2.out.size))
    have HB1w : Hid (Below w2.heap.size w2 wr) := Lib.hid hbw
    have HAL := Lib.hid hal
    clear hbw hal
    by_cases hlt : k < n
    · have hkl : k < fs.length := by rw [← HNL.out]; exact hlt
      obtain ⟨g, kk, hA, hgB, hgs, hrow⟩ := HR.out (by rintro rfl; simp at hkl)
      subst hA
      obtain ⟨r, hp⟩ : ∃ r, r = fs[k] := ⟨_, rfl⟩
      have HPI : Hid (∃ h : k < fs.length, r = fs[k]) := Lib.hid ⟨hkl, hp⟩
      have HRO : Hid r.Ok := Lib.hid (by rw [hp]; exact HK.out.ok _ (List.getElem_mem hkl))
      have HROW : Hid (wr.rangeAt g (kk + k * 4) (fdv r)) := Lib.hid (by rw [hp]; exact range_below (hrow k hkl) HW.out hgB)
      clear hp hkl hgB hgs hrow
      go_wp2_with (first
        | ((with_reducible show wpList _ _ _ (Oper.mk _ (Op.load 79 _) _ _ _ _ :: _) _ _); refine wpList_loadM sFld rfl _ rfl g (kk + k * 4) (fdv r) rfl HROW.out rfl ?_)
        | ((with_reducible show wpList _ _ _ (Oper.mk _ (Op.alloc 79) _ _ _ _ :: _) _ _); refine wpList_allocS _ zFld rfl rfl ?_)
        | fail)
      intro w4 hb4 hg4 hs4
      obtain ⟨b4, hb4e⟩ : ∃ b, b = wr.heap.size := ⟨_, rfl⟩
      rw [← hb4e] at hb4 ⊢
      have HB4 := Lib.hid hb4
      have HG4 : Hid (Below wr.heap.size wr w4 ∧ wr.heap.size ≤ b4) := Lib.hid ⟨grown_below hg4 (Nat.le_refl _) (fun k e => by cases e), by omega⟩
      clear hb4 hg4 hs4 hb4e HROW
      go_wp2_with (first
        | ((with_reducible show wpList _ _ _ (Oper.mk _ (Op.store 79 _ _) _ _ _ _ :: _) _ _); refine wpList_storeS sFld rfl _ _ rfl b4 _ (fdv r) rfl rfl HB4.out rfl rfl (fdv_one _) ?_)
        | fail)
      intro w5 hb5 hg5
      have hGW : Below wr.heap.size wr w5 := below_trans HG4.out.1 (grown_below hg5 HG4.out.1.size fun k e => by injection e with e; have := HG4.out.2; omega)
      have HB5 := Lib.hid hb5
      have HW5 : Hid (Below w.heap.size w w5) := Lib.hid (below_trans HW.out (hGW.mono HW.out.size))
      have HB1w5 : Hid (Below w2.heap.size w2 w5) := Lib.hid (below_trans HB1w.out (hGW.mono HB1w.out.size))
      clear hb5 hg5 HB4 HG4 hGW
      go_wp2_with (first
        | ((with_reducible show wpList _ _ _ (Oper.mk (some 38) (Op.load 79 _) _ _ _ _ :: _) _ _); refine wpList_loadS sFld rfl _ rfl b4 (fdv r) rfl HB5.out rfl ?_)
        | fail)
      rw [HL.out]
      refine (satisfied_calls w5 r A2 c2 l HRO.out ((HLB.out.below HW5.out).mono HW5.out.size) HCC.out (by rw [← HL.out]; exact hlm)).mono ?_
      rw [← HL.out]
      rintro e w6 ⟨v, rfl, hv, hb⟩
      have HV := Lib.hid hv
      have HW6 : Hid (Below w.heap.size w w6) := Lib.hid (below_trans HW5.out (hb.mono HW5.out.size))
      have HB16 : Hid (Below w2.heap.size w2 w6) := Lib.hid (below_trans HB1w5.out (hb.mono HB1w5.out.size))
      clear hv hb HB5 HW5 HB1w5
      cases v with
      | false =>
        have HN : Hid (¬ SatR least most fs l) := Lib.hid fun h => by
          obtain ⟨hkl, e⟩ := HPI.out
          have := HV.out.2 (e ▸ h.sat _ (List.getElem_mem hkl))
          cases this
        go_wp2_with fail
        refine (fault_new w6 3 k (by decide)).mono ?_
        rintro e w9 ⟨⟨v, rfl, gv, rfl, hbx⟩, hb9⟩
        have HW9 : Hid (Below w.heap.size w w9) := Lib.hid (below_trans HW6.out (hb9.mono HW6.out.size))
        clear hbx hb9
        go_wp2
        go_ret
        exact ⟨.inr ⟨gv, rfl, HN.out⟩, HW9.out⟩
      | true =>
        have HAL2 : Hid (∀ i (h : i < fs.length), i < k + 1 → SatF fs[i] l) := Lib.hid fun i hi hik => by
          rcases Nat.lt_or_ge i k with h | h
          · exact HAL.out i hi h
          · obtain rfl : i = k := by omega
            obtain ⟨hkl, e⟩ := HPI.out
            exact e ▸ HV.out.1 rfl
        go_wp2
        go_roundw
        case rel => exact ⟨k + 1, by omega, by go_num, HB16.out, HAL2.out⟩
        case measure => simp [intOf]; omega
    · have HOK : Hid (SatR least most fs l) := Lib.hid ⟨by have := HLO.out; have := HL.out; omega, by have := HLO.out; have := HL.out; omega, fun f hf => by
        obtain ⟨i, hi, rfl⟩ := List.mem_iff_getElem.1 hf
        exact HAL.out i hi (by have := HNL.out; omega)⟩
      go_wp2
      go_ret
      exact ⟨.inl ⟨rfl, HOK.out⟩, HW.out⟩
end Go.Proofs.YtiebpmpjclnpeaaDoor
/- The document's Number: what it returns. -/
namespace Go.Proofs.YtiebpmpjclnpeaaDoor
open Go.RowKit Nac Nac.Crc
theorem le_take8 (l : List UInt8) (h8 : l.length ≤ 8) : le l < 18446744073709551616 := by
  have h := le_lt l
  have h2 : 256 ^ l.length ≤ 256 ^ 8 := Nat.pow_le_pow_right (by decide) h8
  have h3 : (256 : Nat) ^ 8 = 18446744073709551616 := by decide
  omega
/-- 256 to the k, as a word holds it -/
def unitW (k : Nat) : Nat := if k < 8 then 256 ^ k else 0
theorem unitW_step (k : Nat) (h : k < 8) : IntKind.u64.wrap ((unitW k : Int) * 256) = (unitW (k + 1) : Int) := by
  have h2 : ∀ k : Fin 8, IntKind.u64.wrap ((unitW k.val : Int) * 256) = (unitW (k.val + 1) : Int) := by decide
  exact h2 ⟨k, h⟩
theorem unitW_le (k : Nat) : unitW k ≤ 18446744073709551615 := by
  unfold unitW
  split
  · have h2 : 256 ^ k ≤ 256 ^ 7 := Nat.pow_le_pow_right (by decide) (by omega)
    have h3 : (256 : Nat) ^ 7 = 72057594037927936 := by decide
    omega
  · omega
theorem le_step (l : List UInt8) (k : Nat) (hk : k < l.length) (h8 : l.length ≤ 8) :
    IntKind.u64.wrap ((le (l.take k) : Int) + IntKind.u64.wrap ((l[k].toNat : Int) * (unitW k : Int))) = (le (l.take (k + 1)) : Int) := by
  have hx := l[k].toNat_lt
  have hu : unitW k = 256 ^ k := if_pos (by omega)
  have hlt := le_take8 (l.take (k + 1)) (by simp; omega)
  rw [le_take_succ l k hk] at hlt ⊢
  have e : ((l[k].toNat : Int) * (unitW k : Int)) = ((256 ^ k * l[k].toNat : Nat) : Int) := by rw [hu, ← Int.natCast_mul, Nat.mul_comm]
  rw [e]
  generalize 256 ^ k * l[k].toNat = m at hlt ⊢
  generalize le (l.take k) = n at hlt ⊢
  rw [IntKind.wrap_u64 (m : Int), Int.emod_eq_of_lt (by omega) (by omega), IntKind.wrap_u64]
  omega
set_option maxHeartbeats 1000000 in
theorem refnum_calls (w : World) (B : Nat) (A : Option Addr) (c : Nat) (l : List UInt8) (h : RB w B A l) (h8 : l.length ≤ 8) :
    Calls Tryd.prog 31 #[.slice A l.length c] w fun e w' => e = .returned (.int .u64 (le l : Int)) ∧ w = w' := by
  go_enter Tryd.func31, Tryd.ntmps31
  go_wp2
  go_loop [3, 4, 5] (fun s3 s4 s5 => ∃ (k n u : Nat), k ≤ l.length ∧ s5 = .int .i64 k ∧ s3 = .int .u64 n ∧ s4 = .int .u64 u ∧ n ≤ 18446744073709551615 ∧ u ≤ 18446744073709551615 ∧ Hid (n = le (l.take k)) ∧ Hid (u = unitW k)) (fun _ _ s5 => l.length - (intOf s5).toNat)
  case atStart => exact ⟨0, 0, 1, Nat.zero_le _, rfl, rfl, rfl, by omega, by omega, rfl, rfl⟩
  case round =>
    obtain ⟨k, n, u, hk, rfl, rfl, rfl, hn9, hu9, HN, HU⟩ := hrel
    by_cases hlt : k < l.length
    · obtain ⟨b, o, rfl, _, hc⟩ := h.get hlt
      have hle := le_step l k hlt h8
      have hus := unitW_step k (by omega)
      rw [← HN.out, ← HU.out] at hle
      rw [← HU.out] at hus
      obtain ⟨n', hn'⟩ : ∃ n', n' = le (l.take (k + 1)) := ⟨_, rfl⟩
      obtain ⟨u', hu'⟩ : ∃ u', u' = unitW (k + 1) := ⟨_, rfl⟩
      obtain ⟨x, hx⟩ : ∃ x, x = l[k].toNat := ⟨_, rfl⟩
      have hx9 : x < 256 := by rw [hx]; exact l[k].toNat_lt
      have hn9' : n' ≤ 18446744073709551615 := by rw [hn']; have := le_take8 (l.take (k + 1)) (by simp; omega); omega
      have hu9' : u' ≤ 18446744073709551615 := by rw [hu']; exact unitW_le _
      rw [← hn', ← hx] at hle
      rw [← hu'] at hus
      rw [← hx] at hc
      have HN' := Lib.hid hn'
      have HU' := Lib.hid hu'
      have k1 : IntKind.u64.wrap (x : Int) = (x : Int) := by rw [IntKind.wrap_u64]; omega
      clear hn' hu' hx HN HU
      go_wp2
      go_round
      case rel => exact ⟨k + 1, n', u', by omega, by go_num, by first | rfl | rw [hle], by first | rfl | rw [hus], hn9', hu9', HN', HU'⟩
      case measure => simp [intOf]; omega
    · have HL : Hid (n = le l) := Lib.hid <| by rw [HN.out, List.take_of_length_le (by omega)]
      clear HN HU
      go_wp2
      go_ret
      rw [← HL.out]
      exact ⟨rfl, rfl⟩
end Go.Proofs.YtiebpmpjclnpeaaDoor
/- The document's Pass, of a message that is as the rule asks. -/
namespace Go.Proofs.YtiebpmpjclnpeaaDoor
open Go.RowKit Nac Nac.Gram Nac.Crc
theorem refnum_n (w : World) (B : Nat) (A : Option Addr) (n c : Nat) (l : List UInt8) (hn : n = l.length) (h : RB w B A l) (h8 : l.length ≤ 8) :
    Calls Tryd.prog 31 #[.slice A n c] w fun e w' => e = .returned (.int .u64 (le l : Int)) ∧ w = w' := by
  subst hn; exact refnum_calls w B A c l h h8
set_option maxRecDepth 100000 in
set_option maxHeartbeats 4000000 in
theorem rpass_calls (w : World) (least most : Int) (A A2 : Option Addr) (c c2 : Nat) (fs : List Fld) (l : List UInt8) (hr : RF w w.heap.size A fs) (hk : RuleOk least most fs) (hst : SatR least most fs l) (hl : RB w w.heap.size A2 l) (hc : l.length ≤ c2) (hlm : l.length ≤ 9223372036854775807) :
    Calls Tryd.prog 22 #[.agg (rlv least most A fs.length c).toArray, .slice A2 l.length c2] w (RetG w (.tuple #[.int .i64 0, .int .i64 0])) := by
  have HR := Lib.hid hr
  have HK := Lib.hid hk
  have HST := Lib.hid hst
  have HLB := Lib.hid hl
  have HCC := Lib.hid hc
  obtain ⟨n, hnl⟩ : ∃ n, n = fs.length := ⟨_, rfl⟩
  have HNL := Lib.hid hnl
  rw [← hnl]
  obtain ⟨L, hL⟩ : ∃ L, L = l.length := ⟨_, rfl⟩
  have HL := Lib.hid hL
  rw [← hL] at hlm ⊢
  obtain ⟨least, rfl⟩ := Int.eq_ofNat_of_zero_le hk.l0
  obtain ⟨most, rfl⟩ := Int.eq_ofNat_of_zero_le (Int.le_trans hk.l0 hk.lm)
  have hn8 : n ≤ 8 := by have := hk.few; omega
  have h1 : ¬ L < least := by have := hst.lo; omega
  have h2 : ¬ most < L := by have := hst.hi; omega
  clear hr hnl hl hc hL hk hst
  go_enter Tryd.func22, Tryd.ntmps22
  go_wp2_with (first | ((with_reducible show wpList _ _ _ (Oper.mk (some 2) (Op.box 24 _) _ _ _ _ :: _) _ _); refine wpList_boxS (T := 24) rfl _ rfl (rlv least most A n c) rfl ?_) | fail)
  intro w2 hb1 hg1 hs1
  obtain ⟨b2, hb2e⟩ : ∃ b, b = w.heap.size := ⟨_, rfl⟩
  rw [← hb2e] at hb1 ⊢
  have HB2 := Lib.hid hb1
  have HW2 : Hid (Below w.heap.size w w2) := Lib.hid (grown_below hg1 (Nat.le_refl _) (fun k e => by cases e))
  have hc0 : w2.cell? ⟨b2, 0, none⟩ = some (.int .i64 (least : Int)) := hb1.cell rfl
  have hc1 : w2.cell? ⟨b2, 1, none⟩ = some (.int .i64 (most : Int)) := hb1.cell rfl
  clear hb1 hg1 hs1 hb2e
  go_wp2
  clear hc0 hc1 h1 h2
  go_loopw [6] (fun s6 wr => ∃ (k : Nat), k ≤ n ∧ s6 = .int .i64 (k : Int) ∧ Below w2.heap.size w2 wr) (fun s6 _ => n - (intOf s6).toNat)
  case atStart => exact ⟨0, Nat.zero_le _, rfl, Below.refl _ _⟩
  case round =>
    obtain ⟨k, hk, rfl, hbw⟩ := hrel
    have HW : Hid (Below w.heap.size w wr) := Lib.hid (below_trans HW2.out (hbw.mono HW2.out.size))
    have HB1w : Hid (Below w2.heap.size w2 wr) := Lib.hid hbw
    have hc2 : wr.cell? ⟨b2, 2, none⟩ = some (.slice A n c) := (HB2.out.below hbw HB2.out.lt).cell rfl
    clear hbw
    by_cases hlt : k < n
    · have hkl : k < fs.length := by rw [← HNL.out]; exact hlt
      obtain ⟨g, kk, hA, hgB, hgs, hrow⟩ := HR.out (by rintro rfl; simp at hkl)
      subst hA
      obtain ⟨r, hp⟩ : ∃ r, r = fs[k] := ⟨_, rfl⟩
      have HRO : Hid r.Ok := Lib.hid (by rw [hp]; exact HK.out.ok _ (List.getElem_mem hkl))
      have HSF : Hid (SatF r l) := Lib.hid (by rw [hp]; exact HST.out.sat _ (List.getElem_mem hkl))
      have HROW : Hid (wr.rangeAt g (kk + k * 4) (fdv r)) := Lib.hid (by rw [hp]; exact range_below (hrow k hkl) HW.out hgB)
      clear hp hkl hgB hgs hrow
      obtain ⟨a, s, lo, hi⟩ := r
      obtain ⟨a, rfl⟩ := Int.eq_ofNat_of_zero_le (show 0 ≤ a from HRO.out.a)
      obtain ⟨s, rfl⟩ := Int.eq_ofNat_of_zero_le (show 0 ≤ s from Int.le_trans (by decide) HRO.out.s1)
      have HS : Hid (1 ≤ s ∧ s ≤ 8 ∧ a + s ≤ 64) := Lib.hid (by
        have e1 : (1 : Int) ≤ (s : Int) := HRO.out.s1
        have e2 : (s : Int) ≤ 8 := HRO.out.s8
        have e3 : (a : Int) + (s : Int) ≤ 64 := HRO.out.e
        omega)
      obtain ⟨e2, he2⟩ : ∃ e2, e2 = a + s := ⟨_, rfl⟩
      have HE := Lib.hid he2
      have q1 : IntKind.i64.wrap ((a : Int) + (s : Int)) = (e2 : Int) := by rw [IntKind.wrap_i64, he2]; have := HS.out; omega
      have he64 : e2 ≤ 64 := by have := HS.out; omega
      have HLE : Hid (a ≤ e2 ∧ e2 ≤ L) := Lib.hid (by
        have e1 : (a : Int) + (s : Int) ≤ (l.length : Int) := HSF.out.len
        have := HL.out
        omega)
      have hbi : ¬ (L : Int) < (e2 : Int) := by have := HLE.out; omega
      clear he2
      go_wp2_with (first
        | ((with_reducible show wpList _ _ _ (Oper.mk _ (Op.load 79 _) _ _ _ _ :: _) _ _); refine wpList_loadM sFld rfl _ rfl g (kk + k * 4) (fdv ⟨a, s, lo, hi⟩) rfl HROW.out rfl ?_)
        | ((with_reducible show wpList _ _ _ (Oper.mk _ (Op.alloc 79) _ _ _ _ :: _) _ _); refine wpList_allocS _ zFld rfl rfl ?_)
        | fail)
      intro w4 hb4 hg4 hs4
      obtain ⟨b4, hb4e⟩ : ∃ b, b = wr.heap.size := ⟨_, rfl⟩
      rw [← hb4e] at hb4 ⊢
      have HB4 := Lib.hid hb4
      have HG4 : Hid (Below wr.heap.size wr w4 ∧ wr.heap.size ≤ b4) := Lib.hid ⟨grown_below hg4 (Nat.le_refl _) (fun k e => by cases e), by omega⟩
      clear hb4 hg4 hs4 hb4e HROW
      go_wp2_with (first
        | ((with_reducible show wpList _ _ _ (Oper.mk _ (Op.store 79 _ _) _ _ _ _ :: _) _ _); refine wpList_storeS sFld rfl _ _ rfl b4 _ (fdv ⟨a, s, lo, hi⟩) rfl rfl HB4.out rfl rfl (fdv_one _) ?_)
        | fail)
      intro w5 hb5 hg5
      have hGW : Below wr.heap.size wr w5 := below_trans HG4.out.1 (grown_below hg5 HG4.out.1.size fun k e => by injection e with e; have := HG4.out.2; omega)
      have hd0 : w5.cell? ⟨b4, 0, none⟩ = some (.int .i64 (a : Int)) := hb5.cell rfl
      have hd1 : w5.cell? ⟨b4, 1, none⟩ = some (.int .i64 (s : Int)) := hb5.cell rfl
      have hd2 : w5.cell? ⟨b4, 2, none⟩ = some (.int .u64 (lo : Int)) := hb5.cell rfl
      have hd3 : w5.cell? ⟨b4, 3, none⟩ = some (.int .u64 (hi : Int)) := hb5.cell rfl
      have HW5 : Hid (Below w.heap.size w w5) := Lib.hid (below_trans HW.out (hGW.mono HW.out.size))
      have HB1w5 : Hid (Below w2.heap.size w2 w5) := Lib.hid (below_trans HB1w.out (hGW.mono HB1w.out.size))
      have HR5 : Hid (RB w5 w.heap.size A2 l) := Lib.hid (HLB.out.below HW5.out)
      clear hb5 hg5 HB4 HG4 hGW hc2
      go_wp2_with (first
        | ((with_reducible show wpList _ _ _ (Oper.mk (some 52) _ _ _ _ _ :: _) _ _); refine wpList_cut _ (.inl rfl) _ _ _ rfl w.heap.size A2 L c2 l HL.out rfl HR5.out HCC.out a e2 (.inr rfl) (.inr rfl) HLE.out.1 HLE.out.2 ?_)
        | fail)
      intro A3 m l2 hl2 hm hml hr2
      have HL2 : Hid (l2 = cutF ⟨a, s, lo, hi⟩ l) := Lib.hid (by rw [hl2.out]; show _ = (l.take ((a : Int).toNat + (s : Int).toNat)).drop (a : Int).toNat; rw [HE.out]; rfl)
      have HM : Hid (l2.length = s) := Lib.hid (by have := hm.out; have := HE.out; omega)
      have HR2 := Lib.hid hr2
      clear hl2 hm hml hr2
      obtain ⟨n2, hn2⟩ : ∃ n2, n2 = l2.length := ⟨_, rfl⟩
      have HN2 := Lib.hid hn2
      rw [← hn2]
      clear hn2
      go_wp2_with fail
      refine (refnum_n w5 w.heap.size A3 n2 (c2 - a) l2 HN2.out HR2.out (by have := HM.out; have := HS.out; omega)).mono ?_
      rintro e w6 ⟨rfl, hw⟩
      subst hw
      obtain ⟨v, hv⟩ : ∃ v, v = le l2 := ⟨_, rfl⟩
      have hv1 : ¬ v < lo := by
        have h := HSF.out.lo
        rw [← HL2.out, ← hv] at h
        have h : lo ≤ v := h
        omega
      have hv2 : ¬ hi < v := by
        have h := HSF.out.hi
        rw [← HL2.out, ← hv] at h
        have h : v ≤ hi := h
        omega
      rw [← hv]
      clear hv
      go_wp2
      go_roundw
      case rel => exact ⟨k + 1, by omega, by go_num, HB1w5.out⟩
      case measure => simp [intOf]; omega
    · go_wp2
      go_ret2
      exact ⟨rfl, HW.out⟩
end Go.Proofs.YtiebpmpjclnpeaaDoor
/- shape: is a grammar well formed? -/
namespace Go.Proofs.YtiebpmpjclnpeaaDoor
open Go.RowKit Nac Nac.Gram
/-- a form as it comes: its name may be any -/
structure FormI where
  name : Int
  body : List Sgn
  at_ : Option Addr
  cap : Nat
def frvI (r : FormI) : List Value := [.int .i64 r.name, .slice r.at_ r.body.length r.cap]
theorem frvI_one (r : FormI) : ∀ v ∈ frvI r, v.oneCell' = true := by intro v hv; simp [frvI] at hv; rcases hv with rfl | rfl <;> rfl
structure RGI (w : World) (B : Nat) (A : Option Addr) (R : List FormI) : Prop where
  rows : R ≠ [] → ∃ g k, A = some ⟨g, k, none⟩ ∧ g < B ∧ g < w.heap.size ∧ ∀ i (h : i < R.length), w.rangeAt g (k + i * 2) (frvI R[i])
  body : ∀ r ∈ R, RS w B r.at_ r.body
structure ROk (R : List FormI) : Prop where
  len : R.length ≤ 9223372036854775807
  cap : ∀ r ∈ R, r.body.length ≤ r.cap ∧ r.cap ≤ 9223372036854775807
def FormI.toF (r : FormI) : FormAt := (⟨r.name.toNat, r.body⟩, r.at_, r.cap)
structure ShapeI (names : Int) (R : List FormI) : Prop where
  lo : 1 ≤ names
  hi : names ≤ 16
  name : ∀ r ∈ R, 0 ≤ r.name ∧ r.name < names
  body : ∀ r ∈ R, r.body.length ≤ 8
  sign : ∀ r ∈ R, ∀ x ∈ r.body, x.name < names
  few : R.length ≤ 48
def RetShape (w : World) (names : Int) (R : List FormI) (e : Ending) (w' : World) : Prop :=
  ((e = .returned .nilIface ∧ ShapeI names R) ∨ ∃ v ci, e = .returned v ∧ ErrV (some ci) v w') ∧ Below w.heap.size w w'
theorem zFrmI : ((Tryd.prog.info? 105).bind (·.zero)) = some (.agg (frvI ⟨0, [], none, 0⟩).toArray) := by kernel_rfl
set_option maxRecDepth 100000 in
set_option maxHeartbeats 4000000 in
theorem shape_calls (w : World) (names : Int) (A : Option Addr) (c : Nat) (R : List FormI) (hR : ROk R) (hr : RGI w w.heap.size A R) :
    Calls Tryd.prog 28 #[.agg (grv names A R.length c).toArray] w (RetShape w names R) := by
  have HMO := Lib.hid hR
  have HR := Lib.hid hr
  obtain ⟨n, hnl⟩ : ∃ n, n = R.length := ⟨_, rfl⟩
  have HNL := Lib.hid hnl
  rw [← hnl]
  have hm : n ≤ 9223372036854775807 := by rw [hnl]; exact hR.len
  clear hR hr hnl
  go_enter Tryd.func28, Tryd.ntmps28
  go_wp2_with (first | ((with_reducible show wpList _ _ _ (Oper.mk (some 1) (Op.box 27 _) _ _ _ _ :: _) _ _); refine wpList_boxS (T := 27) rfl _ rfl (grv names A n c) rfl ?_) | fail)
  intro w1 hb1 hg1 hs1
  obtain ⟨b1, hb1e⟩ : ∃ b, b = w.heap.size := ⟨_, rfl⟩
  rw [← hb1e] at hb1 ⊢
  have HB1 := Lib.hid hb1
  have HW1 : Hid (Below w.heap.size w w1) := Lib.hid (grown_below hg1 (Nat.le_refl _) (fun k e => by cases e))
  have hc0 : w1.cell? ⟨b1, 0, none⟩ = some (.int .i64 names) := hb1.cell rfl
  have hc1 : w1.cell? ⟨b1, 1, none⟩ = some (.slice A n c) := hb1.cell rfl
  clear hb1 hg1 hs1 hb1e
  by_cases h1 : names < 1
  · clear hc1
    go_wp2_with fail
    refine (fault_new w1 1 0 (by decide)).mono ?_
    rintro e w9 ⟨⟨v, rfl, hv⟩, hb9⟩
    have HV := Lib.hid hv
    have HW9 : Hid (Below w.heap.size w w9) := Lib.hid (below_trans HW1.out (hb9.mono HW1.out.size))
    clear hv hb9
    go_wp2
    go_ret
    exact ⟨.inr ⟨v, _, rfl, HV.out⟩, HW9.out⟩
  by_cases h2 : 16 < names
  · clear hc1
    go_wp2_with fail
    refine (fault_new w1 1 0 (by decide)).mono ?_
    rintro e w9 ⟨⟨v, rfl, hv⟩, hb9⟩
    have HV := Lib.hid hv
    have HW9 : Hid (Below w.heap.size w w9) := Lib.hid (below_trans HW1.out (hb9.mono HW1.out.size))
    clear hv hb9
    go_wp2
    go_ret
    exact ⟨.inr ⟨v, _, rfl, HV.out⟩, HW9.out⟩
  by_cases h3 : 48 < n
  · 
    go_wp2_with fail
    refine (fault_new w1 1 0 (by decide)).mono ?_
    rintro e w9 ⟨⟨v, rfl, hv⟩, hb9⟩
    have HV := Lib.hid hv
    have HW9 : Hid (Below w.heap.size w w9) := Lib.hid (below_trans HW1.out (hb9.mono HW1.out.size))
    clear hv hb9
    go_wp2
    go_ret
    exact ⟨.inr ⟨v, _, rfl, HV.out⟩, HW9.out⟩
  have HLO : Hid (1 ≤ names ∧ names ≤ 16) := Lib.hid (by omega)
  have HFEW : Hid (R.length ≤ 48) := Lib.hid (by have := HNL.out; omega)
  go_wp2
  clear hc0 hc1 h1 h2
  go_loopw [25] (fun s25 wr => ∃ (k : Nat), k ≤ n ∧ s25 = .int .i64 (k : Int) ∧ Below w1.heap.size w1 wr ∧ ∀ i (h : i < R.length), i < k → (0 ≤ R[i].name ∧ R[i].name < names) ∧ R[i].body.length ≤ 8 ∧ ∀ x ∈ R[i].body, x.name < names) (fun s25 _ => n - (intOf s25).toNat)
  case atStart => exact ⟨0, Nat.zero_le _, rfl, Below.refl _ _, fun _ _ h => absurd h (Nat.not_lt_zero _)⟩
  case round =>
    obtain ⟨k, hk, rfl, hbw, hal⟩ := hrel
    have HW : Hid (Below w.heap.size w wr) := Lib.hid (below_trans HW1.out (hbw.mono HW1.out.size))
    have HB1r : Hid (Blk wr b1 (grv names A n c)) := Lib.hid (HB1.out.below hbw HB1.out.lt)
    have HB1w : Hid (Below w1.heap.size w1 wr) := Lib.hid hbw
    have HAL := Lib.hid hal
    clear hbw hal
    by_cases hlt : k < n
    · have hkl : k < R.length := by rw [← HNL.out]; exact hlt
      have HKL := Lib.hid hkl
      obtain ⟨g, kk, hA, hgB, hgs, hrow⟩ := HR.out.rows (by rintro rfl; simp at hkl)
      subst hA
      obtain ⟨r, hp⟩ : ∃ r, r = R[k] := ⟨_, rfl⟩
      have HPM : Hid (r ∈ R) := Lib.hid (by rw [hp]; exact List.getElem_mem hkl)
      have HROW : Hid (wr.rangeAt g (kk + k * 2) (frvI r)) := Lib.hid (by rw [hp]; exact range_below (hrow k hkl) HW.out hgB)
      have HPI : Hid (∃ h : k < R.length, r = R[k]) := Lib.hid ⟨hkl, hp⟩
      clear hp hkl hgB hgs hrow
      go_wp2_with (first
        | ((with_reducible show wpList _ _ _ (Oper.mk _ (Op.load 105 _) _ _ _ _ :: _) _ _); refine wpList_loadM sFrm rfl _ rfl g (kk + k * 2) (frvI r) rfl HROW.out rfl ?_)
        | ((with_reducible show wpList _ _ _ (Oper.mk _ (Op.alloc 105) _ _ _ _ :: _) _ _); refine wpList_allocS _ zFrmI rfl rfl ?_)
        | fail)
      intro w2 hb2 hg2 hs2
      obtain ⟨b4, hb4e⟩ : ∃ b, b = wr.heap.size := ⟨_, rfl⟩
      rw [← hb4e] at hb2 ⊢
      have HB2 := Lib.hid hb2
      have HG2 : Hid (Below wr.heap.size wr w2 ∧ wr.heap.size ≤ b4) := Lib.hid ⟨grown_below hg2 (Nat.le_refl _) (fun k e => by cases e), by omega⟩
      clear hb2 hg2 hs2 hb4e HROW
      go_wp2_with (first
        | ((with_reducible show wpList _ _ _ (Oper.mk _ (Op.store 105 _ _) _ _ _ _ :: _) _ _); refine wpList_storeS sFrm rfl _ _ rfl b4 _ (frvI r) rfl rfl HB2.out rfl rfl (frvI_one _) ?_)
        | fail)
      intro w3 hb3 hg3
      have hGW : Below wr.heap.size wr w3 := below_trans HG2.out.1 (grown_below hg3 HG2.out.1.size fun k e => by injection e with e; have := HG2.out.2; omega)
      have HB4 := Lib.hid hb3
      have HB13 : Hid (Blk w3 b1 (grv names (some ⟨g, kk, none⟩) n c)) := Lib.hid (HB1r.out.below hGW HB1r.out.lt)
      have HW3 : Hid (Below w.heap.size w w3) := Lib.hid (below_trans HW.out (hGW.mono HW.out.size))
      have HW13 : Hid (Below w1.heap.size w1 w3) := Lib.hid (below_trans HB1w.out (hGW.mono HB1w.out.size))
      have HRS3 : Hid (RS w3 w.heap.size r.at_ r.body) := Lib.hid ((HR.out.body r HPM.out).below HW3.out (Nat.le_refl _))
      clear hb3 hg3 HB2 HG2 hGW HB1r HW HB1w
      obtain ⟨pn, hpn⟩ : ∃ pn, pn = r.name := ⟨_, rfl⟩
      obtain ⟨A2, hA2⟩ : ∃ A2, A2 = r.at_ := ⟨_, rfl⟩
      obtain ⟨c2, hc2⟩ : ∃ c2, c2 = r.cap := ⟨_, rfl⟩
      obtain ⟨L, hL⟩ : ∃ L, L = r.body.length := ⟨_, rfl⟩
      have HRC : Hid (pn = r.name ∧ A2 = r.at_ ∧ c2 = r.cap ∧ L = r.body.length) := Lib.hid ⟨hpn, hA2, hc2, hL⟩
      have hLm : L ≤ 9223372036854775807 := by rw [hL]; exact Nat.le_trans (HMO.out.cap r HPM.out).1 (HMO.out.cap r HPM.out).2
      have hcn : w3.cell? ⟨b4, 0, none⟩ = some (.int .i64 pn) := HB4.out.cell (by rw [hpn]; rfl)
      have hcb : w3.cell? ⟨b4, 1, none⟩ = some (.slice A2 L c2) := HB4.out.cell (by rw [hA2, hc2, hL]; rfl)
      have hcm : w3.cell? ⟨b1, 0, none⟩ = some (.int .i64 names) := HB13.out.cell rfl
      clear hpn hA2 hc2 hL
      by_cases g1 : pn < 0
      · clear hcm hcb
        have HBAD : Hid True := Lib.hid trivial
        go_wp2
        go_loopw [5, 6] (fun s5 s6 wr => s5 = .bool false ∧ Below w3.heap.size w3 wr) (fun _ _ _ => 0)
        case atStart => exact ⟨rfl, Below.refl _ _⟩
        case round =>
          obtain ⟨rfl, hq⟩ := hrel
          have HQ : Hid (Below w.heap.size w wr) := Lib.hid (below_trans HW3.out (hq.mono HW3.out.size))
          clear hq
          go_wp2_with fail
          refine (fault_new wr 1 k (by decide)).mono ?_
          rintro e w9 ⟨⟨v, rfl, hv⟩, hb9⟩
          have HV := Lib.hid hv
          have HW9 : Hid (Below w.heap.size w w9) := Lib.hid (below_trans HQ.out (hb9.mono HQ.out.size))
          clear hv hb9
          go_wp2
          go_ret
          exact ⟨.inr ⟨v, _, rfl, HV.out⟩, HW9.out⟩
      by_cases g2 : names ≤ pn
      · clear hcb
        have HBAD : Hid True := Lib.hid trivial
        go_wp2
        go_loopw [5, 6] (fun s5 s6 wr => s5 = .bool false ∧ Below w3.heap.size w3 wr) (fun _ _ _ => 0)
        case atStart => exact ⟨rfl, Below.refl _ _⟩
        case round =>
          obtain ⟨rfl, hq⟩ := hrel
          have HQ : Hid (Below w.heap.size w wr) := Lib.hid (below_trans HW3.out (hq.mono HW3.out.size))
          clear hq
          go_wp2_with fail
          refine (fault_new wr 1 k (by decide)).mono ?_
          rintro e w9 ⟨⟨v, rfl, hv⟩, hb9⟩
          have HV := Lib.hid hv
          have HW9 : Hid (Below w.heap.size w w9) := Lib.hid (below_trans HQ.out (hb9.mono HQ.out.size))
          clear hv hb9
          go_wp2
          go_ret
          exact ⟨.inr ⟨v, _, rfl, HV.out⟩, HW9.out⟩
      by_cases g3 : 8 < L
      · have hL8 : decide ((L : Int) ≤ 8) = false := decide_eq_false (by omega)
        have HBAD : Hid True := Lib.hid trivial
        go_wp2
        go_loopw [5, 6] (fun s5 s6 wr => s5 = .bool false ∧ Below w3.heap.size w3 wr) (fun _ _ _ => 0)
        case atStart => exact ⟨rfl, Below.refl _ _⟩
        case round =>
          obtain ⟨rfl, hq⟩ := hrel
          have HQ : Hid (Below w.heap.size w wr) := Lib.hid (below_trans HW3.out (hq.mono HW3.out.size))
          clear hq
          go_wp2_with fail
          refine (fault_new wr 1 k (by decide)).mono ?_
          rintro e w9 ⟨⟨v, rfl, hv⟩, hb9⟩
          have HV := Lib.hid hv
          have HW9 : Hid (Below w.heap.size w w9) := Lib.hid (below_trans HQ.out (hb9.mono HQ.out.size))
          clear hv hb9
          go_wp2
          go_ret
          exact ⟨.inr ⟨v, _, rfl, HV.out⟩, HW9.out⟩
      have hL8 : decide ((L : Int) ≤ 8) = true := decide_eq_true (by omega)
      have HGD : Hid (0 ≤ pn ∧ pn < names ∧ L ≤ 8) := Lib.hid (by omega)
      go_wp2
      clear hcn hcb hcm g1 g2 g3 hL8
      go_loopw [5, 6] (fun s5 s6 wq => ∃ (j : Nat) (ok : Bool), j ≤ L ∧ s6 = .int .i64 (j : Int) ∧ s5 = .bool ok ∧ Below w3.heap.size w3 wq ∧ (ok = true → ∀ i (h : i < r.body.length), i < j → r.body[i].name < names)) (fun _ s6 _ => L - (intOf s6).toNat)
      case atStart => exact ⟨0, true, Nat.zero_le _, rfl, rfl, Below.refl _ _, fun _ _ _ h => absurd h (Nat.not_lt_zero _)⟩
      case round =>
        obtain ⟨j, ok, hj, rfl, rfl, hbq, hall⟩ := hrel
        obtain ⟨wq, hwq⟩ : ∃ wq, wq = wr := ⟨_, rfl⟩
        rw [← hwq] at hbq ⊢
        clear hwq
        have HQ : Hid (Below w.heap.size w wq) := Lib.hid (below_trans HW3.out (hbq.mono HW3.out.size))
        have HQ1 : Hid (Below w1.heap.size w1 wq) := Lib.hid (below_trans HW13.out (hbq.mono HW13.out.size))
        have HQ3 := Lib.hid hbq
        have HB4q : Hid (Blk wq b4 (frvI r)) := Lib.hid (HB4.out.below hbq HB4.out.lt)
        have HB1q : Hid (Blk wq b1 (grv names (some ⟨g, kk, none⟩) n c)) := Lib.hid (HB13.out.below hbq HB13.out.lt)
        have HRSq : Hid (RS wq w.heap.size r.at_ r.body) := Lib.hid (HRS3.out.below hbq HW3.out.size)
        have HALL := Lib.hid hall
        clear hbq hall
        cases ok with
        | false =>
          go_wp2_with fail
          refine (fault_new wq 1 k (by decide)).mono ?_
          rintro e w9 ⟨⟨v, rfl, hv⟩, hb9⟩
          have HV := Lib.hid hv
          have HW9 : Hid (Below w.heap.size w w9) := Lib.hid (below_trans HQ.out (hb9.mono HQ.out.size))
          clear hv hb9
          go_wp2
          go_ret
          exact ⟨.inr ⟨v, _, rfl, HV.out⟩, HW9.out⟩
        | true =>
          have hcb : wq.cell? ⟨b4, 1, none⟩ = some (.slice A2 L c2) := HB4q.out.cell (by rw [HRC.out.2.1, HRC.out.2.2.1, HRC.out.2.2.2]; rfl)
          by_cases hjl : j < L
          · have hjr : j < r.body.length := by rw [← HRC.out.2.2.2]; exact hjl
            obtain ⟨g2, k2, hA2, hg2B, hg2s, hrow2⟩ := HRSq.out (by intro e; rw [e] at hjr; simp at hjr)
            have hA2' : A2 = some ⟨g2, k2, none⟩ := by rw [HRC.out.2.1]; exact hA2
            subst hA2'
            obtain ⟨x, hx⟩ : ∃ x, x = r.body[j] := ⟨_, rfl⟩
            obtain ⟨nx, hnx⟩ : ∃ nx, nx = x.name := ⟨_, rfl⟩
            have HXJ : Hid (∃ h : j < r.body.length, nx = r.body[j].name) := Lib.hid ⟨hjr, by rw [hnx, hx]⟩
            have NX : Hid (∀ w', Below wq.heap.size wq w' → w'.cell? ⟨g2, k2 + j * 3, none⟩ = some (.int .i64 nx)) := Lib.hid fun w' hb => by
              have := range_below (hrow2 j hjr) hb hg2s 0 (.int .i64 nx) (by rw [hnx, hx]; rfl)
              simpa using this
            have NB : Hid (∀ w', Below wq.heap.size wq w' → w'.cell? ⟨b4, 1, none⟩ = some (.slice (some ⟨g2, k2, none⟩) L c2)) := Lib.hid fun w' hb => (HB4q.out.below hb HB4q.out.lt).cell (by rw [HRC.out.2.1, HRC.out.2.2.1, HRC.out.2.2.2]; rfl)
            have NN : Hid (∀ w', Below wq.heap.size wq w' → w'.cell? ⟨b1, 0, none⟩ = some (.int .i64 names)) := Lib.hid fun w' hb => (HB1q.out.below hb HB1q.out.lt).cell rfl
            obtain ⟨kb, hkb⟩ : ∃ kb, kb = decide (nx < names) := ⟨_, rfl⟩
            have HKB := Lib.hid hkb
            have QK : Hid (decide (nx < names) = kb) := Lib.hid hkb.symm
            have QJ : Hid (j < L) := Lib.hid hjl
            clear hkb hnx hx hrow2 hg2B hg2s hA2 hjr
            go_wp2_with fail
            clear hcb
            refine region_vals [.pointer (some ⟨b4, 1, none⟩), .slice (some ⟨g2, k2, none⟩) L c2, .int .i64 (j : Int), .pointer (some ⟨g2, k2 + j * 3, none⟩), .pointer (some ⟨g2, k2 + j * 3, none⟩), .int .i64 nx, .pointer (some ⟨b1, 0, none⟩), .int .i64 names, .bool kb, .bool kb] [some 56, some 57, some 58, some 59, some 60, some 61, some 62, some 63, some 64, some 5] (fun _ w' => Below wq.heap.size wq w') (by kernel_rfl) (by kernel_rfl) (by kernel_rfl) rfl rfl (Below.refl _ _).drew (fun ii hii => ?_) ?_
            · match ii, hii with
              | 0, _ => exact vstep_pure rfl (vwant_none rfl) (fun _ _ h => h) (fun LL aa ww cc => ⟨.pointer (some ⟨b4, 1, none⟩), by have e0 : aa.tmps.getD 4 undef = .pointer (some ⟨b4, 0, none⟩) := (cc.orig 4 (by kernel_rfl)).trans rfl; simp only [execOp, Act.eval, e0]; go_simp, rfl⟩)
              | 1, _ => exact vstep_pure rfl (vwant_none rfl) (fun _ _ h => h) (fun LL aa ww cc => ⟨.slice (some ⟨g2, k2, none⟩) L c2, by have e0 : aa.tmps.getD 56 undef = .pointer (some ⟨b4, 1, none⟩) := cc.slot 0 56 (by kernel_rfl) rfl; have m := NB.out _ cc.world; simp only [execOp, Act.eval, e0]; go_simp, rfl⟩)
              | 2, _ => exact vstep_first rfl (vwant_none rfl) (fun _ _ h => h) 6 (Or.inl rfl) (by kernel_rfl) rfl
              | 3, _ => exact vstep_pure rfl (vwant_none rfl) (fun _ _ h => h) (fun LL aa ww cc => ⟨.pointer (some ⟨g2, k2 + j * 3, none⟩), by have e0 : aa.tmps.getD 57 undef = .slice (some ⟨g2, k2, none⟩) L c2 := cc.slot 1 57 (by kernel_rfl) rfl; have e1 : aa.tmps.getD 58 undef = .int .i64 (j : Int) := cc.slot 2 58 (by kernel_rfl) rfl; have q := QJ.out; simp only [execOp, Act.eval, e0, e1]; go_simp, rfl⟩)
              | 4, _ => exact vstep_pure rfl (vwant_none rfl) (fun _ _ h => h) (fun LL aa ww cc => ⟨.pointer (some ⟨g2, k2 + j * 3, none⟩), by have e0 : aa.tmps.getD 59 undef = .pointer (some ⟨g2, k2 + j * 3, none⟩) := cc.slot 3 59 (by kernel_rfl) rfl; simp only [execOp, Act.eval, e0]; go_simp, rfl⟩)
              | 5, _ => exact vstep_pure rfl (vwant_none rfl) (fun _ _ h => h) (fun LL aa ww cc => ⟨.int .i64 nx, by have e0 : aa.tmps.getD 60 undef = .pointer (some ⟨g2, k2 + j * 3, none⟩) := cc.slot 4 60 (by kernel_rfl) rfl; have m := NX.out _ cc.world; simp only [execOp, Act.eval, e0]; go_simp, rfl⟩)
              | 6, _ => exact vstep_pure rfl (vwant_none rfl) (fun _ _ h => h) (fun LL aa ww cc => ⟨.pointer (some ⟨b1, 0, none⟩), by have e0 : aa.tmps.getD 1 undef = .pointer (some ⟨b1, 0, none⟩) := (cc.orig 1 (by kernel_rfl)).trans rfl; simp only [execOp, Act.eval, e0]; go_simp, rfl⟩)
              | 7, _ => exact vstep_pure rfl (vwant_none rfl) (fun _ _ h => h) (fun LL aa ww cc => ⟨.int .i64 names, by have e0 : aa.tmps.getD 62 undef = .pointer (some ⟨b1, 0, none⟩) := cc.slot 6 62 (by kernel_rfl) rfl; have m := NN.out _ cc.world; simp only [execOp, Act.eval, e0]; go_simp, rfl⟩)
              | 8, _ => exact vstep_pure rfl (vwant_none rfl) (fun _ _ h => h) (fun LL aa ww cc => ⟨.bool kb, by have e0 : aa.tmps.getD 61 undef = .int .i64 nx := cc.slot 5 61 (by kernel_rfl) rfl; have e1 : aa.tmps.getD 63 undef = .int .i64 names := cc.slot 7 63 (by kernel_rfl) rfl; have q := QK.out; simp only [execOp, Act.eval, e0, e1]; go_simp, rfl⟩)
              | 9, _ => exact vstep_copy rfl (vwant_none rfl) (fun _ _ h => h) 64 (Or.inr rfl) 8 (by kernel_rfl) rfl (fun _ h => h)
              | n + 10, h => exact absurd h (by show ¬ (n + 10 < 10); omega)
            · intro L9 w6 _ hj6
              have HJ6 : Hid (Below w3.heap.size w3 w6) := Lib.hid (below_trans HQ3.out (hj6.mono HQ3.out.size))
              clear hj6 NX NB NN QK
              refine (by assumption : ∀ (a : Act) (w : World), Code.wp _ _ _ a w → _) _ _ ?_
              simp only [List.zip_cons_cons, List.zip_nil_right, putsL]
              go_simp
              go_wp2
              go_roundw
              case rel =>
                refine ⟨j + 1, kb, by have := QJ.out; omega, by have := QJ.out; go_num, rfl, HJ6.out, fun hk i hi hij => ?_⟩
                rcases Nat.lt_or_ge i j with h | h
                · exact HALL.out trivial i hi h
                · obtain rfl : i = j := by omega
                  obtain ⟨_, e⟩ := HXJ.out
                  have := HKB.out
                  rw [hk] at this
                  rw [← e]
                  simpa using this.symm
              case measure => simp [intOf]; have := QJ.out; omega
          · have HAL2 : Hid (∀ i (h : i < R.length), i < k + 1 → (0 ≤ R[i].name ∧ R[i].name < names) ∧ R[i].body.length ≤ 8 ∧ ∀ x ∈ R[i].body, x.name < names) := Lib.hid fun i hi hik => by
              rcases Nat.lt_or_ge i k with h | h
              · exact HAL.out i hi h
              · obtain rfl : i = k := by omega
                obtain ⟨_, e⟩ := HPI.out
                rw [← e, ← HRC.out.1, ← HRC.out.2.2.2]
                refine ⟨⟨HGD.out.1, HGD.out.2.1⟩, HGD.out.2.2, fun x hx => ?_⟩
                obtain ⟨m, hm, rfl⟩ := List.mem_iff_getElem.1 hx
                exact HALL.out rfl m hm (by have := HRC.out.2.2.2; omega)
            go_wp2
            go_roundw
            case rel => exact ⟨k + 1, by omega, by go_num, HQ1.out, HAL2.out⟩
            case measure => simp [intOf]; omega
    · have HSH : Hid (ShapeI names R) := Lib.hid (by
        have hkn : k = R.length := by have := HNL.out; omega
        have key : ∀ r ∈ R, (0 ≤ r.name ∧ r.name < names) ∧ r.body.length ≤ 8 ∧ ∀ x ∈ r.body, x.name < names := fun r hr => by
          obtain ⟨i, hi, rfl⟩ := List.mem_iff_getElem.1 hr
          exact HAL.out i hi (by omega)
        exact ⟨HLO.out.1, HLO.out.2, fun r hr => (key r hr).1, fun r hr => (key r hr).2.1, fun r hr => (key r hr).2.2, HFEW.out⟩)
      go_wp2
      go_ret
      exact ⟨.inl ⟨rfl, HSH.out⟩, HW.out⟩
end Go.Proofs.YtiebpmpjclnpeaaDoor
/- fit: the facts of a grammar that is fit. -/
namespace Go.Proofs.YtiebpmpjclnpeaaDoor
open Go.RowKit Nac Nac.Gram
def gof (R : List FormI) : List FormAt := R.map FormI.toF
theorem frvI_eq {r : FormI} (h : 0 ≤ r.name) : frvI r = frv r.toF.1 r.toF.2.1 r.toF.2.2 := by
  unfold frvI frv FormI.toF
  simp [Int.toNat_of_nonneg h]
theorem RGI.rg {w : World} {B : Nat} {A : Option Addr} {R : List FormI} (h : RGI w B A R) (hn : ∀ r ∈ R, 0 ≤ r.name) : RG w B A (gof R) := ⟨fun hne => by
  obtain ⟨g, k, hA, hgB, hgs, hr⟩ := h.rows (by rintro rfl; exact hne rfl)
  refine ⟨g, k, hA, hgB, hgs, fun i hi => ?_⟩
  have hi' : i < R.length := by simpa [gof] using hi
  have := hr i hi'
  rw [frvI_eq (hn _ (List.getElem_mem hi'))] at this
  simpa [gof] using this, fun p hp => by
  obtain ⟨r, hr, rfl⟩ := List.mem_map.1 hp
  exact h.body r hr⟩
theorem RG.mono' {w : World} {B B' : Nat} {A : Option Addr} {M : List FormAt} (h : RG w B A M) (hB : B ≤ B') : RG w B' A M := ⟨fun hne => by
  obtain ⟨g, k, hA, hg, hgs, hr⟩ := h.rows hne
  exact ⟨g, k, hA, by omega, hgs, hr⟩, fun p hp => (h.body p hp).mono hB⟩
theorem RGI.below {w w' : World} {B : Nat} {A : Option Addr} {R : List FormI} (h : RGI w B A R) (hb : Below B w w') : RGI w' B A R := ⟨fun hne => by
  obtain ⟨g, k, hA, hg, hgs, hr⟩ := h.rows hne
  exact ⟨g, k, hA, hg, Nat.lt_of_lt_of_le hgs hb.size, fun i hi => range_below (hr i hi) hb hg⟩, fun p hp => (h.body p hp).below hb (Nat.le_refl _)⟩
theorem RGI.mono {w : World} {B B' : Nat} {A : Option Addr} {R : List FormI} (h : RGI w B A R) (hB : B ≤ B') : RGI w B' A R := ⟨fun hne => by
  obtain ⟨g, k, hA, hg, hgs, hr⟩ := h.rows hne
  exact ⟨g, k, hA, by omega, hgs, hr⟩, fun p hp => (h.body p hp).mono hB⟩
theorem mok_of {R : List FormI} (h : ROk R) : MOk (gof R) := ⟨by simpa [gof] using h.len, fun p hp => by
  obtain ⟨r, hr, rfl⟩ := List.mem_map.1 hp
  exact h.cap r hr⟩
theorem shaped_of {R : List FormI} {N : Nat} (h : ShapeI N R) (hb : ∀ r ∈ R, ∀ x ∈ r.body, x.low < 256 ∧ x.high < 256) : Shaped (fms (gof R)) N := by
  have key : ∀ f ∈ fms (gof R), ∃ r ∈ R, f = ⟨r.name.toNat, r.body⟩ := fun f hf => by
    obtain ⟨p, hp, rfl⟩ := List.mem_map.1 hf
    obtain ⟨r, hr, rfl⟩ := List.mem_map.1 hp
    exact ⟨r, hr, rfl⟩
  refine ⟨by have := h.hi; omega, fun f hf => ?_, fun f hf => ?_, fun f hf x hx => ?_, fun f hf x hx => ?_⟩
  · obtain ⟨r, hr, rfl⟩ := key f hf
    have := h.name r hr
    show r.name.toNat < N
    omega
  · obtain ⟨r, hr, rfl⟩ := key f hf
    exact h.body r hr
  · obtain ⟨r, hr, rfl⟩ := key f hf
    exact h.sign r hr x hx
  · obtain ⟨r, hr, rfl⟩ := key f hf
    exact hb r hr x hx
theorem fit_studied {G : List Frm} {N : Nat} {F : Fx} (hG : Shaped G N) (h : Studied G F) (hc : ∀ n, n < N → NoClash F G n) : Fit F G :=
  fit_of hG h.sound h.null h.sfst h.cfst h.cfol hc
def RetFit (w : World) (names : Int) (R : List FormI) (e : Ending) (w' : World) : Prop :=
  ((∃ F, e = .returned (.tuple #[.agg (fcells F).toArray, .nilIface]) ∧ ShapeI names R ∧ Studied (fms (gof R)) F ∧ Fit F (fms (gof R))) ∨
    ∃ F gv, (fcells F).length = 160 ∧ e = .returned (.tuple #[.agg (fcells F).toArray, .iface 96 (.pointer (some ⟨gv, 0, none⟩))])) ∧ Below w.heap.size w w'
set_option maxRecDepth 100000 in
set_option maxHeartbeats 4000000 in
theorem fit_calls (w : World) (names : Int) (A : Option Addr) (c : Nat) (R : List FormI) (hR : ROk R) (hr : RGI w w.heap.size A R) (hby : ∀ r ∈ R, ∀ x ∈ r.body, x.low < 256 ∧ x.high < 256) :
    Calls Tryd.prog 19 #[.agg (grv names A R.length c).toArray] w (RetFit w names R) := by
  have HMO := Lib.hid hR
  have HR := Lib.hid hr
  have HBY := Lib.hid hby
  have hbd : ∀ w, (Instr.build 74 #[]).run Tryd.prog w = .ok (.agg (fcells .zero).toArray) w := fun w => run_build w _ _ _ (by kernel_rfl)
  obtain ⟨n, hnl⟩ : ∃ n, n = R.length := ⟨_, rfl⟩
  have HNL := Lib.hid hnl
  rw [← hnl]
  clear hR hr hnl hby
  go_enter Tryd.func19, Tryd.ntmps19
  go_wp2_with (first | ((with_reducible show wpList _ _ _ (Oper.mk (some 1) (Op.box 27 _) _ _ _ _ :: _) _ _); refine wpList_boxS (T := 27) rfl _ rfl (grv names A n c) rfl ?_) | fail)
  intro w1 hb1 hg1 hs1
  obtain ⟨b1, hb1e⟩ : ∃ b, b = w.heap.size := ⟨_, rfl⟩
  rw [← hb1e] at hb1 ⊢
  have HB1 := Lib.hid hb1
  have HW1 : Hid (Below w.heap.size w w1 ∧ b1 = w.heap.size) := Lib.hid ⟨grown_below hg1 (Nat.le_refl _) (fun k e => by cases e), hb1e⟩
  clear hb1 hg1 hs1 hb1e
  go_wp2_with (first | ((with_reducible show wpList _ _ _ (Oper.mk (some 2) (Op.alloc 74) _ _ _ _ :: _) _ _); refine wpList_allocS _ zFx rfl rfl ?_) | fail)
  intro w2 hb2 hg2 hs2
  obtain ⟨b2, hb2e⟩ : ∃ b, b = w1.heap.size := ⟨_, rfl⟩
  rw [← hb2e] at hb2 ⊢
  have HB2 := Lib.hid hb2
  have HB12 : Hid (Blk w2 b1 (grv names A n c)) := Lib.hid (HB1.out.grown hg2 (fun e => by cases e))
  have HW2 : Hid (Below w.heap.size w w2) := Lib.hid (below_trans HW1.out.1 (grown_below hg2 HW1.out.1.size (fun k e => by cases e)))
  have HN2 : Hid (w.heap.size ≤ b2) := Lib.hid (by have := HW1.out.1.size; omega)
  clear hb2 hg2 hs2 hb2e HB1 HW1
  go_wp2_with (first
    | ((with_reducible show wpList _ _ _ (Oper.mk (some 8) (Op.load 27 _) _ _ _ _ :: _) _ _); refine wpList_loadS sGrm rfl _ rfl b1 (grv names A n c) rfl HB12.out rfl ?_)
    | fail)
  rw [HNL.out]
  refine (shape_calls w2 names A c R HMO.out ((HR.out.below HW2.out).mono HW2.out.size)).mono ?_
  rw [← HNL.out]
  rintro e w3 ⟨⟨rfl, hsh⟩ | ⟨v, ci, rfl, hv⟩, hb3⟩
  · have HSH := Lib.hid hsh
    have HW3 : Hid (Below w.heap.size w w3) := Lib.hid (below_trans HW2.out (hb3.mono HW2.out.size))
    have HB13 : Hid (Blk w3 b1 (grv names A n c)) := Lib.hid (HB12.out.below hb3 HB12.out.lt)
    have HB23 : Hid (Blk w3 b2 (fcells .zero)) := Lib.hid (HB2.out.below hb3 HB2.out.lt)
    clear hb3 hsh HB12 HB2 HW2
    obtain ⟨N, rfl⟩ := Int.eq_ofNat_of_zero_le (show 0 ≤ names by have := HSH.out.lo; omega)
    have HGS : Hid (Shaped (fms (gof R)) N) := Lib.hid (shaped_of HSH.out HBY.out)
    have HRG : Hid (RG w w.heap.size A (gof R)) := Lib.hid (HR.out.rg fun r hr => (HSH.out.name r hr).1)
    have HGL : Hid (n = (gof R).length) := Lib.hid (by have := HNL.out; simpa [gof] using this)
    have HN16 : Hid (N ≤ 16) := Lib.hid HGS.out.n16
    go_wp2_with (first
      | ((with_reducible show wpList _ _ _ (Oper.mk (some 14) (Op.load 27 _) _ _ _ _ :: _) _ _); refine wpList_loadS sGrm rfl _ rfl b1 (grv (N : Int) A n c) rfl HB13.out rfl ?_)
      | fail)
    rw [HGL.out]
    refine (study_calls w3 N A c (gof R) N HGS.out (mok_of HMO.out) ((HRG.out.below HW3.out (Nat.le_refl _)).mono' HW3.out.size)).mono ?_
    rw [← HGL.out]
    rintro e w4 ⟨F, rfl, hst, hb4⟩
    have HST := Lib.hid hst
    have HW4 : Hid (Below w.heap.size w w4) := Lib.hid (below_trans HW3.out (hb4.mono HW3.out.size))
    have HB14 : Hid (Blk w4 b1 (grv (N : Int) A n c)) := Lib.hid (HB13.out.below hb4 HB13.out.lt)
    have HB24 : Hid (Blk w4 b2 (fcells .zero)) := Lib.hid (HB23.out.below hb4 HB23.out.lt)
    clear hst hb4 HB13 HB23 HW3
    go_wp2_with (first
      | ((with_reducible show wpList _ _ _ (Oper.mk (some 5) (Op.alloc 74) _ _ _ _ :: _) _ _); refine wpList_allocS _ zFx rfl rfl ?_)
      | fail)
    intro w5 hb5 hg5 hs5
    obtain ⟨b5, hb5e⟩ : ∃ b, b = w4.heap.size := ⟨_, rfl⟩
    rw [← hb5e] at hb5 ⊢
    have HB5 := Lib.hid hb5
    have HG5 := Lib.hid hg5
    have HN5 : Hid (w4.heap.size ≤ b5) := Lib.hid (by omega)
    clear hb5 hg5 hs5 hb5e
    go_wp2_with (first
      | ((with_reducible show wpList _ _ _ (Oper.mk _ (Op.store 74 _ _) _ _ _ _ :: _) _ _); refine wpList_storeS sFx rfl _ _ rfl b5 (fcells .zero) (fcells F) rfl rfl HB5.out rfl (fcells_len HST.out.ok) (fcells_one _) ?_)
      | fail)
    intro w6 hb6 hg6
    have hGW : Below w4.heap.size w4 w6 := below_trans (grown_below HG5.out (Nat.le_refl _) (fun k e => by cases e)) (grown_below hg6 HG5.out.size fun k e => by injection e with e; have := HN5.out; omega)
    have HB56 := Lib.hid hb6
    have HW6 : Hid (Below w.heap.size w w6) := Lib.hid (below_trans HW4.out (hGW.mono HW4.out.size))
    have HB16 : Hid (Blk w6 b1 (grv (N : Int) A n c)) := Lib.hid (HB14.out.below hGW HB14.out.lt)
    have HB26 : Hid (Blk w6 b2 (fcells .zero)) := Lib.hid (HB24.out.below hGW HB24.out.lt)
    have hc0 : w6.cell? ⟨b1, 0, none⟩ = some (.int .i64 (N : Int)) := HB16.out.cell rfl
    have hN16 := HN16.out
    clear hb6 hg6 hGW HB5 HG5 HB14 HB24 HW4
    go_wp2
    clear hc0
    go_loopw [18] (fun s18 wr => ∃ k : Nat, k ≤ N ∧ s18 = .int .i64 (k : Int) ∧ Below w6.heap.size w6 wr) (fun s18 _ => N - (intOf s18).toNat)
    case atStart => exact ⟨0, Nat.zero_le _, rfl, Below.refl _ _⟩
    case round =>
      obtain ⟨k, hk, rfl, hbr⟩ := hrel
      have HWr : Hid (Below w.heap.size w wr) := Lib.hid (below_trans HW6.out (hbr.mono HW6.out.size))
      have HBR := Lib.hid hbr
      have HB1r : Hid (Blk wr b1 (grv (N : Int) A n c)) := Lib.hid (HB16.out.below hbr HB16.out.lt)
      have HB2r : Hid (Blk wr b2 (fcells .zero)) := Lib.hid (HB26.out.below hbr HB26.out.lt)
      have HB5r : Hid (Blk wr b5 (fcells F)) := Lib.hid (HB56.out.below hbr HB56.out.lt)
      clear hbr
      by_cases hlt : k < N
      · have hct : wr.cell? ⟨b5, k, none⟩ = some (.bool (F.text.getD k false)) := HB5r.out.cell (fc_text HST.out.ok (by omega))
        have hk16 : (k : Int) < 16 := by omega
        cases htx : F.text.getD k false with
        | true =>
          rw [htx] at hct
          go_wp2
          go_roundw
          case rel => exact ⟨k + 1, by omega, by go_num, HBR.out⟩
          case measure => simp [intOf]; omega
        | false =>
          rw [htx] at hct
          go_wp2_with fail
          clear hct
          refine (fault_new wr 90 k (by decide)).mono ?_
          rintro e w9 ⟨⟨v, rfl, hv⟩, hb9⟩
          have HB29 : Hid (Blk w9 b2 (fcells .zero)) := Lib.hid (HB2r.out.below hb9 HB2r.out.lt)
          have HW9 : Hid (Below w.heap.size w w9) := Lib.hid (below_trans HWr.out (hb9.mono HWr.out.size))
          obtain ⟨gv, hgv, hbx⟩ := hv
          subst hgv
          have HBX := Lib.hid hbx
          clear hbx hb9
          go_wp2_with (first
            | ((with_reducible show wpList _ _ _ (Oper.mk _ (Op.store 74 _ _) _ _ _ _ :: _) _ _); refine wpList_storeS sFx rfl _ _ rfl b2 (fcells .zero) (fcells .zero) rfl rfl HB29.out rfl rfl (fcells_one _) ?_)
            | fail)
          intro w10 hb10 hg10
          have l10 := Lib.hid (run_loadS sFx b2 _ hb10 rfl)
          have HW10 : Hid (Below w.heap.size w w10) := Lib.hid (below_trans HW9.out (grown_below hg10 HW9.out.size fun k e => by injection e with e; have := HN2.out; omega))
          clear hb10 hg10
          go_wp2
          refine bodyPost_ret (v := .tuple #[.agg (fcells .zero).toArray, .iface 96 (.pointer (some ⟨gv, 0, none⟩))]) (by simp [results, Tryd.results19, asAddr, Sem.run_bind, Sem.run_pure, l10.out]) rfl ⟨.inr ⟨_, gv, rfl, rfl⟩, HW10.out⟩
      · have hc0 : wr.cell? ⟨b1, 0, none⟩ = some (.int .i64 (N : Int)) := HB1r.out.cell rfl
        obtain ⟨wz, hwz⟩ : ∃ wz, wz = wr := ⟨_, rfl⟩
        have HWZ := Lib.hid hwz
        clear hwz
        go_wp2
        clear hc0
        rw [← HWZ.out]
        rw [← HWZ.out] at HWr HB1r HB2r HB5r
        go_loopw [32] (fun s32 wq => ∃ k : Nat, k ≤ N ∧ s32 = .int .i64 (k : Int) ∧ Below wz.heap.size wz wq ∧ ∀ m, m < k → NoClash F (fms (gof R)) m) (fun s32 _ => N - (intOf s32).toNat)
        case atStart => exact ⟨0, Nat.zero_le _, rfl, Below.refl _ _, fun _ h => absurd h (Nat.not_lt_zero _)⟩
        case round =>
          obtain ⟨j, hj, rfl, hbq, hnc⟩ := hrel
          have HWq : Hid (Below w.heap.size w wr) := Lib.hid (below_trans HWr.out (hbq.mono HWr.out.size))
          have HB1q : Hid (Blk wr b1 (grv (N : Int) A n c)) := Lib.hid (HB1r.out.below hbq HB1r.out.lt)
          have HB2q : Hid (Blk wr b2 (fcells .zero)) := Lib.hid (HB2r.out.below hbq HB2r.out.lt)
          have HB5q : Hid (Blk wr b5 (fcells F)) := Lib.hid (HB5r.out.below hbq HB5r.out.lt)
          have HBQ := Lib.hid hbq
          have HNC := Lib.hid hnc
          clear hbq hnc
          by_cases hlj : j < N
          · go_wp2_with (first
              | ((with_reducible show wpList _ _ _ (Oper.mk (some 35) (Op.load 27 _) _ _ _ _ :: _) _ _); refine wpList_loadS sGrm rfl _ rfl b1 (grv (N : Int) A n c) rfl HB1q.out rfl ?_)
              | fail)
            rw [HGL.out]
            refine (clashes_calls wr F b5 (N : Int) A c (gof R) N j HST.out.ok HB5q.out HGS.out (mok_of HMO.out) ((HRG.out.below HWq.out (Nat.le_refl _)).mono' HWq.out.size) (by omega)).mono ?_
            rw [← HGL.out]
            rintro e w7 ⟨cb, rfl, hcb, hb7⟩
            have HCB := Lib.hid hcb
            have HW7 : Hid (Below w.heap.size w w7) := Lib.hid (below_trans HWq.out (hb7.mono HWq.out.size))
            have HB27 : Hid (Blk w7 b2 (fcells .zero)) := Lib.hid (HB2q.out.below hb7 HB2q.out.lt)
            have HB7 : Hid (Below wz.heap.size wz w7) := Lib.hid (below_trans HBQ.out (hb7.mono HBQ.out.size))
            clear hcb hb7
            cases cb with
            | true =>
              go_wp2_with fail
              refine (fault_new w7 91 j (by decide)).mono ?_
              rintro e w9 ⟨⟨v, rfl, hv⟩, hb9⟩
              have HB29 : Hid (Blk w9 b2 (fcells .zero)) := Lib.hid (HB27.out.below hb9 HB27.out.lt)
              have HW9 : Hid (Below w.heap.size w w9) := Lib.hid (below_trans HW7.out (hb9.mono HW7.out.size))
              obtain ⟨gv, hgv, hbx⟩ := hv
              subst hgv
              have HBX := Lib.hid hbx
              clear hbx hb9
              go_wp2_with (first
                | ((with_reducible show wpList _ _ _ (Oper.mk _ (Op.store 74 _ _) _ _ _ _ :: _) _ _); refine wpList_storeS sFx rfl _ _ rfl b2 (fcells .zero) (fcells .zero) rfl rfl HB29.out rfl rfl (fcells_one _) ?_)
                | fail)
              intro w10 hb10 hg10
              have l10 := Lib.hid (run_loadS sFx b2 _ hb10 rfl)
              have HW10 : Hid (Below w.heap.size w w10) := Lib.hid (below_trans HW9.out (grown_below hg10 HW9.out.size fun k e => by injection e with e; have := HN2.out; omega))
              clear hb10 hg10
              go_wp2
              refine bodyPost_ret (v := .tuple #[.agg (fcells .zero).toArray, .iface 96 (.pointer (some ⟨gv, 0, none⟩))]) (by simp [results, Tryd.results19, asAddr, Sem.run_bind, Sem.run_pure, l10.out]) rfl ⟨.inr ⟨_, gv, rfl, rfl⟩, HW10.out⟩
            | false =>
              go_wp2
              go_roundw
              case rel =>
                refine ⟨j + 1, by omega, by go_num, HB7.out, fun m hm => ?_⟩
                rcases Nat.lt_or_ge m j with h | h
                · exact HNC.out m h
                · obtain rfl : m = j := by omega
                  exact HCB.out trivial
              case measure => simp [intOf]; omega
          · have HFIT : Hid (Fit F (fms (gof R))) := Lib.hid (fit_studied HGS.out HST.out fun m hm => HNC.out m (by omega))
            go_wp2_with (first
              | ((with_reducible show wpList _ _ _ (Oper.mk (some 42) (Op.load 74 _) _ _ _ _ :: _) _ _); refine wpList_loadS sFx rfl _ rfl b5 (fcells F) rfl HB5q.out (fcells_len HST.out.ok) ?_)
              | ((with_reducible show wpList _ _ _ (Oper.mk _ (Op.store 74 _ _) _ _ _ _ :: _) _ _); refine wpList_storeS sFx rfl _ _ rfl b2 (fcells .zero) (fcells F) rfl rfl HB2q.out rfl (fcells_len HST.out.ok) (fcells_one _) ?_)
              | fail)
            intro w10 hb10 hg10
            have l10 := Lib.hid (run_loadS sFx b2 _ hb10 (fcells_len HST.out.ok))
            have HW10 : Hid (Below w.heap.size w w10) := Lib.hid (below_trans HWq.out (grown_below hg10 HWq.out.size fun k e => by injection e with e; have := HN2.out; omega))
            clear hb10 hg10
            go_wp2
            exact bodyPost_ret (v := .tuple #[.agg (fcells F).toArray, .nilIface]) (by simp [results, Tryd.results19, asAddr, Sem.run_bind, Sem.run_pure, l10.out]) rfl ⟨.inl ⟨F, rfl, HSH.out, HST.out, HFIT.out⟩, HW10.out⟩
  · obtain ⟨gv, hgv, hbx⟩ := hv
    subst hgv
    have HW3 : Hid (Below w.heap.size w w3) := Lib.hid (below_trans HW2.out (hb3.mono HW2.out.size))
    have HB23 : Hid (Blk w3 b2 (fcells .zero)) := Lib.hid (HB2.out.below hb3 HB2.out.lt)
    clear hbx hb3 HB12 HB2 HW2
    go_wp2_with (first
      | ((with_reducible show wpList _ _ _ (Oper.mk _ (Op.store 74 _ _) _ _ _ _ :: _) _ _); refine wpList_storeS sFx rfl _ _ rfl b2 (fcells .zero) (fcells .zero) rfl rfl HB23.out rfl rfl (fcells_one _) ?_)
      | fail)
    intro w10 hb10 hg10
    have l10 := Lib.hid (run_loadS sFx b2 _ hb10 rfl)
    have HW10 : Hid (Below w.heap.size w w10) := Lib.hid (below_trans HW3.out (grown_below hg10 HW3.out.size fun k e => by injection e with e; have := HN2.out; omega))
    clear hb10 hg10
    go_wp2
    exact bodyPost_ret (v := .tuple #[.agg (fcells .zero).toArray, .iface 96 (.pointer (some ⟨gv, 0, none⟩))]) (by simp [results, Tryd.results19, asAddr, Sem.run_bind, Sem.run_pure, l10.out]) rfl ⟨.inr ⟨_, gv, rfl, rfl⟩, HW10.out⟩
end Go.Proofs.YtiebpmpjclnpeaaDoor
/- Check: is a grammar fit? -/
namespace Go.Proofs.YtiebpmpjclnpeaaDoor
open Go.RowKit Nac Nac.Gram
def RetCheck (w : World) (names : Int) (R : List FormI) (e : Ending) (w' : World) : Prop :=
  ((e = .returned .nilIface ∧ ShapeI names R ∧ ∃ F, Studied (fms (gof R)) F ∧ Fit F (fms (gof R))) ∨
    ∃ gv, e = .returned (.iface 96 (.pointer (some ⟨gv, 0, none⟩)))) ∧ Below w.heap.size w w'
set_option maxRecDepth 100000 in
set_option maxHeartbeats 4000000 in
theorem check_calls (w : World) (names : Int) (A : Option Addr) (c : Nat) (R : List FormI) (hR : ROk R) (hr : RGI w w.heap.size A R) (hby : ∀ r ∈ R, ∀ x ∈ r.body, x.low < 256 ∧ x.high < 256) :
    Calls Tryd.prog 8 #[.agg (grv names A R.length c).toArray] w (RetCheck w names R) := by
  have HMO := Lib.hid hR
  have HR := Lib.hid hr
  have HBY := Lib.hid hby
  obtain ⟨n, hnl⟩ : ∃ n, n = R.length := ⟨_, rfl⟩
  have HNL := Lib.hid hnl
  rw [← hnl]
  clear hR hr hnl hby
  go_enter Tryd.func8, Tryd.ntmps8
  go_wp2_with (first | ((with_reducible show wpList _ _ _ (Oper.mk (some 1) (Op.box 27 _) _ _ _ _ :: _) _ _); refine wpList_boxS (T := 27) rfl _ rfl (grv names A n c) rfl ?_) | fail)
  intro w2 hb1 hg1 hs1
  obtain ⟨b1, hb1e⟩ : ∃ b, b = w.heap.size := ⟨_, rfl⟩
  rw [← hb1e] at hb1 ⊢
  have HB1 := Lib.hid hb1
  have HW2 : Hid (Below w.heap.size w w2) := Lib.hid (grown_below hg1 (Nat.le_refl _) (fun k e => by cases e))
  clear hb1 hg1 hs1 hb1e
  go_wp2_with (first
    | ((with_reducible show wpList _ _ _ (Oper.mk (some 6) (Op.load 27 _) _ _ _ _ :: _) _ _); refine wpList_loadS sGrm rfl _ rfl b1 (grv names A n c) rfl HB1.out rfl ?_)
    | fail)
  rw [HNL.out]
  refine (fit_calls w2 names A c R HMO.out ((HR.out.below HW2.out).mono HW2.out.size) HBY.out).mono ?_
  rw [← HNL.out]
  rintro e w3 ⟨⟨F, rfl, hsh, hst, hfit⟩ | ⟨F, gv, hfl, rfl⟩, hb3⟩
  · have HST := Lib.hid hst
    have HOK : Hid (ShapeI names R ∧ ∃ F, Studied (fms (gof R)) F ∧ Fit F (fms (gof R))) := Lib.hid ⟨hsh, F, hst, hfit⟩
    clear hsh hst hfit
    have HW3 : Hid (Below w.heap.size w w3) := Lib.hid (below_trans HW2.out (hb3.mono HW2.out.size))
    clear hb3 HB1 HW2
    go_wp2_with (first
      | ((with_reducible show wpList _ _ _ (Oper.mk (some 3) (Op.alloc 74) _ _ _ _ :: _) _ _); refine wpList_allocS _ zFx rfl rfl ?_)
      | fail)
    intro w4 hb4 hg4 hs4
    obtain ⟨b3, hb3e⟩ : ∃ b, b = w3.heap.size := ⟨_, rfl⟩
    rw [← hb3e] at hb4 ⊢
    have HB4 := Lib.hid hb4
    have HW4 : Hid (Below w.heap.size w w4 ∧ w.heap.size ≤ b3) := Lib.hid ⟨below_trans HW3.out (grown_below hg4 HW3.out.size (fun k e => by cases e)), by have := HW3.out.size; omega⟩
    clear hb4 hg4 hs4 hb3e
    go_wp2_with (first
      | ((with_reducible show wpList _ _ _ (Oper.mk _ (Op.store 74 _ _) _ _ _ _ :: _) _ _); refine wpList_storeS sFx rfl _ _ rfl b3 (fcells .zero) (fcells F) rfl rfl HB4.out rfl (fcells_len HST.out.ok) (fcells_one _) ?_)
      | fail)
    intro w5 hb5 hg5
    have HW5 : Hid (Below w.heap.size w w5) := Lib.hid (below_trans HW4.out.1 (grown_below hg5 HW4.out.1.size fun k e => by injection e with e; have := HW4.out.2; omega))
    clear hb5 hg5
    go_wp2
    go_ret
    exact ⟨.inl ⟨rfl, HOK.out⟩, HW5.out⟩
  · have HFL := Lib.hid hfl
    clear hfl
    have HW3 : Hid (Below w.heap.size w w3) := Lib.hid (below_trans HW2.out (hb3.mono HW2.out.size))
    clear hb3 HB1 HW2
    go_wp2_with (first
      | ((with_reducible show wpList _ _ _ (Oper.mk (some 3) (Op.alloc 74) _ _ _ _ :: _) _ _); refine wpList_allocS _ zFx rfl rfl ?_)
      | fail)
    intro w4 hb4 hg4 hs4
    obtain ⟨b3, hb3e⟩ : ∃ b, b = w3.heap.size := ⟨_, rfl⟩
    rw [← hb3e] at hb4 ⊢
    have HB4 := Lib.hid hb4
    have HW4 : Hid (Below w.heap.size w w4 ∧ w.heap.size ≤ b3) := Lib.hid ⟨below_trans HW3.out (grown_below hg4 HW3.out.size (fun k e => by cases e)), by have := HW3.out.size; omega⟩
    clear hb4 hg4 hs4 hb3e
    go_wp2_with (first
      | ((with_reducible show wpList _ _ _ (Oper.mk _ (Op.store 74 _ _) _ _ _ _ :: _) _ _); refine wpList_storeS sFx rfl _ _ rfl b3 (fcells .zero) (fcells F) rfl rfl HB4.out rfl HFL.out (fcells_one _) ?_)
      | fail)
    intro w5 hb5 hg5
    have HW5 : Hid (Below w.heap.size w w5) := Lib.hid (below_trans HW4.out.1 (grown_below hg5 HW4.out.1.size fun k e => by injection e with e; have := HW4.out.2; omega))
    clear hb5 hg5
    go_wp2
    go_ret
    exact ⟨.inr ⟨gv, rfl⟩, HW5.out⟩
end Go.Proofs.YtiebpmpjclnpeaaDoor
