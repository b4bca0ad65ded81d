/- The chapter's examples hold. -/
import Derived.Test.YtgeffkdobnipgaaProcEq
namespace Nac.Procs
def aw0 : PSet := P0 [1, 2] [⟨0, 0, 1⟩]
def aw1 : PSet := (startS aw0 0).2
def aw2 : PSet := (startS aw1 1).2
def aw3 : PSet := (takeS aw2 0 5).2
def aw4 : PSet := (giveS aw3 0 0 0).2
def aw5 : PSet := (takeS aw4 0 2).2
def aw6 : PSet := tickS aw5
def aw7 : PSet := tickS aw6
theorem aw_ok : OkNew [1, 2] [⟨0, 0, 1⟩] := ⟨by decide, by decide, by decide, by simp, fun r hr => by simp at hr; subst hr; exact ⟨.inl rfl, by decide, by decide, by decide, by decide, by decide, fun e => absurd e (by decide)⟩⟩
theorem aw_i0 : Inv aw0 := P0_inv aw_ok
theorem aw_i1 : Inv aw1 := start_inv aw_i0 0
theorem aw_i2 : Inv aw2 := start_inv aw_i1 1
theorem aw_i3 : Inv aw3 := take_inv aw_i2 0 5
theorem aw_i4 : Inv aw4 := give_inv aw_i3 0 0 0
theorem aw_i5 : Inv aw5 := take_inv aw_i4 0 2
theorem aw_i6 : Inv aw6 := tick_inv aw_i5
theorem aw_i7 : Inv aw7 := tick_inv aw_i6
theorem aw_r2 : runI aw2 = 1 := by decide
theorem aw_r3 : runI aw3 = 0 := by decide
theorem aw_r4 : runI aw4 = 1 := by decide
theorem aw_r7 : runI aw7 = 1 := by decide
theorem aw_t3 : (takeS aw2 0 5).1 = waits := by decide
theorem aw_g4 : (giveS aw3 0 0 0).1 = ok := by decide
theorem aw_l7 : lastO aw7 1 = errO 131 := by decide
end Nac.Procs
namespace Go.Proofs.Ytgeffkdobnipgaa
open Go.RowKit Nac Nac.Procs
theorem build2_int (w : World) (x y : Int) : (Instr.buildSlice 28 2 #[(0, .int .i64 x), (1, .int .i64 y)]).run Try.prog w = .ok (.slice (some ⟨w.heap.size, 0, none⟩) 2 2) (w.alloc (.cells #[.int .i64 x, .int .i64 y] 3)) := by
  obtain ⟨ti, hi, hz, hs1, hb1⟩ := info_parts Try.infoIt
  refine run_buildSlice w _ _ 2 _ _ ti _ Try.underlying28 hi hz (by rw [hs1]; decide) (by rw [hs1]; decide) ?_
  rw [hs1]; kernel_rfl
theorem field_code (w : World) : (Instr.field 37 (.agg #[.int .i64 131, .int .i64 0, .bool false]) 0).run Try.prog w = .ok (.int .i64 131) w := by kernel_rfl
theorem Try.infoRin : (Try.prog.info? 30).map (fun i => (i.zero, i.size, i.bytes)) = some (some (.agg #[.int .i64 0, .int .i64 0, .int .i64 0]), 3, 24) := by kernel_rfl
theorem build1_rin (w : World) (x y z : Int) : (Instr.buildSlice 31 1 #[(0, .agg #[.int .i64 x, .int .i64 y, .int .i64 z])]).run Try.prog w = .ok (.slice (some ⟨w.heap.size, 0, none⟩) 1 1) (w.alloc (.cells #[.int .i64 x, .int .i64 y, .int .i64 z] 30)) := by
  obtain ⟨ti, hi, hz, hs1, hb1⟩ := info_parts Try.infoRin
  refine run_buildSlice w _ _ 1 _ _ ti _ Try.underlying31 hi hz (by rw [hs1]; decide) (by rw [hs1]; decide) ?_
  rw [hs1]; kernel_rfl
theorem wpList_loadSw {T : TypeId} {n : Nat} {w : World} {ops : Array Oper} {rest : List Oper} {o : Oper} {a : Act} {Q : Exit → Act → World → Prop} (hS : SInfo T n) (hw : Region.wanted o (yielded ops a.tmps) = true) (x : Operand) (hop : o.op = .load T x) (b : Nat) (cs : List Value) (hx : a.eval x = .pointer (some ⟨b, 0, none⟩)) (hb : Blk w b cs) (hl : cs.length = n)
    (h : wpList Try.prog ops Q rest (a.put o.dst (.agg cs.toArray)) w) : wpList Try.prog ops Q (o :: rest) a w := by
  unfold wpList
  rw [if_pos hw]
  refine Or.inl ?_
  unfold Oper.wp
  have e : (execOp a.eval o).run Try.prog w = .ok (.value (.agg cs.toArray)) w := by
    unfold execOp
    simp only [hop, hx, Instr.loadAt, Instr.sureAddr, Sem.run_bind, Sem.run_pure, Result.andThen_ok, run_loadS hS b cs hb hl]
  rw [e]
  exact h
set_option maxRecDepth 100000 in
set_option maxHeartbeats 2000000 in
theorem awake_calls (w : World) : Calls Try.prog 9 #[] w (RetBb w true) := by
  have hbi := build2_int
  have hbr := build1_rin
  have HRI : Hid (RI ((w.alloc (.cells #[.int .i64 1, .int .i64 2] 3)).alloc (.cells #[.int .i64 0, .int .i64 0, .int .i64 1] 30)) (w.heap.size + 1 + 1) (some ⟨w.heap.size, 0, none⟩) [1, 2]) := Lib.hid fun _ => ⟨_, _, rfl, by omega, fun j hj => by
    have hb := (Blk.new w [.int .i64 1, .int .i64 2] 3).alloc (.cells #[.int .i64 0, .int .i64 0, .int .i64 1] 30)
    rw [Nat.zero_add]
    rcases (by simp at hj; omega : j = 0 ∨ j = 1) with rfl | rfl
    · exact hb.cell rfl
    · exact hb.cell rfl⟩
  have HRR : Hid (RR ((w.alloc (.cells #[.int .i64 1, .int .i64 2] 3)).alloc (.cells #[.int .i64 0, .int .i64 0, .int .i64 1] 30)) (w.heap.size + 1 + 1) (some ⟨w.heap.size + 1, 0, none⟩) [⟨0, 0, 1⟩]) := Lib.hid fun _ => ⟨_, _, rfl, by omega, fun j hj => by
    have hb := Blk.new (w.alloc (.cells #[.int .i64 1, .int .i64 2] 3)) [.int .i64 0, .int .i64 0, .int .i64 1] 30
    have hs : (w.alloc (.cells #[.int .i64 1, .int .i64 2] 3)).heap.size = w.heap.size + 1 := by simp
    rw [hs] at hb
    obtain rfl : j = 0 := by simp at hj; omega
    exact ⟨hb.cell rfl, hb.cell rfl, hb.cell rfl⟩⟩
  have HB0 : Hid (Below w.heap.size w ((w.alloc (.cells #[.int .i64 1, .int .i64 2] 3)).alloc (.cells #[.int .i64 0, .int .i64 0, .int .i64 1] 30))) := Lib.hid (((Below.refl _ _).alloc (Nat.le_refl _) _).alloc (by simp) _)
  have HSZ : Hid (((w.alloc (.cells #[.int .i64 1, .int .i64 2] 3)).alloc (.cells #[.int .i64 0, .int .i64 0, .int .i64 1] 30)).heap.size = w.heap.size + 1 + 1) := Lib.hid (by simp)
  obtain ⟨W, hW⟩ : ∃ W, W = ((w.alloc (.cells #[.int .i64 1, .int .i64 2] 3)).alloc (.cells #[.int .i64 0, .int .i64 0, .int .i64 1] 30)) := ⟨_, rfl⟩
  rw [← hW] at HRI HRR HB0 HSZ
  have HWW := Lib.hid hW
  clear hW
  go_enter Try.func9, Try.ntmps9
  go_wp2_with fail
  rw [← HWW.out]
  refine (new_ok W _ _ _ _ [1, 2] [⟨0, 0, 1⟩] 2 1 rfl rfl (by rw [HSZ.out]; exact HRI.out) (by rw [HSZ.out]; exact HRR.out) aw_ok).mono ?_
  rintro e w1 ⟨S, A1, c1, rfl, hm1, hfr, hbe⟩
  have H1 : Hid (SetM w1 S aw0 A1 c1) := Lib.hid hm1
  have HF1 : Hid (FrS S A1 w1 A1 w1) := Lib.hid (FrS.refl S A1 w1)
  have HFR : Hid (∀ k, Foot S A1 k → w.heap.size ≤ k) := Lib.hid fun k hk => by have := hfr k hk; rw [HSZ.out] at this; omega
  have HBW : Hid (Below w.heap.size w w1) := Lib.hid (HB0.out.trans (hbe.mono (by rw [HSZ.out]; omega)))
  clear hm1 hfr hbe HRI HRR HB0 HSZ HWW hbi hbr
  go_wp2_with fail
  refine (Start_calls w1 S aw0 A1 c1 H1.out aw_i0 0).mono ?_
  rintro e w2 ⟨rfl, A2, c2, h2, hf2⟩
  have H2 : Hid (SetM w2 S aw1 A2 c2) := Lib.hid h2
  have HF2 := Lib.hid (HF1.out.trans hf2)
  clear h2 hf2
  clear H1 HF1
  go_wp2_with fail
  refine (Start_calls w2 S aw1 A2 c2 H2.out aw_i1 1).mono ?_
  rintro e w3 ⟨rfl, A3, c3, h3, hf3⟩
  have H3 : Hid (SetM w3 S aw2 A3 c3) := Lib.hid h3
  have HF3 := Lib.hid (HF2.out.trans hf3)
  clear h3 hf3
  clear H2 HF2
  go_wp2_with fail
  refine (Running_calls w3 S aw2 A3 c3 H3.out aw_i2.wf.n (by have := aw_i2.rlen; omega) aw_i2.rin).mono ?_
  rintro e w4 ⟨rfl, hb4⟩
  obtain ⟨A4, hA4⟩ : ∃ X, X = A3 := ⟨_, rfl⟩
  obtain ⟨c4, hc4⟩ : ∃ X, X = c3 := ⟨_, rfl⟩
  have hf4 : FrS S A3 w3 A4 w4 := by rw [hA4]; exact FrS.below hb4
  have H4 : Hid (SetM w4 S _ A4 c4) := Lib.hid (by rw [hA4, hc4]; exact H3.out.below hb4)
  have HF4 := Lib.hid (HF3.out.trans hf4)
  clear hf4 hb4 hA4 hc4
  clear H3 HF3
  rw [aw_r2]
  go_wp2_with fail
  refine (Take_calls w4 S aw2 A4 c4 H4.out aw_i2 0 5).mono ?_
  rintro e w5 ⟨rfl, A5, c5, h5, hf5⟩
  have H5 : Hid (SetM w5 S aw3 A5 c5) := Lib.hid h5
  have HF5 := Lib.hid (HF4.out.trans hf5)
  clear h5 hf5
  clear H4 HF4
  rw [aw_t3]
  go_wp2_with ((with_reducible show wpList _ _ _ (Oper.mk _ (Op.alloc 37) _ _ _ _ :: _) _ _); refine wpList_allocS _ zOut rfl rfl ?_)
  intro w6 hb hg hs
  obtain ⟨b4, hbe⟩ : ∃ b, b = w5.heap.size := ⟨_, rfl⟩
  rw [← hbe] at hb ⊢
  obtain ⟨A6, hA6⟩ : ∃ X, X = A5 := ⟨_, rfl⟩
  obtain ⟨c6, hc6⟩ : ∃ X, X = c5 := ⟨_, rfl⟩
  have hf6 : FrS S A5 w5 A6 w6 := by rw [hA6]; exact FrS.grown hg fun k e => by cases e
  have H6 : Hid (SetM w6 S _ A6 c6) := Lib.hid (by rw [hA6, hc6]; exact H5.out.apart hg fun k e => by cases e)
  have HF6 := Lib.hid (HF5.out.trans hf6)
  have NFb4_6 : Hid (¬ Foot S A6 b4) := Lib.hid (by rw [hA6]; exact H5.out.notFoot (by rw [hbe]; exact Nat.le_refl _))
  have BXb4_6 := Lib.hid hb
  have HLb4 : Hid (w1.heap.size ≤ b4) := Lib.hid (by rw [hbe]; exact HF5.out.size)
  clear hb hg hs hbe hA6 hc6 hf6
  clear H5 HF5
  go_wp2_with ((with_reducible show wpList _ _ _ (Oper.mk _ (Op.store 37 _ _) _ _ _ _ :: _) _ _); refine wpList_storeS sOut rfl _ _ rfl b4 [.int .i64 0, .int .i64 0, .bool false] (ocs waits) rfl rfl BXb4_6.out rfl rfl (ocs_one _) ?_)
  intro w7 hb hg
  obtain ⟨A7, hA7⟩ : ∃ X, X = A6 := ⟨_, rfl⟩
  obtain ⟨c7, hc7⟩ : ∃ X, X = c6 := ⟨_, rfl⟩
  have H7 : Hid (SetM w7 S _ A7 c7) := Lib.hid (by rw [hA7, hc7]; exact H6.out.keepB hg NFb4_6.out)
  have HF7 : Hid (FrS S A1 w1 A7 w7) := Lib.hid (by rw [hA7]; exact HF6.out.bump hg HLb4.out)
  have NFb4_7 : Hid (¬ Foot S A7 b4) := Lib.hid (by rw [hA7]; exact NFb4_6.out)
  have BXb4_7 := Lib.hid hb
  clear hb hg hA7 hc7
  clear H6 HF6 NFb4_6 BXb4_6
  go_wp2_with fail
  refine (Running_calls w7 S aw3 A7 c7 H7.out aw_i3.wf.n (by have := aw_i3.rlen; omega) aw_i3.rin).mono ?_
  rintro e w8 ⟨rfl, hb8⟩
  obtain ⟨A8, hA8⟩ : ∃ X, X = A7 := ⟨_, rfl⟩
  obtain ⟨c8, hc8⟩ : ∃ X, X = c7 := ⟨_, rfl⟩
  have hf8 : FrS S A7 w7 A8 w8 := by rw [hA8]; exact FrS.below hb8
  have H8 : Hid (SetM w8 S _ A8 c8) := Lib.hid (by rw [hA8, hc8]; exact H7.out.below hb8)
  have HF8 := Lib.hid (HF7.out.trans hf8)
  have NFb4_8 : Hid (¬ Foot S A8 b4) := Lib.hid (hf8.nf NFb4_7.out BXb4_7.out.lt)
  have BXb4_8 : Hid (Blk w8 b4 (ocs waits)) := Lib.hid (hf8.blk BXb4_7.out NFb4_7.out)
  clear hf8 hb8 hA8 hc8
  clear H7 HF7 NFb4_7 BXb4_7
  rw [aw_r3]
  go_wp2_with fail
  refine (Give_calls w8 S aw3 A8 c8 H8.out aw_i3 0 0 0).mono ?_
  rintro e w9 ⟨rfl, A9, c9, h9, hf9⟩
  have H9 : Hid (SetM w9 S aw4 A9 c9) := Lib.hid h9
  have HF9 := Lib.hid (HF8.out.trans hf9)
  have NFb4_9 : Hid (¬ Foot S A9 b4) := Lib.hid (hf9.nf NFb4_8.out BXb4_8.out.lt)
  have BXb4_9 : Hid (Blk w9 b4 (ocs waits)) := Lib.hid (hf9.blk BXb4_8.out NFb4_8.out)
  clear h9 hf9
  clear H8 HF8 NFb4_8 BXb4_8
  rw [aw_g4]
  go_wp2_with ((with_reducible show wpList _ _ _ (Oper.mk _ (Op.alloc 37) _ _ _ _ :: _) _ _); refine wpList_allocS _ zOut rfl rfl ?_)
  intro w10 hb hg hs
  obtain ⟨b6, hbe⟩ : ∃ b, b = w9.heap.size := ⟨_, rfl⟩
  rw [← hbe] at hb ⊢
  obtain ⟨A10, hA10⟩ : ∃ X, X = A9 := ⟨_, rfl⟩
  obtain ⟨c10, hc10⟩ : ∃ X, X = c9 := ⟨_, rfl⟩
  have hf10 : FrS S A9 w9 A10 w10 := by rw [hA10]; exact FrS.grown hg fun k e => by cases e
  have H10 : Hid (SetM w10 S _ A10 c10) := Lib.hid (by rw [hA10, hc10]; exact H9.out.apart hg fun k e => by cases e)
  have HF10 := Lib.hid (HF9.out.trans hf10)
  have NFb6_10 : Hid (¬ Foot S A10 b6) := Lib.hid (by rw [hA10]; exact H9.out.notFoot (by rw [hbe]; exact Nat.le_refl _))
  have BXb6_10 := Lib.hid hb
  have HLb6 : Hid (w1.heap.size ≤ b6) := Lib.hid (by rw [hbe]; exact HF9.out.size)
  have NEb4b6 : Hid (b6 ≠ b4) := Lib.hid (by have := BXb4_9.out.lt; omega)
  have NFb4_10 : Hid (¬ Foot S A10 b4) := Lib.hid (hf10.nf NFb4_9.out BXb4_9.out.lt)
  have BXb4_10 : Hid (Blk w10 b4 (ocs waits)) := Lib.hid (hf10.blk BXb4_9.out NFb4_9.out)
  clear hb hg hs hbe hA10 hc10 hf10
  clear H9 HF9 NFb4_9 BXb4_9
  go_wp2_with ((with_reducible show wpList _ _ _ (Oper.mk _ (Op.store 37 _ _) _ _ _ _ :: _) _ _); refine wpList_storeS sOut rfl _ _ rfl b6 [.int .i64 0, .int .i64 0, .bool false] (ocs ok) rfl rfl BXb6_10.out rfl rfl (ocs_one _) ?_)
  intro w11 hb hg
  obtain ⟨A11, hA11⟩ : ∃ X, X = A10 := ⟨_, rfl⟩
  obtain ⟨c11, hc11⟩ : ∃ X, X = c10 := ⟨_, rfl⟩
  have H11 : Hid (SetM w11 S _ A11 c11) := Lib.hid (by rw [hA11, hc11]; exact H10.out.keepB hg NFb6_10.out)
  have HF11 : Hid (FrS S A1 w1 A11 w11) := Lib.hid (by rw [hA11]; exact HF10.out.bump hg HLb6.out)
  have NFb6_11 : Hid (¬ Foot S A11 b6) := Lib.hid (by rw [hA11]; exact NFb6_10.out)
  have BXb6_11 := Lib.hid hb
  have NFb4_11 : Hid (¬ Foot S A11 b4) := Lib.hid (by rw [hA11]; exact NFb4_10.out)
  have BXb4_11 : Hid (Blk w11 b4 (ocs waits)) := Lib.hid (BXb4_10.out.grown hg (fun e => by injection e with e; exact NEb4b6.out e))
  clear hb hg hA11 hc11
  clear H10 HF10 NFb4_10 BXb4_10 NFb6_10 BXb6_10
  go_wp2_with fail
  refine (Running_calls w11 S aw4 A11 c11 H11.out aw_i4.wf.n (by have := aw_i4.rlen; omega) aw_i4.rin).mono ?_
  rintro e w12 ⟨rfl, hb12⟩
  obtain ⟨A12, hA12⟩ : ∃ X, X = A11 := ⟨_, rfl⟩
  obtain ⟨c12, hc12⟩ : ∃ X, X = c11 := ⟨_, rfl⟩
  have hf12 : FrS S A11 w11 A12 w12 := by rw [hA12]; exact FrS.below hb12
  have H12 : Hid (SetM w12 S _ A12 c12) := Lib.hid (by rw [hA12, hc12]; exact H11.out.below hb12)
  have HF12 := Lib.hid (HF11.out.trans hf12)
  have NFb4_12 : Hid (¬ Foot S A12 b4) := Lib.hid (hf12.nf NFb4_11.out BXb4_11.out.lt)
  have BXb4_12 : Hid (Blk w12 b4 (ocs waits)) := Lib.hid (hf12.blk BXb4_11.out NFb4_11.out)
  have NFb6_12 : Hid (¬ Foot S A12 b6) := Lib.hid (hf12.nf NFb6_11.out BXb6_11.out.lt)
  have BXb6_12 : Hid (Blk w12 b6 (ocs ok)) := Lib.hid (hf12.blk BXb6_11.out NFb6_11.out)
  clear hf12 hb12 hA12 hc12
  clear H11 HF11 NFb4_11 BXb4_11 NFb6_11 BXb6_11
  rw [aw_r4]
  go_wp2_with fail
  refine (Take_calls w12 S aw4 A12 c12 H12.out aw_i4 0 2).mono ?_
  rintro e w13 ⟨rfl, A13, c13, h13, hf13⟩
  have H13 : Hid (SetM w13 S aw5 A13 c13) := Lib.hid h13
  have HF13 := Lib.hid (HF12.out.trans hf13)
  have NFb4_13 : Hid (¬ Foot S A13 b4) := Lib.hid (hf13.nf NFb4_12.out BXb4_12.out.lt)
  have BXb4_13 : Hid (Blk w13 b4 (ocs waits)) := Lib.hid (hf13.blk BXb4_12.out NFb4_12.out)
  have NFb6_13 : Hid (¬ Foot S A13 b6) := Lib.hid (hf13.nf NFb6_12.out BXb6_12.out.lt)
  have BXb6_13 : Hid (Blk w13 b6 (ocs ok)) := Lib.hid (hf13.blk BXb6_12.out NFb6_12.out)
  clear h13 hf13
  clear H12 HF12 NFb4_12 BXb4_12 NFb6_12 BXb6_12
  go_wp2_with fail
  refine (Tick_calls w13 S aw5 A13 c13 H13.out aw_i5).mono ?_
  rintro e w14 ⟨rfl, A14, c14, h14, hf14⟩
  have H14 : Hid (SetM w14 S aw6 A14 c14) := Lib.hid h14
  have HF14 := Lib.hid (HF13.out.trans hf14)
  have NFb4_14 : Hid (¬ Foot S A14 b4) := Lib.hid (hf14.nf NFb4_13.out BXb4_13.out.lt)
  have BXb4_14 : Hid (Blk w14 b4 (ocs waits)) := Lib.hid (hf14.blk BXb4_13.out NFb4_13.out)
  have NFb6_14 : Hid (¬ Foot S A14 b6) := Lib.hid (hf14.nf NFb6_13.out BXb6_13.out.lt)
  have BXb6_14 : Hid (Blk w14 b6 (ocs ok)) := Lib.hid (hf14.blk BXb6_13.out NFb6_13.out)
  clear h14 hf14
  clear H13 HF13 NFb4_13 BXb4_13 NFb6_13 BXb6_13
  go_wp2_with fail
  refine (Tick_calls w14 S aw6 A14 c14 H14.out aw_i6).mono ?_
  rintro e w15 ⟨rfl, A15, c15, h15, hf15⟩
  have H15 : Hid (SetM w15 S aw7 A15 c15) := Lib.hid h15
  have HF15 := Lib.hid (HF14.out.trans hf15)
  have NFb4_15 : Hid (¬ Foot S A15 b4) := Lib.hid (hf15.nf NFb4_14.out BXb4_14.out.lt)
  have BXb4_15 : Hid (Blk w15 b4 (ocs waits)) := Lib.hid (hf15.blk BXb4_14.out NFb4_14.out)
  have NFb6_15 : Hid (¬ Foot S A15 b6) := Lib.hid (hf15.nf NFb6_14.out BXb6_14.out.lt)
  have BXb6_15 : Hid (Blk w15 b6 (ocs ok)) := Lib.hid (hf15.blk BXb6_14.out NFb6_14.out)
  clear h15 hf15
  clear H14 HF14 NFb4_14 BXb4_14 NFb6_14 BXb6_14
  have HEQ : Hid (∀ (w : World) (p q : Operand) (x y : Out), (do eqGuard .eql 37 p q (.agg (ocs x).toArray) (.agg (ocs y).toArray); binOp .eql 37 (.agg (ocs x).toArray) (.agg (ocs y).toArray) : Sem Value).run Try.prog w = .ok (.bool (outEq x y)) w) := Lib.hid run_eql_out
  go_wp2_with (first
    | ((with_reducible show wpList _ _ _ (Oper.mk _ (Op.load 37 (.tmp 4)) _ _ _ _ :: _) _ _); refine wpList_loadSw sOut (by rfl) _ rfl b4 (ocs waits) rfl BXb4_15.out rfl ?_)
    | ((with_reducible show wpList _ _ _ (Oper.mk _ (Op.load 37 (.tmp 6)) _ _ _ _ :: _) _ _); refine wpList_loadSw sOut (by rfl) _ rfl b6 (ocs ok) rfl BXb6_15.out rfl ?_)
    | ((with_reducible show wpList _ _ _ (Oper.mk (some 42) (Op.binOp BinOp.eql 37 _ _ _) _ _ _ _ :: _) _ _); refine wpList_binV (by rfl) _ _ _ _ _ rfl (.bool true) (HEQ.out _ _ _ waits waits) ?_)
    | ((with_reducible show wpList _ _ _ (Oper.mk (some 51) (Op.binOp BinOp.eql 37 _ _ _) _ _ _ _ :: _) _ _); refine wpList_binV (by rfl) _ _ _ _ _ rfl (.bool true) (HEQ.out _ _ _ ok ok) ?_)
    | fail)
  refine (Running_calls w15 S aw7 A15 c15 H15.out aw_i7.wf.n (by have := aw_i7.rlen; omega) aw_i7.rin).mono ?_
  rintro e w16 ⟨rfl, hb16⟩
  have H16 : Hid (SetM w16 S aw7 A15 c15) := Lib.hid (H15.out.below hb16)
  have HB16 : Hid (Below w.heap.size w w16) := Lib.hid ((HF15.out.out HBW.out HFR.out (Nat.le_refl _)).trans (hb16.mono (Nat.le_trans HBW.out.size HF15.out.size)))
  clear hb16
  clear H15 HF15 NFb4_15 BXb4_15 NFb6_15 BXb6_15
  rw [aw_r7]
  go_wp2_with fail
  refine (Last_calls w16 S aw7 A15 c15 H16.out aw_i7 1).mono ?_
  rintro e w17 ⟨rfl, hb17⟩
  have HZ : Hid (Below w.heap.size w w17) := Lib.hid (HB16.out.trans (hb17.mono HB16.out.size))
  clear hb17 H16 HB16 HEQ
  have hfl := field_code
  rw [aw_l7, show (ocs (errO 131)).toArray = #[.int .i64 131, .int .i64 0, .bool false] from rfl]
  go_wp2
  go_ret
  exact ⟨rfl, HZ.out⟩
end Go.Proofs.Ytgeffkdobnipgaa
