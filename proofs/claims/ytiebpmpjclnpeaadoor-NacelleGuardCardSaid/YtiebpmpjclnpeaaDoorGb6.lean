/- Bundle 6 of the texts GStep1. -/
import Derived.Test.YtiebpmpjclnpeaaDoorGb5
/- study's first step: what has a text, what vanishes. -/
namespace Go.Proofs.YtiebpmpjclnpeaaDoor
open Go.RowKit Nac Nac.Gram
/-- the first half of it -/
def stepT (f : Frm) (F : Fx) : Fx := { F with text := F.text.set f.name (F.text.getD f.name false || deriveB F f.body) }
def stepN (f : Frm) (F : Fx) : Fx := { F with null := F.null.set f.name (F.null.getD f.name false || vanishB F f.body) }
theorem step1_two (f : Frm) (F : Fx) : step1 f F = stepN f (stepT f F) := rfl
set_option maxRecDepth 100000 in
set_option maxHeartbeats 2000000 in
theorem step1_calls (w : World) (F : Fx) (bf B : Nat) (f : Frm) (A : Option Addr) (c : Nat) (hF : F.Ok) (hf : Blk w bf (fcells F)) (hl : RS w B A f.body) (hB : B ≤ bf) (hn : f.name < 16) (hs : ∀ x ∈ f.body, x.name < 16) (hm : f.body.length ≤ 9223372036854775807) :
    Calls Tryd.prog 39 #[.agg (frv f A c).toArray, .pointer (some ⟨bf, 0, none⟩)] w (Stepped w bf (step1 f F)) := by
  have HFO := Lib.hid hF
  have HN16 := Lib.hid hs
  have HBb := Lib.hid hB
  obtain ⟨n, hnn⟩ : ∃ n, n = f.name := ⟨_, rfl⟩
  have HNN := Lib.hid hnn
  have QI : Hid (n < 16) := Lib.hid (by omega)
  obtain ⟨L, hL⟩ : ∃ L, L = f.body.length := ⟨_, rfl⟩
  have HLL := Lib.hid hL
  have HM := Lib.hid hm
  have HRS0 := Lib.hid hl
  have HBF0 := Lib.hid hf
  clear hF hs hB hnn hL hn hm hl hf
  go_enter Tryd.func39, Tryd.ntmps39
  go_wp2_with (first | ((with_reducible show wpList _ _ _ (Oper.mk (some 2) (Op.box 105 _) _ _ _ _ :: _) _ _); refine wpList_boxS (T := 105) rfl _ rfl (frv f A c) rfl ?_) | fail)
  intro w1 hb1 hg1 hs1
  obtain ⟨b2, hb2⟩ : ∃ b, b = w.heap.size := ⟨_, rfl⟩
  rw [← hb2] at hb1 ⊢
  have HB2 := Lib.hid hb1
  have HG1 : Hid (w.grownBy w1 (some bf)) := Lib.hid (grown_none hg1)
  have HBF : Hid (Blk w1 bf (fcells F)) := Lib.hid (HBF0.out.grown hg1 (fun e => by cases e))
  have HNE : Hid (b2 ≠ bf) := Lib.hid (by have := HBF0.out.lt; omega)
  have HRS : Hid (RS w1 B A f.body) := Lib.hid (HRS0.out.grown HG1.out HBb.out)
  have HBW : Hid (B ≤ w1.heap.size) := Lib.hid (by have := HBF.out.lt; have := HBb.out; omega)
  clear hb1 hg1 hs1 hb2 HRS0 HBF0
  have N1 : Hid (∀ w', Below w1.drew.heap.size w1.drew w' → w'.cell? ⟨b2, 0, none⟩ = some (.int .i64 (n : Int))) := Lib.hid fun w' hb => (HB2.out.drew.below hb HB2.out.lt).cell (by rw [HNN.out]; rfl)
  have NB : Hid (∀ w', Below w1.drew.heap.size w1.drew w' → w'.cell? ⟨b2, 1, none⟩ = some (.slice A L c)) := Lib.hid fun w' hb => (HB2.out.drew.below hb HB2.out.lt).cell (by rw [HLL.out]; rfl)
  obtain ⟨dv, hdv⟩ : ∃ dv, dv = deriveB F f.body := ⟨_, rfl⟩
  have HDV := Lib.hid hdv
  have hfc := fc_text HFO.out QI.out
  have CL : Hid (∀ w', Below w1.drew.heap.size w1.drew w' → Calls Tryd.prog 40 #[.pointer (some ⟨bf, 0, none⟩), .slice A L c] w' fun e w'' => ∃ v, e = .returned v ∧ (VD.is (.bool dv)).ok v w'' ∧ Below w'.heap.size w' w'') := Lib.hid fun w' hb => by
    rw [hdv, HLL.out]
    exact (derives_calls w' F bf A c f.body HFO.out (HBF.out.drew.below hb HBF.out.lt) ((HRS.out.below (below_trans (drew_below _ _) hb) HBW.out).mono (Nat.le_trans HBW.out hb.size)) HN16.out HM.out).mono fun _ _ h => h.ex
  clear hdv
  cases htx : F.text.getD n false with
  | true =>
    have htx' : F.text.getD n false = true := htx
    rw [htx'] at hfc
    have TX : Hid (∀ w', Below w1.drew.heap.size w1.drew w' → w'.cell? ⟨bf, n, none⟩ = some (.bool true)) := Lib.hid fun w' hb => (HBF.out.drew.below hb HBF.out.lt).cell hfc
    have HVV : Hid (stepT f F = { F with text := F.text.set n true }) := Lib.hid (by unfold stepT; rw [← HNN.out, htx, Bool.true_or])
    clear hfc htx htx'
    go_wp2_with fail
    refine region_tails 14 (fun ix9 => ([.is (.pointer (some ⟨b2, 0, none⟩)), .is (.int .i64 (n : Int)), .is (.pointer (some ⟨b2, 0, none⟩)), .is (.int .i64 (n : Int)), .is (.pointer (some ⟨bf, 0, none⟩)), .is (.pointer (some ⟨bf, n, none⟩)), .is (.bool true), .is (.bool true), .is (undef), .is (undef), .is (undef), .is (.bool true), .is (.pointer (some ⟨bf, 0, none⟩)), .is (.pointer (some ⟨bf, n, none⟩))] : List VD).getD ix9 (.is undef)) [some 3, some 4, some 5, some 6, some 7, some 8, some 9, some 10, some 11, some 12, some 13, some 14, some 15, some 16] (by kernel_rfl) (by kernel_rfl) (by kernel_rfl) (by kernel_rfl) rfl (fun ii hii => ?_) ?_
    · match ii, hii with
      | 0, _ => exact mstep_pure rfl (mwant_none rfl) (fun aa ww cc => ⟨.pointer (some ⟨b2, 0, none⟩), by have e0 : aa.tmps.getD 2 undef = .pointer (some ⟨b2, 0, none⟩) := (cc.orig 2 (by kernel_rfl)).trans rfl; simp only [execOp, Act.eval, e0]; go_simp, rfl⟩)
      | 1, _ => exact mstep_pure rfl (mwant_none rfl) (fun aa ww cc => ⟨.int .i64 (n : Int), by have e0 : aa.tmps.getD 3 undef = .pointer (some ⟨b2, 0, none⟩) := cc.slot 0 3 (by kernel_rfl) rfl; have m := N1.out _ cc.below; simp only [execOp, Act.eval, e0]; go_simp, rfl⟩)
      | 2, _ => exact mstep_pure rfl (mwant_none rfl) (fun aa ww cc => ⟨.pointer (some ⟨b2, 0, none⟩), by have e0 : aa.tmps.getD 2 undef = .pointer (some ⟨b2, 0, none⟩) := (cc.orig 2 (by kernel_rfl)).trans rfl; simp only [execOp, Act.eval, e0]; go_simp, rfl⟩)
      | 3, _ => exact mstep_pure rfl (mwant_none rfl) (fun aa ww cc => ⟨.int .i64 (n : Int), by have e0 : aa.tmps.getD 5 undef = .pointer (some ⟨b2, 0, none⟩) := cc.slot 2 5 (by kernel_rfl) rfl; have m := N1.out _ cc.below; simp only [execOp, Act.eval, e0]; go_simp, rfl⟩)
      | 4, _ => exact mstep_pure rfl (mwant_none rfl) (fun aa ww cc => ⟨.pointer (some ⟨bf, 0, none⟩), by have e0 : aa.tmps.getD 1 undef = .pointer (some ⟨bf, 0, none⟩) := (cc.orig 1 (by kernel_rfl)).trans rfl; simp only [execOp, Act.eval, e0]; go_simp, rfl⟩)
      | 5, _ => exact mstep_pure rfl (mwant_none rfl) (fun aa ww cc => ⟨.pointer (some ⟨bf, n, none⟩), by have e0 : aa.tmps.getD 7 undef = .pointer (some ⟨bf, 0, none⟩) := cc.slot 4 7 (by kernel_rfl) rfl; have e1 : aa.tmps.getD 6 undef = .int .i64 (n : Int) := cc.slot 3 6 (by kernel_rfl) rfl; have qi := QI.out; have q : (n : Int) < 16 := (by omega); simp only [execOp, Act.eval, e0, e1]; go_simp, rfl⟩)
      | 6, _ => exact mstep_pure rfl (mwant_none rfl) (fun aa ww cc => ⟨.bool true, by have e0 : aa.tmps.getD 8 undef = .pointer (some ⟨bf, n, none⟩) := cc.slot 5 8 (by kernel_rfl) rfl; have m := TX.out _ cc.below; simp only [execOp, Act.eval, e0]; go_simp, rfl⟩)
      | 7, _ => exact mstep_copy rfl (mwant_none rfl) 9 (Or.inl rfl) 6 (by kernel_rfl) rfl rfl
      | 8, _ => exact mstep_unwanted rfl 7 false 10 rfl (by kernel_rfl) rfl (Or.inl rfl) (by kernel_rfl) rfl
      | 9, _ => exact mstep_unwanted rfl 7 false 10 rfl (by kernel_rfl) rfl (Or.inl rfl) (by kernel_rfl) rfl
      | 10, _ => exact mstep_unwanted rfl 7 false 10 rfl (by kernel_rfl) rfl (Or.inl rfl) (by kernel_rfl) rfl
      | 11, _ => exact mstep_pure rfl (mwant_none rfl) (fun aa ww cc => ⟨.bool true, by have e0 : aa.tmps.getD 10 undef = .bool true := cc.slot 7 10 (by kernel_rfl) rfl; simp only [execOp, Act.eval, e0]; go_simp, rfl⟩)
      | 12, _ => exact mstep_pure rfl (mwant_none rfl) (fun aa ww cc => ⟨.pointer (some ⟨bf, 0, none⟩), by have e0 : aa.tmps.getD 1 undef = .pointer (some ⟨bf, 0, none⟩) := (cc.orig 1 (by kernel_rfl)).trans rfl; simp only [execOp, Act.eval, e0]; go_simp, rfl⟩)
      | 13, _ => exact mstep_pure rfl (mwant_none rfl) (fun aa ww cc => ⟨.pointer (some ⟨bf, n, none⟩), by have e0 : aa.tmps.getD 15 undef = .pointer (some ⟨bf, 0, none⟩) := cc.slot 12 15 (by kernel_rfl) rfl; have e1 : aa.tmps.getD 4 undef = .int .i64 (n : Int) := cc.slot 1 4 (by kernel_rfl) rfl; have qi := QI.out; have q : (n : Int) < 16 := (by omega); simp only [execOp, Act.eval, e0, e1]; go_simp, rfl⟩)
      | n + 14, h => exact absurd h (by show ¬ (n + 14 < 14); omega)
    · intro VV w5 hlen hb5 hok
      match VV, hlen with
      | [v0, v1, v2, v3, v4, v5, v6, v7, v8, v9, v10, v11, v12, v13], _ =>
        obtain rfl : v0 = .pointer (some ⟨b2, 0, none⟩) := hok 0 3 rfl
        obtain rfl : v1 = .int .i64 (n : Int) := hok 1 4 rfl
        obtain rfl : v2 = .pointer (some ⟨b2, 0, none⟩) := hok 2 5 rfl
        obtain rfl : v3 = .int .i64 (n : Int) := hok 3 6 rfl
        obtain rfl : v4 = .pointer (some ⟨bf, 0, none⟩) := hok 4 7 rfl
        obtain rfl : v5 = .pointer (some ⟨bf, n, none⟩) := hok 5 8 rfl
        obtain rfl : v6 = .bool true := hok 6 9 rfl
        obtain rfl : v7 = .bool true := hok 7 10 rfl
        obtain rfl : v8 = undef := hok 8 11 rfl
        obtain rfl : v9 = undef := hok 9 12 rfl
        obtain rfl : v10 = undef := hok 10 13 rfl
        obtain rfl : v11 = .bool true := hok 11 14 rfl
        obtain rfl : v12 = .pointer (some ⟨bf, 0, none⟩) := hok 12 15 rfl
        obtain rfl : v13 = .pointer (some ⟨bf, n, none⟩) := hok 13 16 rfl
        have HBF5 : Hid (Blk w5 bf (fcells F)) := Lib.hid (HBF.out.below hb5 HBF.out.lt)
        have HG5 : Hid (w1.grownBy w5 (some bf)) := Lib.hid (grownBy_below hb5 (Nat.le_refl _))
        have HB25 : Hid (Blk w5 b2 (frv f A c)) := Lib.hid (HB2.out.below hb5 HB2.out.lt)
        clear hb5 hok N1 NB TX CL HB2 HBF
        simp only [List.zip_cons_cons, List.zip_nil_right, putsL]
        go_simp
        go_wp2_with ((with_reducible show wpList _ _ _ (Oper.mk _ (Op.store _ _ _) _ _ _ _ :: _) _ _); refine wpList_storeB rfl 4 _ _ rfl bf (n) _ (.bool true) rfl rfl HBF5.out (by rw [fcells_len HFO.out]; have := QI.out; omega) s1Bool rfl ?_)
        intro w6 hb6 hg6
        have HFO1 : Hid (stepT f F).Ok := Lib.hid (by rw [HVV.out]; exact ok_text HFO.out _ _)
        have HBF6 : Hid (Blk w6 bf (fcells (stepT f F))) := Lib.hid (by rw [HVV.out, ← fset_text HFO.out QI.out]; exact hb6)
        have HG6 : Hid (w1.grownBy w6 (some bf)) := Lib.hid (HG5.out.trans hg6)
        have HB26 : Hid (Blk w6 b2 (frv f A c)) := Lib.hid (HB25.out.grown hg6 (fun e => by injection e with e; exact HNE.out e.symm))
        have HRS6 : Hid (RS w6 B A f.body) := Lib.hid (HRS.out.grown HG6.out HBb.out)
        have HBW6 : Hid (B ≤ w6.heap.size) := Lib.hid (by have := HBF6.out.lt; have := HBb.out; omega)
        clear hb6 hg6 HBF5 HG5 HB25 HVV HDV HRS HBW HFO
        rename Hid (stepT f F).Ok => HFO
        rename Hid (Blk w6 bf (fcells (stepT f F))) => HBF
        rename Hid (Blk w6 b2 (frv f A c)) => HB2
        rename Hid (RS w6 B A f.body) => HRS
        rename Hid (B ≤ w6.heap.size) => HBW
        obtain ⟨F1, hF1⟩ : ∃ F1, F1 = stepT f F := ⟨_, rfl⟩
        rw [← hF1] at HFO HBF
        have HF1 := Lib.hid hF1
        clear hF1
        have N1 : Hid (∀ w', Below w6.drew.heap.size w6.drew w' → w'.cell? ⟨b2, 0, none⟩ = some (.int .i64 (n : Int))) := Lib.hid fun w' hb => (HB2.out.drew.below hb HB2.out.lt).cell (by rw [HNN.out]; rfl)
        have NB : Hid (∀ w', Below w6.drew.heap.size w6.drew w' → w'.cell? ⟨b2, 1, none⟩ = some (.slice A L c)) := Lib.hid fun w' hb => (HB2.out.drew.below hb HB2.out.lt).cell (by rw [HLL.out]; rfl)
        obtain ⟨dv, hdv⟩ : ∃ dv, dv = vanishB F1 f.body := ⟨_, rfl⟩
        have HDV := Lib.hid hdv
        have hfc := fc_null HFO.out QI.out
        have CL : Hid (∀ w', Below w6.drew.heap.size w6.drew w' → Calls Tryd.prog 33 #[.pointer (some ⟨bf, 0, none⟩), .slice A L c] w' fun e w'' => ∃ v, e = .returned v ∧ (VD.is (.bool dv)).ok v w'' ∧ Below w'.heap.size w' w'') := Lib.hid fun w' hb => by
          rw [hdv, HLL.out]
          exact (vanishes_calls w' F1 bf A c f.body HFO.out (HBF.out.drew.below hb HBF.out.lt) ((HRS.out.below (below_trans (drew_below _ _) hb) HBW.out).mono (Nat.le_trans HBW.out hb.size)) HN16.out HM.out).mono fun _ _ h => h.ex
        clear hdv
        cases htx : F1.null.getD n false with
        | true =>
          have htx' : F1.nul n = true := htx
          rw [htx'] at hfc
          have TX : Hid (∀ w', Below w6.drew.heap.size w6.drew w' → w'.cell? ⟨bf, 16 + n, none⟩ = some (.bool true)) := Lib.hid fun w' hb => (HBF.out.drew.below hb HBF.out.lt).cell hfc
          have HVV : Hid (stepN f F1 = { F1 with null := F1.null.set n true }) := Lib.hid (by unfold stepN; rw [← HNN.out, htx, Bool.true_or])
          clear hfc htx htx'
          go_wp2_with fail
          refine region_tails 14 (fun ix9 => ([.is (.pointer (some ⟨b2, 0, none⟩)), .is (.int .i64 (n : Int)), .is (.pointer (some ⟨b2, 0, none⟩)), .is (.int .i64 (n : Int)), .is (.pointer (some ⟨bf, 16, none⟩)), .is (.pointer (some ⟨bf, 16 + n, none⟩)), .is (.bool true), .is (.bool true), .is (undef), .is (undef), .is (undef), .is (.bool true), .is (.pointer (some ⟨bf, 16, none⟩)), .is (.pointer (some ⟨bf, 16 + n, none⟩))] : List VD).getD ix9 (.is undef)) [some 17, some 18, some 19, some 20, some 21, some 22, some 23, some 24, some 25, some 26, some 27, some 28, some 29, some 30] (by kernel_rfl) (by kernel_rfl) (by kernel_rfl) (by kernel_rfl) rfl (fun ii hii => ?_) ?_
          · match ii, hii with
            | 0, _ => exact mstep_pure rfl (mwant_none rfl) (fun aa ww cc => ⟨.pointer (some ⟨b2, 0, none⟩), by have e0 : aa.tmps.getD 2 undef = .pointer (some ⟨b2, 0, none⟩) := (cc.orig 2 (by kernel_rfl)).trans rfl; simp only [execOp, Act.eval, e0]; go_simp, rfl⟩)
            | 1, _ => exact mstep_pure rfl (mwant_none rfl) (fun aa ww cc => ⟨.int .i64 (n : Int), by have e0 : aa.tmps.getD 17 undef = .pointer (some ⟨b2, 0, none⟩) := cc.slot 0 17 (by kernel_rfl) rfl; have m := N1.out _ cc.below; simp only [execOp, Act.eval, e0]; go_simp, rfl⟩)
            | 2, _ => exact mstep_pure rfl (mwant_none rfl) (fun aa ww cc => ⟨.pointer (some ⟨b2, 0, none⟩), by have e0 : aa.tmps.getD 2 undef = .pointer (some ⟨b2, 0, none⟩) := (cc.orig 2 (by kernel_rfl)).trans rfl; simp only [execOp, Act.eval, e0]; go_simp, rfl⟩)
            | 3, _ => exact mstep_pure rfl (mwant_none rfl) (fun aa ww cc => ⟨.int .i64 (n : Int), by have e0 : aa.tmps.getD 19 undef = .pointer (some ⟨b2, 0, none⟩) := cc.slot 2 19 (by kernel_rfl) rfl; have m := N1.out _ cc.below; simp only [execOp, Act.eval, e0]; go_simp, rfl⟩)
            | 4, _ => exact mstep_pure rfl (mwant_none rfl) (fun aa ww cc => ⟨.pointer (some ⟨bf, 16, none⟩), by have e0 : aa.tmps.getD 1 undef = .pointer (some ⟨bf, 0, none⟩) := (cc.orig 1 (by kernel_rfl)).trans rfl; simp only [execOp, Act.eval, e0]; go_simp, rfl⟩)
            | 5, _ => exact mstep_pure rfl (mwant_none rfl) (fun aa ww cc => ⟨.pointer (some ⟨bf, 16 + n, none⟩), by have e0 : aa.tmps.getD 21 undef = .pointer (some ⟨bf, 16, none⟩) := cc.slot 4 21 (by kernel_rfl) rfl; have e1 : aa.tmps.getD 20 undef = .int .i64 (n : Int) := cc.slot 3 20 (by kernel_rfl) rfl; have qi := QI.out; have q : (n : Int) < 16 := (by omega); simp only [execOp, Act.eval, e0, e1]; go_simp, rfl⟩)
            | 6, _ => exact mstep_pure rfl (mwant_none rfl) (fun aa ww cc => ⟨.bool true, by have e0 : aa.tmps.getD 22 undef = .pointer (some ⟨bf, 16 + n, none⟩) := cc.slot 5 22 (by kernel_rfl) rfl; have m := TX.out _ cc.below; simp only [execOp, Act.eval, e0]; go_simp, rfl⟩)
            | 7, _ => exact mstep_copy rfl (mwant_none rfl) 23 (Or.inl rfl) 6 (by kernel_rfl) rfl rfl
            | 8, _ => exact mstep_unwanted rfl 7 false 24 rfl (by kernel_rfl) rfl (Or.inl rfl) (by kernel_rfl) rfl
            | 9, _ => exact mstep_unwanted rfl 7 false 24 rfl (by kernel_rfl) rfl (Or.inl rfl) (by kernel_rfl) rfl
            | 10, _ => exact mstep_unwanted rfl 7 false 24 rfl (by kernel_rfl) rfl (Or.inl rfl) (by kernel_rfl) rfl
            | 11, _ => exact mstep_pure rfl (mwant_none rfl) (fun aa ww cc => ⟨.bool true, by have e0 : aa.tmps.getD 24 undef = .bool true := cc.slot 7 24 (by kernel_rfl) rfl; simp only [execOp, Act.eval, e0]; go_simp, rfl⟩)
            | 12, _ => exact mstep_pure rfl (mwant_none rfl) (fun aa ww cc => ⟨.pointer (some ⟨bf, 16, none⟩), by have e0 : aa.tmps.getD 1 undef = .pointer (some ⟨bf, 0, none⟩) := (cc.orig 1 (by kernel_rfl)).trans rfl; simp only [execOp, Act.eval, e0]; go_simp, rfl⟩)
            | 13, _ => exact mstep_pure rfl (mwant_none rfl) (fun aa ww cc => ⟨.pointer (some ⟨bf, 16 + n, none⟩), by have e0 : aa.tmps.getD 29 undef = .pointer (some ⟨bf, 16, none⟩) := cc.slot 12 29 (by kernel_rfl) rfl; have e1 : aa.tmps.getD 18 undef = .int .i64 (n : Int) := cc.slot 1 18 (by kernel_rfl) rfl; have qi := QI.out; have q : (n : Int) < 16 := (by omega); simp only [execOp, Act.eval, e0, e1]; go_simp, rfl⟩)
            | n + 14, h => exact absurd h (by show ¬ (n + 14 < 14); omega)
          · intro VV w5 hlen hb5 hok
            match VV, hlen with
            | [v0, v1, v2, v3, v4, v5, v6, v7, v8, v9, v10, v11, v12, v13], _ =>
              obtain rfl : v0 = .pointer (some ⟨b2, 0, none⟩) := hok 0 17 rfl
              obtain rfl : v1 = .int .i64 (n : Int) := hok 1 18 rfl
              obtain rfl : v2 = .pointer (some ⟨b2, 0, none⟩) := hok 2 19 rfl
              obtain rfl : v3 = .int .i64 (n : Int) := hok 3 20 rfl
              obtain rfl : v4 = .pointer (some ⟨bf, 16, none⟩) := hok 4 21 rfl
              obtain rfl : v5 = .pointer (some ⟨bf, 16 + n, none⟩) := hok 5 22 rfl
              obtain rfl : v6 = .bool true := hok 6 23 rfl
              obtain rfl : v7 = .bool true := hok 7 24 rfl
              obtain rfl : v8 = undef := hok 8 25 rfl
              obtain rfl : v9 = undef := hok 9 26 rfl
              obtain rfl : v10 = undef := hok 10 27 rfl
              obtain rfl : v11 = .bool true := hok 11 28 rfl
              obtain rfl : v12 = .pointer (some ⟨bf, 16, none⟩) := hok 12 29 rfl
              obtain rfl : v13 = .pointer (some ⟨bf, 16 + n, none⟩) := hok 13 30 rfl
              have HBF5 : Hid (Blk w5 bf (fcells F1)) := Lib.hid (HBF.out.below hb5 HBF.out.lt)
              have HG5 : Hid (w6.grownBy w5 (some bf)) := Lib.hid (grownBy_below hb5 (Nat.le_refl _))
              have HB25 : Hid (Blk w5 b2 (frv f A c)) := Lib.hid (HB2.out.below hb5 HB2.out.lt)
              clear hb5 hok N1 NB TX CL HB2 HBF
              simp only [List.zip_cons_cons, List.zip_nil_right, putsL]
              go_simp
              go_wp2_with ((with_reducible show wpList _ _ _ (Oper.mk _ (Op.store _ _ _) _ _ _ _ :: _) _ _); refine wpList_storeB rfl 4 _ _ rfl bf (16 + n) _ (.bool true) rfl rfl HBF5.out (by rw [fcells_len HFO.out]; have := QI.out; omega) s1Bool rfl ?_)
              intro w8 hb8 hg8
              have HBF8 : Hid (Blk w8 bf (fcells (step1 f F))) := Lib.hid (by rw [step1_two, ← HF1.out, HVV.out, ← fset_null HFO.out QI.out]; exact hb8)
              have HG8 : Hid (w.grownBy w8 (some bf)) := Lib.hid ((HG1.out.trans HG6.out).trans (HG5.out.trans hg8))
              clear hb8 hg8 HBF5 HG5 HB25
              go_wp2
              go_end0
              exact ⟨rfl, HBF8.out, HG8.out⟩
        | false =>
          have htx' : F1.nul n = false := htx
          rw [htx'] at hfc
          have TX : Hid (∀ w', Below w6.drew.heap.size w6.drew w' → w'.cell? ⟨bf, 16 + n, none⟩ = some (.bool false)) := Lib.hid fun w' hb => (HBF.out.drew.below hb HBF.out.lt).cell hfc
          have HVV : Hid (stepN f F1 = { F1 with null := F1.null.set n dv }) := Lib.hid (by unfold stepN; rw [← HNN.out, htx, Bool.false_or, HDV.out])
          clear hfc htx htx'
          go_wp2_with fail
          refine region_tails 14 (fun ix9 => ([.is (.pointer (some ⟨b2, 0, none⟩)), .is (.int .i64 (n : Int)), .is (.pointer (some ⟨b2, 0, none⟩)), .is (.int .i64 (n : Int)), .is (.pointer (some ⟨bf, 16, none⟩)), .is (.pointer (some ⟨bf, 16 + n, none⟩)), .is (.bool false), .is (.bool false), .is (.pointer (some ⟨b2, 1, none⟩)), .is (.slice A L c), .is (.bool dv), .is (.bool dv), .is (.pointer (some ⟨bf, 16, none⟩)), .is (.pointer (some ⟨bf, 16 + n, none⟩))] : List VD).getD ix9 (.is undef)) [some 17, some 18, some 19, some 20, some 21, some 22, some 23, some 24, some 25, some 26, some 27, some 28, some 29, some 30] (by kernel_rfl) (by kernel_rfl) (by kernel_rfl) (by kernel_rfl) rfl (fun ii hii => ?_) ?_
          · match ii, hii with
            | 0, _ => exact mstep_pure rfl (mwant_none rfl) (fun aa ww cc => ⟨.pointer (some ⟨b2, 0, none⟩), by have e0 : aa.tmps.getD 2 undef = .pointer (some ⟨b2, 0, none⟩) := (cc.orig 2 (by kernel_rfl)).trans rfl; simp only [execOp, Act.eval, e0]; go_simp, rfl⟩)
            | 1, _ => exact mstep_pure rfl (mwant_none rfl) (fun aa ww cc => ⟨.int .i64 (n : Int), by have e0 : aa.tmps.getD 17 undef = .pointer (some ⟨b2, 0, none⟩) := cc.slot 0 17 (by kernel_rfl) rfl; have m := N1.out _ cc.below; simp only [execOp, Act.eval, e0]; go_simp, rfl⟩)
            | 2, _ => exact mstep_pure rfl (mwant_none rfl) (fun aa ww cc => ⟨.pointer (some ⟨b2, 0, none⟩), by have e0 : aa.tmps.getD 2 undef = .pointer (some ⟨b2, 0, none⟩) := (cc.orig 2 (by kernel_rfl)).trans rfl; simp only [execOp, Act.eval, e0]; go_simp, rfl⟩)
            | 3, _ => exact mstep_pure rfl (mwant_none rfl) (fun aa ww cc => ⟨.int .i64 (n : Int), by have e0 : aa.tmps.getD 19 undef = .pointer (some ⟨b2, 0, none⟩) := cc.slot 2 19 (by kernel_rfl) rfl; have m := N1.out _ cc.below; simp only [execOp, Act.eval, e0]; go_simp, rfl⟩)
            | 4, _ => exact mstep_pure rfl (mwant_none rfl) (fun aa ww cc => ⟨.pointer (some ⟨bf, 16, none⟩), by have e0 : aa.tmps.getD 1 undef = .pointer (some ⟨bf, 0, none⟩) := (cc.orig 1 (by kernel_rfl)).trans rfl; simp only [execOp, Act.eval, e0]; go_simp, rfl⟩)
            | 5, _ => exact mstep_pure rfl (mwant_none rfl) (fun aa ww cc => ⟨.pointer (some ⟨bf, 16 + n, none⟩), by have e0 : aa.tmps.getD 21 undef = .pointer (some ⟨bf, 16, none⟩) := cc.slot 4 21 (by kernel_rfl) rfl; have e1 : aa.tmps.getD 20 undef = .int .i64 (n : Int) := cc.slot 3 20 (by kernel_rfl) rfl; have qi := QI.out; have q : (n : Int) < 16 := (by omega); simp only [execOp, Act.eval, e0, e1]; go_simp, rfl⟩)
            | 6, _ => exact mstep_pure rfl (mwant_none rfl) (fun aa ww cc => ⟨.bool false, by have e0 : aa.tmps.getD 22 undef = .pointer (some ⟨bf, 16 + n, none⟩) := cc.slot 5 22 (by kernel_rfl) rfl; have m := TX.out _ cc.below; simp only [execOp, Act.eval, e0]; go_simp, rfl⟩)
            | 7, _ => exact mstep_copy rfl (mwant_none rfl) 23 (Or.inl rfl) 6 (by kernel_rfl) rfl rfl
            | 8, _ => exact mstep_pure rfl (mwant 7 false 24 rfl (by kernel_rfl) rfl rfl (by kernel_rfl)) (fun aa ww cc => ⟨.pointer (some ⟨b2, 1, none⟩), by have e0 : aa.tmps.getD 2 undef = .pointer (some ⟨b2, 0, none⟩) := (cc.orig 2 (by kernel_rfl)).trans rfl; simp only [execOp, Act.eval, e0]; go_simp, rfl⟩)
            | 9, _ => exact mstep_pure rfl (mwant 7 false 24 rfl (by kernel_rfl) rfl rfl (by kernel_rfl)) (fun aa ww cc => ⟨.slice A L c, by have e0 : aa.tmps.getD 25 undef = .pointer (some ⟨b2, 1, none⟩) := cc.slot 8 25 (by kernel_rfl) rfl; have m := NB.out _ cc.below; simp only [execOp, Act.eval, e0]; go_simp, rfl⟩)
            | 10, _ => exact mstep_call rfl (mwant 7 false 24 rfl (by kernel_rfl) rfl rfl (by kernel_rfl)) _ _ _ rfl (enters_of Tryd.func33 (by kernel_rfl) rfl) (fun aa ww cc => by have e0 : aa.tmps.getD 1 undef = .pointer (some ⟨bf, 0, none⟩) := (cc.orig 1 (by kernel_rfl)).trans rfl; have e1 : aa.tmps.getD 26 undef = .slice A L c := cc.slot 9 26 (by kernel_rfl) rfl; simp only [List.map_toArray, List.map_cons, List.map_nil, Act.eval, e0, e1]; exact (CL.out) ww cc.below)
            | 11, _ => exact mstep_pure rfl (mwant_none rfl) (fun aa ww cc => ⟨.bool dv, by have e0 : aa.tmps.getD 24 undef = .bool false := cc.slot 7 24 (by kernel_rfl) rfl; have e1 : aa.tmps.getD 27 undef = .bool dv := cc.slot 10 27 (by kernel_rfl) rfl; simp only [execOp, Act.eval, e0, e1]; go_simp, rfl⟩)
            | 12, _ => exact mstep_pure rfl (mwant_none rfl) (fun aa ww cc => ⟨.pointer (some ⟨bf, 16, none⟩), by have e0 : aa.tmps.getD 1 undef = .pointer (some ⟨bf, 0, none⟩) := (cc.orig 1 (by kernel_rfl)).trans rfl; simp only [execOp, Act.eval, e0]; go_simp, rfl⟩)
            | 13, _ => exact mstep_pure rfl (mwant_none rfl) (fun aa ww cc => ⟨.pointer (some ⟨bf, 16 + n, none⟩), by have e0 : aa.tmps.getD 29 undef = .pointer (some ⟨bf, 16, none⟩) := cc.slot 12 29 (by kernel_rfl) rfl; have e1 : aa.tmps.getD 18 undef = .int .i64 (n : Int) := cc.slot 1 18 (by kernel_rfl) rfl; have qi := QI.out; have q : (n : Int) < 16 := (by omega); simp only [execOp, Act.eval, e0, e1]; go_simp, rfl⟩)
            | n + 14, h => exact absurd h (by show ¬ (n + 14 < 14); omega)
          · intro VV w5 hlen hb5 hok
            match VV, hlen with
            | [v0, v1, v2, v3, v4, v5, v6, v7, v8, v9, v10, v11, v12, v13], _ =>
              obtain rfl : v0 = .pointer (some ⟨b2, 0, none⟩) := hok 0 17 rfl
              obtain rfl : v1 = .int .i64 (n : Int) := hok 1 18 rfl
              obtain rfl : v2 = .pointer (some ⟨b2, 0, none⟩) := hok 2 19 rfl
              obtain rfl : v3 = .int .i64 (n : Int) := hok 3 20 rfl
              obtain rfl : v4 = .pointer (some ⟨bf, 16, none⟩) := hok 4 21 rfl
              obtain rfl : v5 = .pointer (some ⟨bf, 16 + n, none⟩) := hok 5 22 rfl
              obtain rfl : v6 = .bool false := hok 6 23 rfl
              obtain rfl : v7 = .bool false := hok 7 24 rfl
              obtain rfl : v8 = .pointer (some ⟨b2, 1, none⟩) := hok 8 25 rfl
              obtain rfl : v9 = .slice A L c := hok 9 26 rfl
              obtain rfl : v10 = .bool dv := hok 10 27 rfl
              obtain rfl : v11 = .bool dv := hok 11 28 rfl
              obtain rfl : v12 = .pointer (some ⟨bf, 16, none⟩) := hok 12 29 rfl
              obtain rfl : v13 = .pointer (some ⟨bf, 16 + n, none⟩) := hok 13 30 rfl
              have HBF5 : Hid (Blk w5 bf (fcells F1)) := Lib.hid (HBF.out.below hb5 HBF.out.lt)
              have HG5 : Hid (w6.grownBy w5 (some bf)) := Lib.hid (grownBy_below hb5 (Nat.le_refl _))
              have HB25 : Hid (Blk w5 b2 (frv f A c)) := Lib.hid (HB2.out.below hb5 HB2.out.lt)
              clear hb5 hok N1 NB TX CL HB2 HBF
              simp only [List.zip_cons_cons, List.zip_nil_right, putsL]
              go_simp
              go_wp2_with ((with_reducible show wpList _ _ _ (Oper.mk _ (Op.store _ _ _) _ _ _ _ :: _) _ _); refine wpList_storeB rfl 4 _ _ rfl bf (16 + n) _ (.bool dv) rfl rfl HBF5.out (by rw [fcells_len HFO.out]; have := QI.out; omega) s1Bool rfl ?_)
              intro w8 hb8 hg8
              have HBF8 : Hid (Blk w8 bf (fcells (step1 f F))) := Lib.hid (by rw [step1_two, ← HF1.out, HVV.out, ← fset_null HFO.out QI.out]; exact hb8)
              have HG8 : Hid (w.grownBy w8 (some bf)) := Lib.hid ((HG1.out.trans HG6.out).trans (HG5.out.trans hg8))
              clear hb8 hg8 HBF5 HG5 HB25
              go_wp2
              go_end0
              exact ⟨rfl, HBF8.out, HG8.out⟩
  | false =>
    have htx' : F.text.getD n false = false := htx
    rw [htx'] at hfc
    have TX : Hid (∀ w', Below w1.drew.heap.size w1.drew w' → w'.cell? ⟨bf, n, none⟩ = some (.bool false)) := Lib.hid fun w' hb => (HBF.out.drew.below hb HBF.out.lt).cell hfc
    have HVV : Hid (stepT f F = { F with text := F.text.set n dv }) := Lib.hid (by unfold stepT; rw [← HNN.out, htx, Bool.false_or, HDV.out])
    clear hfc htx htx'
    go_wp2_with fail
    refine region_tails 14 (fun ix9 => ([.is (.pointer (some ⟨b2, 0, none⟩)), .is (.int .i64 (n : Int)), .is (.pointer (some ⟨b2, 0, none⟩)), .is (.int .i64 (n : Int)), .is (.pointer (some ⟨bf, 0, none⟩)), .is (.pointer (some ⟨bf, n, none⟩)), .is (.bool false), .is (.bool false), .is (.pointer (some ⟨b2, 1, none⟩)), .is (.slice A L c), .is (.bool dv), .is (.bool dv), .is (.pointer (some ⟨bf, 0, none⟩)), .is (.pointer (some ⟨bf, n, none⟩))] : List VD).getD ix9 (.is undef)) [some 3, some 4, some 5, some 6, some 7, some 8, some 9, some 10, some 11, some 12, some 13, some 14, some 15, some 16] (by kernel_rfl) (by kernel_rfl) (by kernel_rfl) (by kernel_rfl) rfl (fun ii hii => ?_) ?_
    · match ii, hii with
      | 0, _ => exact mstep_pure rfl (mwant_none rfl) (fun aa ww cc => ⟨.pointer (some ⟨b2, 0, none⟩), by have e0 : aa.tmps.getD 2 undef = .pointer (some ⟨b2, 0, none⟩) := (cc.orig 2 (by kernel_rfl)).trans rfl; simp only [execOp, Act.eval, e0]; go_simp, rfl⟩)
      | 1, _ => exact mstep_pure rfl (mwant_none rfl) (fun aa ww cc => ⟨.int .i64 (n : Int), by have e0 : aa.tmps.getD 3 undef = .pointer (some ⟨b2, 0, none⟩) := cc.slot 0 3 (by kernel_rfl) rfl; have m := N1.out _ cc.below; simp only [execOp, Act.eval, e0]; go_simp, rfl⟩)
      | 2, _ => exact mstep_pure rfl (mwant_none rfl) (fun aa ww cc => ⟨.pointer (some ⟨b2, 0, none⟩), by have e0 : aa.tmps.getD 2 undef = .pointer (some ⟨b2, 0, none⟩) := (cc.orig 2 (by kernel_rfl)).trans rfl; simp only [execOp, Act.eval, e0]; go_simp, rfl⟩)
      | 3, _ => exact mstep_pure rfl (mwant_none rfl) (fun aa ww cc => ⟨.int .i64 (n : Int), by have e0 : aa.tmps.getD 5 undef = .pointer (some ⟨b2, 0, none⟩) := cc.slot 2 5 (by kernel_rfl) rfl; have m := N1.out _ cc.below; simp only [execOp, Act.eval, e0]; go_simp, rfl⟩)
      | 4, _ => exact mstep_pure rfl (mwant_none rfl) (fun aa ww cc => ⟨.pointer (some ⟨bf, 0, none⟩), by have e0 : aa.tmps.getD 1 undef = .pointer (some ⟨bf, 0, none⟩) := (cc.orig 1 (by kernel_rfl)).trans rfl; simp only [execOp, Act.eval, e0]; go_simp, rfl⟩)
      | 5, _ => exact mstep_pure rfl (mwant_none rfl) (fun aa ww cc => ⟨.pointer (some ⟨bf, n, none⟩), by have e0 : aa.tmps.getD 7 undef = .pointer (some ⟨bf, 0, none⟩) := cc.slot 4 7 (by kernel_rfl) rfl; have e1 : aa.tmps.getD 6 undef = .int .i64 (n : Int) := cc.slot 3 6 (by kernel_rfl) rfl; have qi := QI.out; have q : (n : Int) < 16 := (by omega); simp only [execOp, Act.eval, e0, e1]; go_simp, rfl⟩)
      | 6, _ => exact mstep_pure rfl (mwant_none rfl) (fun aa ww cc => ⟨.bool false, by have e0 : aa.tmps.getD 8 undef = .pointer (some ⟨bf, n, none⟩) := cc.slot 5 8 (by kernel_rfl) rfl; have m := TX.out _ cc.below; simp only [execOp, Act.eval, e0]; go_simp, rfl⟩)
      | 7, _ => exact mstep_copy rfl (mwant_none rfl) 9 (Or.inl rfl) 6 (by kernel_rfl) rfl rfl
      | 8, _ => exact mstep_pure rfl (mwant 7 false 10 rfl (by kernel_rfl) rfl rfl (by kernel_rfl)) (fun aa ww cc => ⟨.pointer (some ⟨b2, 1, none⟩), by have e0 : aa.tmps.getD 2 undef = .pointer (some ⟨b2, 0, none⟩) := (cc.orig 2 (by kernel_rfl)).trans rfl; simp only [execOp, Act.eval, e0]; go_simp, rfl⟩)
      | 9, _ => exact mstep_pure rfl (mwant 7 false 10 rfl (by kernel_rfl) rfl rfl (by kernel_rfl)) (fun aa ww cc => ⟨.slice A L c, by have e0 : aa.tmps.getD 11 undef = .pointer (some ⟨b2, 1, none⟩) := cc.slot 8 11 (by kernel_rfl) rfl; have m := NB.out _ cc.below; simp only [execOp, Act.eval, e0]; go_simp, rfl⟩)
      | 10, _ => exact mstep_call rfl (mwant 7 false 10 rfl (by kernel_rfl) rfl rfl (by kernel_rfl)) _ _ _ rfl (enters_of Tryd.func40 (by kernel_rfl) rfl) (fun aa ww cc => by have e0 : aa.tmps.getD 1 undef = .pointer (some ⟨bf, 0, none⟩) := (cc.orig 1 (by kernel_rfl)).trans rfl; have e1 : aa.tmps.getD 12 undef = .slice A L c := cc.slot 9 12 (by kernel_rfl) rfl; simp only [List.map_toArray, List.map_cons, List.map_nil, Act.eval, e0, e1]; exact (CL.out) ww cc.below)
      | 11, _ => exact mstep_pure rfl (mwant_none rfl) (fun aa ww cc => ⟨.bool dv, by have e0 : aa.tmps.getD 10 undef = .bool false := cc.slot 7 10 (by kernel_rfl) rfl; have e1 : aa.tmps.getD 13 undef = .bool dv := cc.slot 10 13 (by kernel_rfl) rfl; simp only [execOp, Act.eval, e0, e1]; go_simp, rfl⟩)
      | 12, _ => exact mstep_pure rfl (mwant_none rfl) (fun aa ww cc => ⟨.pointer (some ⟨bf, 0, none⟩), by have e0 : aa.tmps.getD 1 undef = .pointer (some ⟨bf, 0, none⟩) := (cc.orig 1 (by kernel_rfl)).trans rfl; simp only [execOp, Act.eval, e0]; go_simp, rfl⟩)
      | 13, _ => exact mstep_pure rfl (mwant_none rfl) (fun aa ww cc => ⟨.pointer (some ⟨bf, n, none⟩), by have e0 : aa.tmps.getD 15 undef = .pointer (some ⟨bf, 0, none⟩) := cc.slot 12 15 (by kernel_rfl) rfl; have e1 : aa.tmps.getD 4 undef = .int .i64 (n : Int) := cc.slot 1 4 (by kernel_rfl) rfl; have qi := QI.out; have q : (n : Int) < 16 := (by omega); simp only [execOp, Act.eval, e0, e1]; go_simp, rfl⟩)
      | n + 14, h => exact absurd h (by show ¬ (n + 14 < 14); omega)
    · intro VV w5 hlen hb5 hok
      match VV, hlen with
      | [v0, v1, v2, v3, v4, v5, v6, v7, v8, v9, v10, v11, v12, v13], _ =>
        obtain rfl : v0 = .pointer (some ⟨b2, 0, none⟩) := hok 0 3 rfl
        obtain rfl : v1 = .int .i64 (n : Int) := hok 1 4 rfl
        obtain rfl : v2 = .pointer (some ⟨b2, 0, none⟩) := hok 2 5 rfl
        obtain rfl : v3 = .int .i64 (n : Int) := hok 3 6 rfl
        obtain rfl : v4 = .pointer (some ⟨bf, 0, none⟩) := hok 4 7 rfl
        obtain rfl : v5 = .pointer (some ⟨bf, n, none⟩) := hok 5 8 rfl
        obtain rfl : v6 = .bool false := hok 6 9 rfl
        obtain rfl : v7 = .bool false := hok 7 10 rfl
        obtain rfl : v8 = .pointer (some ⟨b2, 1, none⟩) := hok 8 11 rfl
        obtain rfl : v9 = .slice A L c := hok 9 12 rfl
        obtain rfl : v10 = .bool dv := hok 10 13 rfl
        obtain rfl : v11 = .bool dv := hok 11 14 rfl
        obtain rfl : v12 = .pointer (some ⟨bf, 0, none⟩) := hok 12 15 rfl
        obtain rfl : v13 = .pointer (some ⟨bf, n, none⟩) := hok 13 16 rfl
        have HBF5 : Hid (Blk w5 bf (fcells F)) := Lib.hid (HBF.out.below hb5 HBF.out.lt)
        have HG5 : Hid (w1.grownBy w5 (some bf)) := Lib.hid (grownBy_below hb5 (Nat.le_refl _))
        have HB25 : Hid (Blk w5 b2 (frv f A c)) := Lib.hid (HB2.out.below hb5 HB2.out.lt)
        clear hb5 hok N1 NB TX CL HB2 HBF
        simp only [List.zip_cons_cons, List.zip_nil_right, putsL]
        go_simp
        go_wp2_with ((with_reducible show wpList _ _ _ (Oper.mk _ (Op.store _ _ _) _ _ _ _ :: _) _ _); refine wpList_storeB rfl 4 _ _ rfl bf (n) _ (.bool dv) rfl rfl HBF5.out (by rw [fcells_len HFO.out]; have := QI.out; omega) s1Bool rfl ?_)
        intro w6 hb6 hg6
        have HFO1 : Hid (stepT f F).Ok := Lib.hid (by rw [HVV.out]; exact ok_text HFO.out _ _)
        have HBF6 : Hid (Blk w6 bf (fcells (stepT f F))) := Lib.hid (by rw [HVV.out, ← fset_text HFO.out QI.out]; exact hb6)
        have HG6 : Hid (w1.grownBy w6 (some bf)) := Lib.hid (HG5.out.trans hg6)
        have HB26 : Hid (Blk w6 b2 (frv f A c)) := Lib.hid (HB25.out.grown hg6 (fun e => by injection e with e; exact HNE.out e.symm))
        have HRS6 : Hid (RS w6 B A f.body) := Lib.hid (HRS.out.grown HG6.out HBb.out)
        have HBW6 : Hid (B ≤ w6.heap.size) := Lib.hid (by have := HBF6.out.lt; have := HBb.out; omega)
        clear hb6 hg6 HBF5 HG5 HB25 HVV HDV HRS HBW HFO
        rename Hid (stepT f F).Ok => HFO
        rename Hid (Blk w6 bf (fcells (stepT f F))) => HBF
        rename Hid (Blk w6 b2 (frv f A c)) => HB2
        rename Hid (RS w6 B A f.body) => HRS
        rename Hid (B ≤ w6.heap.size) => HBW
        obtain ⟨F1, hF1⟩ : ∃ F1, F1 = stepT f F := ⟨_, rfl⟩
        rw [← hF1] at HFO HBF
        have HF1 := Lib.hid hF1
        clear hF1
        have N1 : Hid (∀ w', Below w6.drew.heap.size w6.drew w' → w'.cell? ⟨b2, 0, none⟩ = some (.int .i64 (n : Int))) := Lib.hid fun w' hb => (HB2.out.drew.below hb HB2.out.lt).cell (by rw [HNN.out]; rfl)
        have NB : Hid (∀ w', Below w6.drew.heap.size w6.drew w' → w'.cell? ⟨b2, 1, none⟩ = some (.slice A L c)) := Lib.hid fun w' hb => (HB2.out.drew.below hb HB2.out.lt).cell (by rw [HLL.out]; rfl)
        obtain ⟨dv, hdv⟩ : ∃ dv, dv = vanishB F1 f.body := ⟨_, rfl⟩
        have HDV := Lib.hid hdv
        have hfc := fc_null HFO.out QI.out
        have CL : Hid (∀ w', Below w6.drew.heap.size w6.drew w' → Calls Tryd.prog 33 #[.pointer (some ⟨bf, 0, none⟩), .slice A L c] w' fun e w'' => ∃ v, e = .returned v ∧ (VD.is (.bool dv)).ok v w'' ∧ Below w'.heap.size w' w'') := Lib.hid fun w' hb => by
          rw [hdv, HLL.out]
          exact (vanishes_calls w' F1 bf A c f.body HFO.out (HBF.out.drew.below hb HBF.out.lt) ((HRS.out.below (below_trans (drew_below _ _) hb) HBW.out).mono (Nat.le_trans HBW.out hb.size)) HN16.out HM.out).mono fun _ _ h => h.ex
        clear hdv
        cases htx : F1.null.getD n false with
        | true =>
          have htx' : F1.nul n = true := htx
          rw [htx'] at hfc
          have TX : Hid (∀ w', Below w6.drew.heap.size w6.drew w' → w'.cell? ⟨bf, 16 + n, none⟩ = some (.bool true)) := Lib.hid fun w' hb => (HBF.out.drew.below hb HBF.out.lt).cell hfc
          have HVV : Hid (stepN f F1 = { F1 with null := F1.null.set n true }) := Lib.hid (by unfold stepN; rw [← HNN.out, htx, Bool.true_or])
          clear hfc htx htx'
          go_wp2_with fail
          refine region_tails 14 (fun ix9 => ([.is (.pointer (some ⟨b2, 0, none⟩)), .is (.int .i64 (n : Int)), .is (.pointer (some ⟨b2, 0, none⟩)), .is (.int .i64 (n : Int)), .is (.pointer (some ⟨bf, 16, none⟩)), .is (.pointer (some ⟨bf, 16 + n, none⟩)), .is (.bool true), .is (.bool true), .is (undef), .is (undef), .is (undef), .is (.bool true), .is (.pointer (some ⟨bf, 16, none⟩)), .is (.pointer (some ⟨bf, 16 + n, none⟩))] : List VD).getD ix9 (.is undef)) [some 17, some 18, some 19, some 20, some 21, some 22, some 23, some 24, some 25, some 26, some 27, some 28, some 29, some 30] (by kernel_rfl) (by kernel_rfl) (by kernel_rfl) (by kernel_rfl) rfl (fun ii hii => ?_) ?_
          · match ii, hii with
            | 0, _ => exact mstep_pure rfl (mwant_none rfl) (fun aa ww cc => ⟨.pointer (some ⟨b2, 0, none⟩), by have e0 : aa.tmps.getD 2 undef = .pointer (some ⟨b2, 0, none⟩) := (cc.orig 2 (by kernel_rfl)).trans rfl; simp only [execOp, Act.eval, e0]; go_simp, rfl⟩)
            | 1, _ => exact mstep_pure rfl (mwant_none rfl) (fun aa ww cc => ⟨.int .i64 (n : Int), by have e0 : aa.tmps.getD 17 undef = .pointer (some ⟨b2, 0, none⟩) := cc.slot 0 17 (by kernel_rfl) rfl; have m := N1.out _ cc.below; simp only [execOp, Act.eval, e0]; go_simp, rfl⟩)
            | 2, _ => exact mstep_pure rfl (mwant_none rfl) (fun aa ww cc => ⟨.pointer (some ⟨b2, 0, none⟩), by have e0 : aa.tmps.getD 2 undef = .pointer (some ⟨b2, 0, none⟩) := (cc.orig 2 (by kernel_rfl)).trans rfl; simp only [execOp, Act.eval, e0]; go_simp, rfl⟩)
            | 3, _ => exact mstep_pure rfl (mwant_none rfl) (fun aa ww cc => ⟨.int .i64 (n : Int), by have e0 : aa.tmps.getD 19 undef = .pointer (some ⟨b2, 0, none⟩) := cc.slot 2 19 (by kernel_rfl) rfl; have m := N1.out _ cc.below; simp only [execOp, Act.eval, e0]; go_simp, rfl⟩)
            | 4, _ => exact mstep_pure rfl (mwant_none rfl) (fun aa ww cc => ⟨.pointer (some ⟨bf, 16, none⟩), by have e0 : aa.tmps.getD 1 undef = .pointer (some ⟨bf, 0, none⟩) := (cc.orig 1 (by kernel_rfl)).trans rfl; simp only [execOp, Act.eval, e0]; go_simp, rfl⟩)
            | 5, _ => exact mstep_pure rfl (mwant_none rfl) (fun aa ww cc => ⟨.pointer (some ⟨bf, 16 + n, none⟩), by have e0 : aa.tmps.getD 21 undef = .pointer (some ⟨bf, 16, none⟩) := cc.slot 4 21 (by kernel_rfl) rfl; have e1 : aa.tmps.getD 20 undef = .int .i64 (n : Int) := cc.slot 3 20 (by kernel_rfl) rfl; have qi := QI.out; have q : (n : Int) < 16 := (by omega); simp only [execOp, Act.eval, e0, e1]; go_simp, rfl⟩)
            | 6, _ => exact mstep_pure rfl (mwant_none rfl) (fun aa ww cc => ⟨.bool true, by have e0 : aa.tmps.getD 22 undef = .pointer (some ⟨bf, 16 + n, none⟩) := cc.slot 5 22 (by kernel_rfl) rfl; have m := TX.out _ cc.below; simp only [execOp, Act.eval, e0]; go_simp, rfl⟩)
            | 7, _ => exact mstep_copy rfl (mwant_none rfl) 23 (Or.inl rfl) 6 (by kernel_rfl) rfl rfl
            | 8, _ => exact mstep_unwanted rfl 7 false 24 rfl (by kernel_rfl) rfl (Or.inl rfl) (by kernel_rfl) rfl
            | 9, _ => exact mstep_unwanted rfl 7 false 24 rfl (by kernel_rfl) rfl (Or.inl rfl) (by kernel_rfl) rfl
            | 10, _ => exact mstep_unwanted rfl 7 false 24 rfl (by kernel_rfl) rfl (Or.inl rfl) (by kernel_rfl) rfl
            | 11, _ => exact mstep_pure rfl (mwant_none rfl) (fun aa ww cc => ⟨.bool true, by have e0 : aa.tmps.getD 24 undef = .bool true := cc.slot 7 24 (by kernel_rfl) rfl; simp only [execOp, Act.eval, e0]; go_simp, rfl⟩)
            | 12, _ => exact mstep_pure rfl (mwant_none rfl) (fun aa ww cc => ⟨.pointer (some ⟨bf, 16, none⟩), by have e0 : aa.tmps.getD 1 undef = .pointer (some ⟨bf, 0, none⟩) := (cc.orig 1 (by kernel_rfl)).trans rfl; simp only [execOp, Act.eval, e0]; go_simp, rfl⟩)
            | 13, _ => exact mstep_pure rfl (mwant_none rfl) (fun aa ww cc => ⟨.pointer (some ⟨bf, 16 + n, none⟩), by have e0 : aa.tmps.getD 29 undef = .pointer (some ⟨bf, 16, none⟩) := cc.slot 12 29 (by kernel_rfl) rfl; have e1 : aa.tmps.getD 18 undef = .int .i64 (n : Int) := cc.slot 1 18 (by kernel_rfl) rfl; have qi := QI.out; have q : (n : Int) < 16 := (by omega); simp only [execOp, Act.eval, e0, e1]; go_simp, rfl⟩)
            | n + 14, h => exact absurd h (by show ¬ (n + 14 < 14); omega)
          · intro VV w5 hlen hb5 hok
            match VV, hlen with
            | [v0, v1, v2, v3, v4, v5, v6, v7, v8, v9, v10, v11, v12, v13], _ =>
              obtain rfl : v0 = .pointer (some ⟨b2, 0, none⟩) := hok 0 17 rfl
              obtain rfl : v1 = .int .i64 (n : Int) := hok 1 18 rfl
              obtain rfl : v2 = .pointer (some ⟨b2, 0, none⟩) := hok 2 19 rfl
              obtain rfl : v3 = .int .i64 (n : Int) := hok 3 20 rfl
              obtain rfl : v4 = .pointer (some ⟨bf, 16, none⟩) := hok 4 21 rfl
              obtain rfl : v5 = .pointer (some ⟨bf, 16 + n, none⟩) := hok 5 22 rfl
              obtain rfl : v6 = .bool true := hok 6 23 rfl
              obtain rfl : v7 = .bool true := hok 7 24 rfl
              obtain rfl : v8 = undef := hok 8 25 rfl
              obtain rfl : v9 = undef := hok 9 26 rfl
              obtain rfl : v10 = undef := hok 10 27 rfl
              obtain rfl : v11 = .bool true := hok 11 28 rfl
              obtain rfl : v12 = .pointer (some ⟨bf, 16, none⟩) := hok 12 29 rfl
              obtain rfl : v13 = .pointer (some ⟨bf, 16 + n, none⟩) := hok 13 30 rfl
              have HBF5 : Hid (Blk w5 bf (fcells F1)) := Lib.hid (HBF.out.below hb5 HBF.out.lt)
              have HG5 : Hid (w6.grownBy w5 (some bf)) := Lib.hid (grownBy_below hb5 (Nat.le_refl _))
              have HB25 : Hid (Blk w5 b2 (frv f A c)) := Lib.hid (HB2.out.below hb5 HB2.out.lt)
              clear hb5 hok N1 NB TX CL HB2 HBF
              simp only [List.zip_cons_cons, List.zip_nil_right, putsL]
              go_simp
              go_wp2_with ((with_reducible show wpList _ _ _ (Oper.mk _ (Op.store _ _ _) _ _ _ _ :: _) _ _); refine wpList_storeB rfl 4 _ _ rfl bf (16 + n) _ (.bool true) rfl rfl HBF5.out (by rw [fcells_len HFO.out]; have := QI.out; omega) s1Bool rfl ?_)
              intro w8 hb8 hg8
              have HBF8 : Hid (Blk w8 bf (fcells (step1 f F))) := Lib.hid (by rw [step1_two, ← HF1.out, HVV.out, ← fset_null HFO.out QI.out]; exact hb8)
              have HG8 : Hid (w.grownBy w8 (some bf)) := Lib.hid ((HG1.out.trans HG6.out).trans (HG5.out.trans hg8))
              clear hb8 hg8 HBF5 HG5 HB25
              go_wp2
              go_end0
              exact ⟨rfl, HBF8.out, HG8.out⟩
        | false =>
          have htx' : F1.nul n = false := htx
          rw [htx'] at hfc
          have TX : Hid (∀ w', Below w6.drew.heap.size w6.drew w' → w'.cell? ⟨bf, 16 + n, none⟩ = some (.bool false)) := Lib.hid fun w' hb => (HBF.out.drew.below hb HBF.out.lt).cell hfc
          have HVV : Hid (stepN f F1 = { F1 with null := F1.null.set n dv }) := Lib.hid (by unfold stepN; rw [← HNN.out, htx, Bool.false_or, HDV.out])
          clear hfc htx htx'
          go_wp2_with fail
          refine region_tails 14 (fun ix9 => ([.is (.pointer (some ⟨b2, 0, none⟩)), .is (.int .i64 (n : Int)), .is (.pointer (some ⟨b2, 0, none⟩)), .is (.int .i64 (n : Int)), .is (.pointer (some ⟨bf, 16, none⟩)), .is (.pointer (some ⟨bf, 16 + n, none⟩)), .is (.bool false), .is (.bool false), .is (.pointer (some ⟨b2, 1, none⟩)), .is (.slice A L c), .is (.bool dv), .is (.bool dv), .is (.pointer (some ⟨bf, 16, none⟩)), .is (.pointer (some ⟨bf, 16 + n, none⟩))] : List VD).getD ix9 (.is undef)) [some 17, some 18, some 19, some 20, some 21, some 22, some 23, some 24, some 25, some 26, some 27, some 28, some 29, some 30] (by kernel_rfl) (by kernel_rfl) (by kernel_rfl) (by kernel_rfl) rfl (fun ii hii => ?_) ?_
          · match ii, hii with
            | 0, _ => exact mstep_pure rfl (mwant_none rfl) (fun aa ww cc => ⟨.pointer (some ⟨b2, 0, none⟩), by have e0 : aa.tmps.getD 2 undef = .pointer (some ⟨b2, 0, none⟩) := (cc.orig 2 (by kernel_rfl)).trans rfl; simp only [execOp, Act.eval, e0]; go_simp, rfl⟩)
            | 1, _ => exact mstep_pure rfl (mwant_none rfl) (fun aa ww cc => ⟨.int .i64 (n : Int), by have e0 : aa.tmps.getD 17 undef = .pointer (some ⟨b2, 0, none⟩) := cc.slot 0 17 (by kernel_rfl) rfl; have m := N1.out _ cc.below; simp only [execOp, Act.eval, e0]; go_simp, rfl⟩)
            | 2, _ => exact mstep_pure rfl (mwant_none rfl) (fun aa ww cc => ⟨.pointer (some ⟨b2, 0, none⟩), by have e0 : aa.tmps.getD 2 undef = .pointer (some ⟨b2, 0, none⟩) := (cc.orig 2 (by kernel_rfl)).trans rfl; simp only [execOp, Act.eval, e0]; go_simp, rfl⟩)
            | 3, _ => exact mstep_pure rfl (mwant_none rfl) (fun aa ww cc => ⟨.int .i64 (n : Int), by have e0 : aa.tmps.getD 19 undef = .pointer (some ⟨b2, 0, none⟩) := cc.slot 2 19 (by kernel_rfl) rfl; have m := N1.out _ cc.below; simp only [execOp, Act.eval, e0]; go_simp, rfl⟩)
            | 4, _ => exact mstep_pure rfl (mwant_none rfl) (fun aa ww cc => ⟨.pointer (some ⟨bf, 16, none⟩), by have e0 : aa.tmps.getD 1 undef = .pointer (some ⟨bf, 0, none⟩) := (cc.orig 1 (by kernel_rfl)).trans rfl; simp only [execOp, Act.eval, e0]; go_simp, rfl⟩)
            | 5, _ => exact mstep_pure rfl (mwant_none rfl) (fun aa ww cc => ⟨.pointer (some ⟨bf, 16 + n, none⟩), by have e0 : aa.tmps.getD 21 undef = .pointer (some ⟨bf, 16, none⟩) := cc.slot 4 21 (by kernel_rfl) rfl; have e1 : aa.tmps.getD 20 undef = .int .i64 (n : Int) := cc.slot 3 20 (by kernel_rfl) rfl; have qi := QI.out; have q : (n : Int) < 16 := (by omega); simp only [execOp, Act.eval, e0, e1]; go_simp, rfl⟩)
            | 6, _ => exact mstep_pure rfl (mwant_none rfl) (fun aa ww cc => ⟨.bool false, by have e0 : aa.tmps.getD 22 undef = .pointer (some ⟨bf, 16 + n, none⟩) := cc.slot 5 22 (by kernel_rfl) rfl; have m := TX.out _ cc.below; simp only [execOp, Act.eval, e0]; go_simp, rfl⟩)
            | 7, _ => exact mstep_copy rfl (mwant_none rfl) 23 (Or.inl rfl) 6 (by kernel_rfl) rfl rfl
            | 8, _ => exact mstep_pure rfl (mwant 7 false 24 rfl (by kernel_rfl) rfl rfl (by kernel_rfl)) (fun aa ww cc => ⟨.pointer (some ⟨b2, 1, none⟩), by have e0 : aa.tmps.getD 2 undef = .pointer (some ⟨b2, 0, none⟩) := (cc.orig 2 (by kernel_rfl)).trans rfl; simp only [execOp, Act.eval, e0]; go_simp, rfl⟩)
            | 9, _ => exact mstep_pure rfl (mwant 7 false 24 rfl (by kernel_rfl) rfl rfl (by kernel_rfl)) (fun aa ww cc => ⟨.slice A L c, by have e0 : aa.tmps.getD 25 undef = .pointer (some ⟨b2, 1, none⟩) := cc.slot 8 25 (by kernel_rfl) rfl; have m := NB.out _ cc.below; simp only [execOp, Act.eval, e0]; go_simp, rfl⟩)
            | 10, _ => exact mstep_call rfl (mwant 7 false 24 rfl (by kernel_rfl) rfl rfl (by kernel_rfl)) _ _ _ rfl (enters_of Tryd.func33 (by kernel_rfl) rfl) (fun aa ww cc => by have e0 : aa.tmps.getD 1 undef = .pointer (some ⟨bf, 0, none⟩) := (cc.orig 1 (by kernel_rfl)).trans rfl; have e1 : aa.tmps.getD 26 undef = .slice A L c := cc.slot 9 26 (by kernel_rfl) rfl; simp only [List.map_toArray, List.map_cons, List.map_nil, Act.eval, e0, e1]; exact (CL.out) ww cc.below)
            | 11, _ => exact mstep_pure rfl (mwant_none rfl) (fun aa ww cc => ⟨.bool dv, by have e0 : aa.tmps.getD 24 undef = .bool false := cc.slot 7 24 (by kernel_rfl) rfl; have e1 : aa.tmps.getD 27 undef = .bool dv := cc.slot 10 27 (by kernel_rfl) rfl; simp only [execOp, Act.eval, e0, e1]; go_simp, rfl⟩)
            | 12, _ => exact mstep_pure rfl (mwant_none rfl) (fun aa ww cc => ⟨.pointer (some ⟨bf, 16, none⟩), by have e0 : aa.tmps.getD 1 undef = .pointer (some ⟨bf, 0, none⟩) := (cc.orig 1 (by kernel_rfl)).trans rfl; simp only [execOp, Act.eval, e0]; go_simp, rfl⟩)
            | 13, _ => exact mstep_pure rfl (mwant_none rfl) (fun aa ww cc => ⟨.pointer (some ⟨bf, 16 + n, none⟩), by have e0 : aa.tmps.getD 29 undef = .pointer (some ⟨bf, 16, none⟩) := cc.slot 12 29 (by kernel_rfl) rfl; have e1 : aa.tmps.getD 18 undef = .int .i64 (n : Int) := cc.slot 1 18 (by kernel_rfl) rfl; have qi := QI.out; have q : (n : Int) < 16 := (by omega); simp only [execOp, Act.eval, e0, e1]; go_simp, rfl⟩)
            | n + 14, h => exact absurd h (by show ¬ (n + 14 < 14); omega)
          · intro VV w5 hlen hb5 hok
            match VV, hlen with
            | [v0, v1, v2, v3, v4, v5, v6, v7, v8, v9, v10, v11, v12, v13], _ =>
              obtain rfl : v0 = .pointer (some ⟨b2, 0, none⟩) := hok 0 17 rfl
              obtain rfl : v1 = .int .i64 (n : Int) := hok 1 18 rfl
              obtain rfl : v2 = .pointer (some ⟨b2, 0, none⟩) := hok 2 19 rfl
              obtain rfl : v3 = .int .i64 (n : Int) := hok 3 20 rfl
              obtain rfl : v4 = .pointer (some ⟨bf, 16, none⟩) := hok 4 21 rfl
              obtain rfl : v5 = .pointer (some ⟨bf, 16 + n, none⟩) := hok 5 22 rfl
              obtain rfl : v6 = .bool false := hok 6 23 rfl
              obtain rfl : v7 = .bool false := hok 7 24 rfl
              obtain rfl : v8 = .pointer (some ⟨b2, 1, none⟩) := hok 8 25 rfl
              obtain rfl : v9 = .slice A L c := hok 9 26 rfl
              obtain rfl : v10 = .bool dv := hok 10 27 rfl
              obtain rfl : v11 = .bool dv := hok 11 28 rfl
              obtain rfl : v12 = .pointer (some ⟨bf, 16, none⟩) := hok 12 29 rfl
              obtain rfl : v13 = .pointer (some ⟨bf, 16 + n, none⟩) := hok 13 30 rfl
              have HBF5 : Hid (Blk w5 bf (fcells F1)) := Lib.hid (HBF.out.below hb5 HBF.out.lt)
              have HG5 : Hid (w6.grownBy w5 (some bf)) := Lib.hid (grownBy_below hb5 (Nat.le_refl _))
              have HB25 : Hid (Blk w5 b2 (frv f A c)) := Lib.hid (HB2.out.below hb5 HB2.out.lt)
              clear hb5 hok N1 NB TX CL HB2 HBF
              simp only [List.zip_cons_cons, List.zip_nil_right, putsL]
              go_simp
              go_wp2_with ((with_reducible show wpList _ _ _ (Oper.mk _ (Op.store _ _ _) _ _ _ _ :: _) _ _); refine wpList_storeB rfl 4 _ _ rfl bf (16 + n) _ (.bool dv) rfl rfl HBF5.out (by rw [fcells_len HFO.out]; have := QI.out; omega) s1Bool rfl ?_)
              intro w8 hb8 hg8
              have HBF8 : Hid (Blk w8 bf (fcells (step1 f F))) := Lib.hid (by rw [step1_two, ← HF1.out, HVV.out, ← fset_null HFO.out QI.out]; exact hb8)
              have HG8 : Hid (w.grownBy w8 (some bf)) := Lib.hid ((HG1.out.trans HG6.out).trans (HG5.out.trans hg8))
              clear hb8 hg8 HBF5 HG5 HB25
              go_wp2
              go_end0
              exact ⟨rfl, HBF8.out, HG8.out⟩
end Go.Proofs.YtiebpmpjclnpeaaDoor
