/- PvmBack: the walk. -/
import Derived.Test.YtogbhbajnegfeaaDoorPvmRest
import Derived.Test.YtogbhbajnegfeaaDoorPvmConf
import Derived.Test.YtogbhbajnegfeaaDoorOpenM
namespace Nac.Pvm
theorem runM_len (l : List Ins) : ∀ (n : Nat) (x : Mach × Int × Int), (runM l n x).1.1.mem.length = x.1.mem.length
  | 0, _ => rfl
  | n + 1, x => by
    rw [runM]
    split
    · exact (runM_len l n (stepM l x.1)).trans (stepM_len l x.1).2
    · rfl
end Nac.Pvm
namespace Go.Proofs.YtogbhbajnegfeaaDoor
open Go.RowKit Nac Nac.Pvm Nac.Crc
section
variable {ops : Array Oper} {Q : Exit → Act → World → Prop} {D : Nat → VD} {a0 : Act} {W0 : World} {i : Nat} {o : Oper} {T : TypeId} {n : Nat}
theorem mstep_loadS (hS : SInfo T n) (ho : ops[i]? = some o) (hw : ∀ a w, MCtx ops D a0 W0 i a w → Region.wanted o (yielded ops a.tmps) = true) (x : Tmp) (hop : o.op = .load T (.tmp x)) (b : Nat) (cs : List Value) (hl : cs.length = n)
    (hx : ∀ a w, MCtx ops D a0 W0 i a w → a.tmps.getD x undef = .pointer (some ⟨b, 0, none⟩)) (hb : ∀ w, Below W0.heap.size W0 w → Blk w b cs) (hD : D i = .is (.agg cs.toArray)) : MStep Tryd.prog ops Q D a0 W0 i :=
  mstep_pure ho hw fun a w c => ⟨.agg cs.toArray, by
    have e := hx a w c
    unfold execOp
    simp only [hop, Act.eval, e, Instr.loadAt, Instr.sureAddr, Sem.run_bind, Sem.run_pure, Result.andThen_ok, run_loadS hS b cs (hb w c.below) hl], by rw [hD]; rfl⟩
end
def toldVD (m : Mach) : VD := .pr (fun v w => ∃ A c, v = mv m A c ∧ RWd w w.heap.size A m.mem) (fun _ _ _ ⟨A, c, h1, h2⟩ hb => ⟨A, c, h1, (h2.below hb).mono hb.size⟩)
set_option maxRecDepth 100000 in
set_option maxHeartbeats 4000000 in
theorem PvmBack_calls (w : World) (hd : Hdl w) (Ac : Option Addr) (cc : Nat) (l : List Ins) (hR : RIn w w.heap.size Ac l) (hlc : l.length ≤ cc) (hl8 : l.length ≤ 140737488351232)
    (A : Option Addr) (c : Nat) (m : Mach) (hl : m.r.length = 8) (hmem : RWd w w.heap.size A m.mem) (hmc : m.mem.length ≤ c) (hm8 : m.mem.length ≤ 17592186044415) (hfit : MachFits m) (n0 : Nat) (hn0 : n0 < 256) :
    Calls Tryd.prog 6 #[.slice Ac l.length cc, mv m A c, .int .u8 (n0 : Int)] w (RetTrue w) := by
  have HD := Lib.hid hd
  have HR := Lib.hid hR
  have HL := Lib.hid hl
  have HMM := Lib.hid hmem
  have HMC := Lib.hid hmc
  have HFIT := Lib.hid hfit
  have HLC := Lib.hid hlc
  have hsl := short_calls (A := Ac) (n := l.length) (c := cc) (hA := rin_ne hR) (hc := hlc) (hn8 := hl8)
  have hsf := few_calls (A := A) (c := c) (m := m) (hl := hl) (hA := rwd_ne hmem) (hc := hmc) (hm8 := by omega)
  obtain ⟨n, hn⟩ : ∃ n, n = l.length := ⟨_, rfl⟩
  have htl := take_len l n hn
  obtain ⟨ls, hls⟩ : ∃ ls, ls = l.take 130 := ⟨_, rfl⟩
  have HLS : Hid (ls.length ≤ 130) := Lib.hid (by rw [hls]; simp; omega)
  have HRS : Hid (RIn w w.heap.size Ac ls) := Lib.hid (by rw [hls]; exact hR.take 130)
  rw [← hn] at hsl hl8 ⊢
  rw [← hls] at htl
  have HSL := Lib.hid hsl
  have HSF := Lib.hid hsf
  have HTL := Lib.hid htl
  clear hfit hd hR hl hmem hmc hlc hsl hsf hn hls htl
  go_enter Tryd.func6, Tryd.ntmps6
  go_wp2_with ((with_reducible show wpList _ _ _ (Oper.mk _ (Op.box _ _) _ _ _ _ :: _) _ _); refine wpList_boxS rfl _ rfl (mcs m A c) rfl ?_)
  intro w1 hb1 hg1 hs1
  obtain ⟨B4, hB4⟩ : ∃ B4, B4 = w.heap.size := ⟨_, rfl⟩
  rw [← hB4] at hb1 hs1 ⊢
  have HFJ : Hid (FJ w B4 m A c w1.drew) := Lib.hid ⟨(gbelow hg1).drew, hb1⟩
  have HE4 := Lib.hid hB4
  clear hb1 hg1 hs1 hB4
  go_wp2_with fail
  have CS : Hid (∀ (ww : World), FJ w B4 m A c ww → Calls Tryd.prog 11 #[.slice Ac n cc] ww fun e w' => ∃ v, e = .returned v ∧ v = .slice Ac ls.length cc ∧ FJ w B4 m A c w') := Lib.hid fun ww hj => (HSL.out ww).mono (by
    rintro e w' ⟨rfl, rfl⟩
    exact ⟨_, rfl, by rw [HTL.out], hj⟩)
  have CF : Hid (∀ (ww : World), FJ w B4 m A c ww → Calls Tryd.prog 12 #[mv m A c] ww fun e w' => ∃ v, e = .returned v ∧ v = mv (fewM m) A c ∧ FJ w B4 m A c w') := Lib.hid fun ww hj => (HSF.out ww).mono (by
    rintro e w' ⟨rfl, hb⟩
    exact ⟨_, rfl, rfl, hj.below hb⟩)
  have HLF : Hid ((fewM m).r.length = 8) := Lib.hid HL.out
  have HM66 : Hid ((fewM m).mem.length ≤ 66) := Lib.hid (by show (m.mem.take 66).length ≤ 66; simp; omega)
  have HRF : Hid (RWd w w.heap.size A (fewM m).mem) := Lib.hid (HMM.out.take 66)
  refine region_tail 5 [.slice Ac n cc, .slice Ac ls.length cc, mv m A c, mv (fewM m) A c, .slice Ac ls.length cc] [some 15, some 16, some 17, some 18, some 0] (fun _ w' => FJ w B4 m A c w') (by kernel_rfl) (by kernel_rfl) (by kernel_rfl) (by kernel_rfl) rfl rfl HFJ.out (fun ii hii => ?_) ?_
  · match ii, hii with
    | 0, _ => exact vstep_first rfl (vwant_none rfl) (fun _ _ h => h) 0 (Or.inl rfl) (by kernel_rfl) rfl
    | 1, _ => exact vstep_call rfl (vwant_none rfl) _ _ _ rfl (enters_of Tryd.func11 (by kernel_rfl) rfl) (fun LL aa ww cc9 => by have e0 : aa.tmps.getD 15 undef = .slice Ac n cc := cc9.slot 0 15 (by kernel_rfl) rfl; simp only [List.map_toArray, List.map_cons, List.map_nil, Act.eval, e0]; exact CS.out ww cc9.world)
    | 2, _ => exact vstep_loadS sMach rfl (vwant_none rfl) (fun _ _ h => h) 4 rfl B4 (mcs m A c) (mcs_len HL.out) (fun L a w c => (c.orig 4 (by kernel_rfl)).trans rfl) (fun _ _ j => j.blk) rfl
    | 3, _ => exact vstep_call rfl (vwant_none rfl) _ _ _ rfl (enters_of Tryd.func12 (by kernel_rfl) rfl) (fun LL aa ww cc9 => by have e0 : aa.tmps.getD 17 undef = mv m A c := cc9.slot 2 17 (by kernel_rfl) rfl; simp only [List.map_toArray, List.map_cons, List.map_nil, Act.eval, e0]; exact CF.out ww cc9.world)
    | 4, _ => exact vstep_copy rfl (vwant_none rfl) (fun _ _ h => h) 16 (Or.inr rfl) 1 (by kernel_rfl) rfl (fun _ h => h)
    | n + 5, h => exact absurd h (by show ¬ (n + 5 < 5); omega)
  · intro L9 w2 hall hJ
    have HJ := Lib.hid hJ
    have HMW : Hid (∀ w', Below w.heap.size w w' → RWd w' w'.heap.size A (fewM m).mem) := Lib.hid fun w' hb => (HRF.out.below hb).mono hb.size
    clear hJ hall CS CF HFJ HSL HSF HTL HMM HRF HL HR HMC HLC
    simp only [List.zip_cons_cons, List.zip_nil_right, putsL]
    go_simp
    go_wp2_with ((with_reducible show wpList _ _ _ (Oper.mk _ (Op.store 27 _ _) _ _ _ _ :: _) _ _); refine wpList_storeS sMach rfl _ _ rfl B4 (mcs m A c) (mcs (fewM m) A c) rfl rfl HJ.out.blk (mcs_len HLF.out) (mcs_len HLF.out) (mcs_one _ _ _) ?_)
    intro w3 hb3 hg3
    have HB4 := Lib.hid hb3
    have HW3 : Hid (Below w.heap.size w w3) := Lib.hid (HJ.out.bel.grown hg3 HJ.out.bel.size (fun j e => by injection e with e; have := HE4.out; omega))
    have HF1 : Hid ((∀ z ∈ (fewM m).r, (Lit.int .i64 z).wf = true) ∧ ∀ z ∈ (fewM m).mem, (Lit.int .i64 z).wf = true) := Lib.hid ⟨HFIT.out.r, fun z hz => HFIT.out.mem z (List.mem_of_mem_take hz)⟩
    obtain ⟨m1, hm1⟩ : ∃ m1, m1 = fewM m := ⟨_, rfl⟩
    rw [← hm1] at HB4 HLF HM66 HMW HF1
    have HL1 := HLF
    clear hb3 hg3 HJ hm1
    have H66 := HM66.out
    go_wp2_with ((with_reducible show wpList _ _ _ (Oper.mk _ (Op.load 27 _) _ _ _ _ :: _) _ _); refine wpList_loadS sMach rfl _ rfl B4 _ rfl HB4.out (mcs_len HLF.out) ?_)
    refine (May_calls w3 A c m1 HL1.out (by omega)).mono ?_
    rintro e v1 ⟨rfl, hv1⟩
    have HB1 := Lib.hid (HB4.out.below hv1 HB4.out.lt)
    have HV1 : Hid (Below w.heap.size w v1) := Lib.hid (HW3.out.trans (hv1.mono HW3.out.size))
    clear hv1 HB4 HW3
    cases hmay : mayM m1 with
    | false =>
      have HMAY := Lib.hid hmay
      clear hmay
      go_wp2_with ((with_reducible show wpList _ _ _ (Oper.mk _ (Op.load 27 _) _ _ _ _ :: _) _ _); refine wpList_loadS sMach rfl _ rfl B4 _ rfl HB1.out (mcs_len HLF.out) ?_)
      refine (Save_not v1 A c m1 HL1.out (by omega) HMAY.out).mono ?_
      rintro e v2 ⟨rfl, hv2⟩
      have HV2 : Hid (Below w.heap.size w v2) := Lib.hid (HV1.out.trans (hv2.mono HV1.out.size))
      clear hv2
      go_wp2_with fail
      refine (awake_calls v2 (HD.out.below HV2.out HD.out.lt)).mono ?_
      rintro e v3 ⟨rfl, hv3⟩
      have HV3 : Hid (Below w.heap.size w v3) := Lib.hid (HV2.out.trans (hv3.mono HV2.out.size))
      clear hv3
      go_wp2
      go_ret
      exact ⟨rfl, HV3.out⟩
    | true =>
      have HMAY := Lib.hid hmay
      clear hmay
      go_wp2_with ((with_reducible show wpList _ _ _ (Oper.mk _ (Op.load 27 _) _ _ _ _ :: _) _ _); refine wpList_loadS sMach rfl _ rfl B4 _ rfl HB1.out (mcs_len HLF.out) ?_)
      refine (Save_calls v1 A c m1 HL1.out (HMW.out _ HV1.out) HMAY.out).mono ?_
      rintro e v2 ⟨Es, es, rfl, hes, hv2⟩
      have HES := Lib.hid hes
      have HB2 := Lib.hid (HB1.out.below hv2 HB1.out.lt)
      have HV2 : Hid (Below w.heap.size w v2) := Lib.hid (HV1.out.trans (hv2.mono HV1.out.size))
      clear hes hv2 HB1 HV1
      go_wp2_with fail
      refine (Restore_calls v2 Es es m1 HL1.out HMAY.out HF1.out.1 HF1.out.2 HES.out.rb).mono ?_
      rintro e v3 ⟨Ax, cx, rfl, hox, hv3⟩
      have HOX := Lib.hid hox
      have HB3 := Lib.hid (HB2.out.below hv3 HB2.out.lt)
      have HV3 : Hid (Below w.heap.size w v3) := Lib.hid (HV2.out.trans (hv3.mono HV2.out.size))
      clear hox hv3 HB2 HV2 HES
      go_wp2_with ((with_reducible show wpList _ _ _ (Oper.mk _ (Op.alloc 27) _ _ _ _ :: _) _ _); refine wpList_allocS _ zMach rfl rfl ?_)
      intro v4 hb4 hg4 hs4
      obtain ⟨B7, hB7⟩ : ∃ B7, B7 = v3.heap.size := ⟨_, rfl⟩
      rw [← hB7] at hb4 hs4 ⊢
      have HC4 := Lib.hid hb4
      have HG4 := Lib.hid (gbelow hg4)
      have HE7 := Lib.hid (And.intro hB7 hs4)
      clear hb4 hg4 hs4 hB7
      go_wp2_with ((with_reducible show wpList _ _ _ (Oper.mk _ (Op.store 27 _ _) _ _ _ _ :: _) _ _); refine wpList_storeS sMach rfl _ _ rfl B7 (mcs zM none 0) (mcs m1 Ax cx) rfl rfl HC4.out rfl (mcs_len HL1.out) (mcs_one _ _ _) ?_)
      intro v5 hb5 hg5
      have hb35 : Below v3.heap.size v3 v5 := HG4.out.grown hg5 HG4.out.size (fun j e => by injection e; have := HE7.out.1; omega)
      have HC5 := Lib.hid hb5
      have HB5 := Lib.hid (HB3.out.below hb35 HB3.out.lt)
      have HV5 : Hid (Below w.heap.size w v5) := Lib.hid (HV3.out.trans (hb35.mono HV3.out.size))
      have HX5 := Lib.hid ((HOX.out.rw.below hb35).mono hb35.size)
      have HM5 : Hid (RWd v5 v5.heap.size A m1.mem) := Lib.hid (HMW.out _ HV5.out)
      clear hb5 hg5 hb35 HC4 HG4 HE7 HB3 HV3 HOX
      go_wp2_with fail
      have B7K : Hid (∀ w', Below v5.drew.heap.size v5.drew w' → Blk w' B7 (mcs m1 Ax cx)) := Lib.hid fun w' hb => HC5.out.drew.below hb HC5.out.lt
      have B4K : Hid (∀ w', Below v5.drew.heap.size v5.drew w' → Blk w' B4 (mcs m1 A c)) := Lib.hid fun w' hb => HB5.out.drew.below hb HB5.out.lt
      have TC : Hid (∀ w', Below v5.drew.heap.size v5.drew w' → Calls Tryd.prog 18 #[mv m1 A c] w' fun e w'' => ∃ v, e = .returned v ∧ (toldVD m1).ok v w'' ∧ Below w'.heap.size w' w'') := Lib.hid fun w' hb => by
        refine (Told_calls w' A c m1 HL1.out ((RWd.below (w := v5.drew) HM5.out hb).mono hb.size) (by have := HM66.out; omega)).mono ?_
        rintro e w'' ⟨At, ct, rfl, hr, hb2⟩
        exact ⟨_, rfl, ⟨At, ct, rfl, hr⟩, hb2⟩
      have IC : Hid (∀ w', Below v5.drew.heap.size v5.drew w' → ∀ At ct, RWd w' w'.heap.size At m1.mem → Calls Tryd.prog 7 #[mv m1 Ax cx, mv m1 At ct] w' fun e w'' => ∃ v, e = .returned v ∧ (VD.is (.bool true)).ok v w'' ∧ Below w'.heap.size w' w'') := Lib.hid fun w' hb At ct hrt => by
        refine (is_calls w' Ax At cx ct m1 HL1.out ((RWd.below (w := v5.drew) HX5.out hb).mono hb.size) hrt (by have := HM66.out; omega)).mono ?_
        rintro e w'' ⟨rfl, hb2⟩
        exact ⟨_, rfl, rfl, hb2⟩
      refine region_monos (fun ix9 => ([.is (.nilIface), .is (.bool false), .is (.bool false), .is (mv m1 Ax cx), .is (mv m1 A c), (toldVD m1), .is (.bool true), .is (.bool false), .is (.bool false)] : List VD).getD ix9 (.is undef)) [some 35, some 36, some 37, some 38, some 39, some 40, some 41, some 42, some 43] (by kernel_rfl) (by kernel_rfl) (by kernel_rfl) rfl (fun ii hii => ?_) ?_
      · match ii, hii with
        | 0, _ => exact mstep_first rfl (mwant_none rfl) 8 (Or.inl rfl) (by kernel_rfl) (fun _ _ => rfl)
        | 1, _ => exact mstep_pure rfl (mwant_none rfl) (fun aa ww cc => ⟨.bool false, by have e0 : aa.tmps.getD 35 undef = .nilIface := cc.slot 0 35 (by kernel_rfl) rfl; simp only [execOp, Act.eval, e0]; go_simp, rfl⟩)
        | 2, _ => exact mstep_copy rfl (mwant_none rfl) 36 (Or.inl rfl) 1 (by kernel_rfl) rfl rfl
        | 3, _ => exact mstep_loadS sMach rfl (mwant 2 false 37 rfl (by kernel_rfl) rfl rfl (by kernel_rfl)) 7 rfl B7 (mcs m1 Ax cx) (mcs_len HL1.out) (fun aa ww cc => (cc.orig 7 (by kernel_rfl)).trans rfl) (fun ww hb => B7K.out ww hb) rfl
        | 4, _ => exact mstep_loadS sMach rfl (mwant 2 false 37 rfl (by kernel_rfl) rfl rfl (by kernel_rfl)) 4 rfl B4 (mcs m1 A c) (mcs_len HL1.out) (fun aa ww cc => (cc.orig 4 (by kernel_rfl)).trans rfl) (fun ww hb => B4K.out ww hb) rfl
        | 5, _ => exact mstep_call rfl (mwant 2 false 37 rfl (by kernel_rfl) rfl rfl (by kernel_rfl)) _ _ _ rfl (enters_of Tryd.func18 (by kernel_rfl) rfl) (fun aa ww cc => by have e0 : aa.tmps.getD 39 undef = mv m1 A c := cc.slot 4 39 (by kernel_rfl) rfl; simp only [List.map_toArray, List.map_cons, List.map_nil, Act.eval, e0]; exact TC.out ww cc.below)
        | 6, _ => exact mstep_call rfl (mwant 2 false 37 rfl (by kernel_rfl) rfl rfl (by kernel_rfl)) _ _ _ rfl (enters_of Tryd.func7 (by kernel_rfl) rfl) (fun aa ww cc => by have e0 : aa.tmps.getD 38 undef = mv m1 Ax cx := cc.slot 3 38 (by kernel_rfl) rfl; obtain ⟨At, ct, e1, hrt⟩ := cc.slot 5 40 (by kernel_rfl) rfl; simp only [List.map_toArray, List.map_cons, List.map_nil, Act.eval, e0, e1]; exact IC.out ww cc.below At ct hrt)
        | 7, _ => exact mstep_pure rfl (mwant 2 false 37 rfl (by kernel_rfl) rfl rfl (by kernel_rfl)) (fun aa ww cc => ⟨.bool false, by have e0 : aa.tmps.getD 41 undef = .bool true := cc.slot 6 41 (by kernel_rfl) rfl; simp only [execOp, Act.eval, e0]; go_simp, rfl⟩)
        | 8, _ => exact mstep_pure rfl (mwant_none rfl) (fun aa ww cc => ⟨.bool false, by have e0 : aa.tmps.getD 37 undef = .bool false := cc.slot 2 37 (by kernel_rfl) rfl; have e1 : aa.tmps.getD 42 undef = .bool false := cc.slot 7 42 (by kernel_rfl) rfl; simp only [execOp, Act.eval, e0, e1]; go_simp, rfl⟩)
        | n + 9, h => exact absurd h (by show ¬ (n + 9 < 9); omega)
      · intro VV w5 hlen hb5 hok
        match VV, hlen with
        | [v0, v1, v2, v3, v4, v5, v6, v7, v8], _ =>
          obtain rfl : v0 = .nilIface := hok 0 35 rfl
          obtain rfl : v1 = .bool false := hok 1 36 rfl
          obtain rfl : v2 = .bool false := hok 2 37 rfl
          obtain rfl : v3 = mv m1 Ax cx := hok 3 38 rfl
          obtain rfl : v4 = mv m1 A c := hok 4 39 rfl
          have p5 := hok 5 40 rfl
          obtain rfl : v6 = .bool true := hok 6 41 rfl
          obtain rfl : v7 = .bool false := hok 7 42 rfl
          obtain rfl : v8 = .bool false := hok 8 43 rfl
          have HB6 := Lib.hid (HB5.out.below hb5 HB5.out.lt)
          have HC6 := Lib.hid (HC5.out.below hb5 HC5.out.lt)
          have HV6 : Hid (Below w.heap.size w w5) := Lib.hid (HV5.out.trans (hb5.mono HV5.out.size))
          have HX6 := Lib.hid ((HX5.out.below hb5).mono hb5.size)
          clear hok hb5 hlen B7K B4K TC IC HB5 HC5 HV5 HX5 HM5 p5
          refine (by assumption : ∀ (a : Act) (w : World), Code.wp _ _ _ a w → _) _ _ ?_
          simp only [List.zip_cons_cons, List.zip_nil_right, putsL]
          go_simp
          have hn1 : (n0 : Int) < 256 := by omega
          go_wp2_with ((with_reducible show wpList _ _ _ (Oper.mk _ (Op.load 27 _) _ _ _ _ :: _) _ _); refine wpList_loadS sMach rfl _ rfl B4 _ rfl HB6.out (mcs_len HL1.out) ?_)
          refine (Run_calls w5 (HD.out.below HV6.out HD.out.lt) A c m1 HL1.out (HMW.out _ HV6.out) (by omega) Ac cc ls ((HRS.out.below HV6.out).mono HV6.out.size) (by have := HLS.out; omega) n0 (by omega)).mono ?_
          rintro e v7 ⟨Aa, ca, rfl, hla, hoa, hv7⟩
          obtain ⟨ma, kk, zz, jj, hx⟩ : ∃ ma kk zz jj, runM ls (n0 : Int).toNat (m1, 0, 0) = ((ma, kk, zz), jj) := ⟨_, _, _, _, rfl⟩
          rw [hx] at hla hoa ⊢
          have HX := Lib.hid hx
          have HLA : Hid (ma.r.length = 8) := Lib.hid hla
          have HOA : Hid (OW v7 w5.heap.size Aa ca ma.mem) := Lib.hid hoa
          have HC7 := Lib.hid (HC6.out.below hv7 HC6.out.lt)
          have HV7 : Hid (Below w.heap.size w v7) := Lib.hid (HV6.out.trans (hv7.mono HV6.out.size))
          have HX7 := Lib.hid ((HX6.out.below hv7).mono hv7.size)
          clear hx hla hoa hv7 HB6 HC6 HV6 HX6
          simp only
          go_wp2_with ((with_reducible show wpList _ _ _ (Oper.mk _ (Op.alloc 27) _ _ _ _ :: _) _ _); refine wpList_allocS _ zMach rfl rfl ?_)
          intro v8 hb8 hg8 hs8
          obtain ⟨B9, hB9⟩ : ∃ B9, B9 = v7.heap.size := ⟨_, rfl⟩
          rw [← hB9] at hb8 hs8 ⊢
          have HC8 := Lib.hid hb8
          have HG8 := Lib.hid (gbelow hg8)
          have HE9 := Lib.hid (And.intro hB9 hs8)
          clear hb8 hg8 hs8 hB9
          go_wp2_with ((with_reducible show wpList _ _ _ (Oper.mk _ (Op.alloc 38) _ _ _ _ :: _) _ _); refine wpList_allocS _ zEv rfl rfl ?_)
          intro v9 hb9 hg9 hs9
          obtain ⟨B10, hB10⟩ : ∃ B10, B10 = v8.heap.size := ⟨_, rfl⟩
          rw [← hB10] at hb9 hs9 ⊢
          have HC9 := Lib.hid hb9
          have HG9 := Lib.hid (gbelow hg9)
          have HC89 := Lib.hid (HC8.out.gn hg9)
          have HE10 := Lib.hid (And.intro hB10 hs9)
          clear hb9 hg9 hs9 hB10
          go_wp2_with ((with_reducible show wpList _ _ _ (Oper.mk _ (Op.store 27 _ _) _ _ _ _ :: _) _ _); refine wpList_storeS sMach rfl _ _ rfl B9 (mcs zM none 0) (mcs ma Aa ca) rfl rfl HC89.out rfl (mcs_len HLA.out) (mcs_one _ _ _) ?_)
          intro v10 hb10 hg10
          have HD9 := Lib.hid hb10
          have HG10 := Lib.hid hg10
          clear hb10 hg10
          have HD10 : Hid (Blk v10 B10 (ecs 0 0)) := Lib.hid (HC9.out.grown HG10.out (fun e => by injection e with e; have := HE9.out; have := HE10.out; omega))
          go_wp2_with ((with_reducible show wpList _ _ _ (Oper.mk _ (Op.store 38 _ _) _ _ _ _ :: _) _ _); refine wpList_storeS sEv rfl _ _ rfl B10 (ecs 0 0) (ecs kk zz) rfl rfl HD10.out rfl rfl (ecs_one _ _) ?_)
          intro v11 hb11 hg11
          have b79 : Below v7.heap.size v7 v9 := HG8.out.trans (HG9.out.mono HG8.out.size)
          have b7b : Below v7.heap.size v7 v11 := (b79.grown HG10.out b79.size (fun j e => by injection e; have := HE9.out; omega)).grown hg11 (Nat.le_trans b79.size HG10.out.size) (fun j e => by injection e; have := HE9.out; have := HE10.out; omega)
          have HE11 := Lib.hid hb11
          have HM11 := Lib.hid (HD9.out.grown hg11 (fun e => by injection e; have := HE9.out; have := HE10.out; omega))
          have HC11 := Lib.hid (HC7.out.below b7b HC7.out.lt)
          have HV11 : Hid (Below w.heap.size w v11) := Lib.hid (HV7.out.trans (b7b.mono HV7.out.size))
          have HX11 := Lib.hid ((HX7.out.below b7b).mono b7b.size)
          have HOA11 := Lib.hid ((HOA.out.rw.below b7b).mono b7b.size)
          clear hb11 hg11 b79 b7b HC8 HG8 HE9 HC9 HG9 HC89 HE10 HD9 HG10 HD10 HC7 HV7 HX7 HOA
          go_wp2_with ((with_reducible show wpList _ _ _ (Oper.mk _ (Op.load 27 _) _ _ _ _ :: _) _ _); refine wpList_loadS sMach rfl _ rfl B7 _ rfl HC11.out (mcs_len HL1.out) ?_)
          refine (Run_calls v11 (HD.out.below HV11.out HD.out.lt) Ax cx m1 HL1.out HX11.out (by omega) Ac cc ls ((HRS.out.below HV11.out).mono HV11.out.size) (by have := HLS.out; omega) n0 (by omega)).mono ?_
          rintro e v12 ⟨Ab, cb, rfl, hlb, hob, hv12⟩
          rw [HX.out] at hlb hob ⊢
          have HOB : Hid (OW v12 v11.heap.size Ab cb ma.mem) := Lib.hid hob
          have HM12 := Lib.hid (HM11.out.below hv12 HM11.out.lt)
          have HE12 := Lib.hid (HE11.out.below hv12 HE11.out.lt)
          have HV12 : Hid (Below w.heap.size w v12) := Lib.hid (HV11.out.trans (hv12.mono HV11.out.size))
          have HOA12 := Lib.hid ((HOA11.out.below hv12).mono hv12.size)
          clear hlb hob hv12 HM11 HE11 HC11 HV11 HX11 HOA11
          simp only
          go_wp2_with ((with_reducible show wpList _ _ _ (Oper.mk _ (Op.alloc 27) _ _ _ _ :: _) _ _); refine wpList_allocS _ zMach rfl rfl ?_)
          intro v13 hb13 hg13 hs13
          obtain ⟨B12, hB12⟩ : ∃ B12, B12 = v12.heap.size := ⟨_, rfl⟩
          rw [← hB12] at hb13 hs13 ⊢
          have HC13 := Lib.hid hb13
          have HG13 := Lib.hid (gbelow hg13)
          have HE13 := Lib.hid (And.intro hB12 hs13)
          clear hb13 hg13 hs13 hB12
          go_wp2_with ((with_reducible show wpList _ _ _ (Oper.mk _ (Op.alloc 38) _ _ _ _ :: _) _ _); refine wpList_allocS _ zEv rfl rfl ?_)
          intro v14 hb14 hg14 hs14
          obtain ⟨B13, hB13⟩ : ∃ B13, B13 = v13.heap.size := ⟨_, rfl⟩
          rw [← hB13] at hb14 hs14 ⊢
          have HC14 := Lib.hid hb14
          have HG14 := Lib.hid (gbelow hg14)
          have HC134 := Lib.hid (HC13.out.gn hg14)
          have HE14 := Lib.hid (And.intro hB13 hs14)
          clear hb14 hg14 hs14 hB13
          go_wp2_with ((with_reducible show wpList _ _ _ (Oper.mk _ (Op.store 27 _ _) _ _ _ _ :: _) _ _); refine wpList_storeS sMach rfl _ _ rfl B12 (mcs zM none 0) (mcs ma Ab cb) rfl rfl HC134.out rfl (mcs_len HLA.out) (mcs_one _ _ _) ?_)
          intro v15 hb15 hg15
          have HD15 := Lib.hid hb15
          have HG15 := Lib.hid hg15
          clear hb15 hg15
          have HD14 : Hid (Blk v15 B13 (ecs 0 0)) := Lib.hid (HC14.out.grown HG15.out (fun e => by injection e with e; have := HE13.out; have := HE14.out; omega))
          go_wp2_with ((with_reducible show wpList _ _ _ (Oper.mk _ (Op.store 38 _ _) _ _ _ _ :: _) _ _); refine wpList_storeS sEv rfl _ _ rfl B13 (ecs 0 0) (ecs kk zz) rfl rfl HD14.out rfl rfl (ecs_one _ _) ?_)
          intro v16 hb16 hg16
          have b1 : Below v12.heap.size v12 v14 := HG13.out.trans (HG14.out.mono HG13.out.size)
          have b2 : Below v12.heap.size v12 v16 := (b1.grown HG15.out b1.size (fun j e => by injection e; have := HE13.out; omega)).grown hg16 (Nat.le_trans b1.size HG15.out.size) (fun j e => by injection e; have := HE13.out; have := HE14.out; omega)
          have HE16 := Lib.hid hb16
          have HM16 := Lib.hid (HD15.out.grown hg16 (fun e => by injection e; have := HE13.out; have := HE14.out; omega))
          have HA16 := Lib.hid (HM12.out.below b2 HM12.out.lt)
          have HF16 := Lib.hid (HE12.out.below b2 HE12.out.lt)
          have HV16 : Hid (Below w.heap.size w v16) := Lib.hid (HV12.out.trans (b2.mono HV12.out.size))
          have HRA16 := Lib.hid ((HOA12.out.below b2).mono b2.size)
          have HRB16 := Lib.hid ((HOB.out.rw.below b2).mono b2.size)
          have HLM : Hid (ma.mem.length ≤ 17592186044415) := Lib.hid (by
            have := runM_len ls (n0 : Int).toNat (m1, 0, 0)
            rw [HX.out] at this
            have h2 : ma.mem.length = m1.mem.length := this
            omega)
          clear hb16 hg16 b1 b2 HC13 HG13 HE13 HC14 HG14 HC134 HE14 HD15 HG15 HD14 HM12 HE12 HV12 HOA12 HOB
          go_wp2_with fail
          have B9K : Hid (∀ w', Below v16.drew.heap.size v16.drew w' → Blk w' B9 (mcs ma Aa ca)) := Lib.hid fun w' hb => HA16.out.drew.below hb HA16.out.lt
          have B12K : Hid (∀ w', Below v16.drew.heap.size v16.drew w' → Blk w' B12 (mcs ma Ab cb)) := Lib.hid fun w' hb => HM16.out.drew.below hb HM16.out.lt
          have E10K : Hid (∀ w', Below v16.drew.heap.size v16.drew w' → w'.cell? ⟨B10, 0, none⟩ = some (.int .i64 kk) ∧ w'.cell? ⟨B10, 1, none⟩ = some (.int .i64 zz)) := Lib.hid fun w' hb => by
            have h := HF16.out.drew.below hb HF16.out.lt
            exact ⟨h.cell rfl, h.cell rfl⟩
          have E13K : Hid (∀ w', Below v16.drew.heap.size v16.drew w' → w'.cell? ⟨B13, 0, none⟩ = some (.int .i64 kk) ∧ w'.cell? ⟨B13, 1, none⟩ = some (.int .i64 zz)) := Lib.hid fun w' hb => by
            have h := HE16.out.drew.below hb HE16.out.lt
            exact ⟨h.cell rfl, h.cell rfl⟩
          have TC : Hid (∀ w', Below v16.drew.heap.size v16.drew w' → Calls Tryd.prog 18 #[mv ma Ab cb] w' fun e w'' => ∃ v, e = .returned v ∧ (toldVD ma).ok v w'' ∧ Below w'.heap.size w' w'') := Lib.hid fun w' hb => by
            refine (Told_calls w' Ab cb ma HLA.out ((RWd.below (w := v16.drew) HRB16.out hb).mono hb.size) HLM.out).mono ?_
            rintro e w'' ⟨At, ct, rfl, hr, hb2⟩
            exact ⟨_, rfl, ⟨At, ct, rfl, hr⟩, hb2⟩
          have IC : Hid (∀ w', Below v16.drew.heap.size v16.drew w' → ∀ At ct, RWd w' w'.heap.size At ma.mem → Calls Tryd.prog 7 #[mv ma Aa ca, mv ma At ct] w' fun e w'' => ∃ v, e = .returned v ∧ (VD.is (.bool true)).ok v w'' ∧ Below w'.heap.size w' w'') := Lib.hid fun w' hb At ct hrt => by
            refine (is_calls w' Aa At ca ct ma HLA.out ((RWd.below (w := v16.drew) HRA16.out hb).mono hb.size) hrt (by have := HLM.out; omega)).mono ?_
            rintro e w'' ⟨rfl, hb2⟩
            exact ⟨_, rfl, rfl, hb2⟩
          have AW : Hid (∀ w', Below v16.drew.heap.size v16.drew w' → Calls Tryd.prog 10 #[] w' fun e w'' => ∃ v, e = .returned v ∧ (VD.is (.bool true)).ok v w'' ∧ Below w'.heap.size w' w'') := Lib.hid fun w' hb => by
            have hbw : Below w.heap.size w w' := HV16.out.drew.trans (hb.mono HV16.out.size)
            refine (awake_calls w' (HD.out.below hbw HD.out.lt)).mono ?_
            rintro e w'' ⟨rfl, hb2⟩
            exact ⟨_, rfl, rfl, hb2⟩
          refine region_monos (fun ix9 => ([.is (mv ma Aa ca), .is (mv ma Ab cb), (toldVD ma), .is (.bool true), .is (.bool true), .is (.agg #[.int .i64 kk, .int .i64 zz]), .is (.agg #[.int .i64 kk, .int .i64 zz]), .is (.bool true), .is (.bool true), .is (.bool true), .is (.int .i64 (jj : Int)), .is (.int .i64 (jj : Int)), .is (.bool true), .is (.bool true), .is (.bool true), .is (.bool true), .is (.bool true), .is (.bool true)] : List VD).getD ix9 (.is undef)) [some 62, some 63, some 64, some 65, some 66, some 67, some 68, some 69, some 70, some 71, some 72, some 73, some 74, some 75, some 76, some 77, some 78, some 6] (by kernel_rfl) (by kernel_rfl) (by kernel_rfl) rfl (fun ii hii => ?_) ?_
          · match ii, hii with
            | 0, _ => exact mstep_loadS sMach rfl (mwant_none rfl) 9 rfl B9 (mcs ma Aa ca) (mcs_len HLA.out) (fun aa ww cc => (cc.orig 9 (by kernel_rfl)).trans rfl) (fun ww hb => B9K.out ww hb) rfl
            | 1, _ => exact mstep_loadS sMach rfl (mwant_none rfl) 12 rfl B12 (mcs ma Ab cb) (mcs_len HLA.out) (fun aa ww cc => (cc.orig 12 (by kernel_rfl)).trans rfl) (fun ww hb => B12K.out ww hb) rfl
            | 2, _ => exact mstep_call rfl (mwant_none rfl) _ _ _ rfl (enters_of Tryd.func18 (by kernel_rfl) rfl) (fun aa ww cc => by have e0 : aa.tmps.getD 63 undef = mv ma Ab cb := cc.slot 1 63 (by kernel_rfl) rfl; simp only [List.map_toArray, List.map_cons, List.map_nil, Act.eval, e0]; exact TC.out ww cc.below)
            | 3, _ => exact mstep_call rfl (mwant_none rfl) _ _ _ rfl (enters_of Tryd.func7 (by kernel_rfl) rfl) (fun aa ww cc => by have e0 : aa.tmps.getD 62 undef = mv ma Aa ca := cc.slot 0 62 (by kernel_rfl) rfl; obtain ⟨At, ct, e1, hrt⟩ := cc.slot 2 64 (by kernel_rfl) rfl; simp only [List.map_toArray, List.map_cons, List.map_nil, Act.eval, e0, e1]; exact IC.out ww cc.below At ct hrt)
            | 4, _ => exact mstep_copy rfl (mwant_none rfl) 65 (Or.inl rfl) 3 (by kernel_rfl) rfl rfl
            | 5, _ => exact mstep_pure rfl (mwant 4 true 66 rfl (by kernel_rfl) rfl rfl (by kernel_rfl)) (fun aa ww cc => ⟨.agg #[.int .i64 kk, .int .i64 zz], by have e0 : aa.tmps.getD 10 undef = .pointer (some ⟨B10, 0, none⟩) := (cc.orig 10 (by kernel_rfl)).trans rfl; obtain ⟨q0, q1⟩ := E10K.out _ cc.below; simp only [execOp, Act.eval, e0]; go_simp, rfl⟩)
            | 6, _ => exact mstep_pure rfl (mwant 4 true 66 rfl (by kernel_rfl) rfl rfl (by kernel_rfl)) (fun aa ww cc => ⟨.agg #[.int .i64 kk, .int .i64 zz], by have e0 : aa.tmps.getD 13 undef = .pointer (some ⟨B13, 0, none⟩) := (cc.orig 13 (by kernel_rfl)).trans rfl; obtain ⟨q0, q1⟩ := E13K.out _ cc.below; simp only [execOp, Act.eval, e0]; go_simp, rfl⟩)
            | 7, _ => exact mstep_pure rfl (mwant 4 true 66 rfl (by kernel_rfl) rfl rfl (by kernel_rfl)) (fun aa ww cc => ⟨.bool true, by have e0 : aa.tmps.getD 67 undef = .agg #[.int .i64 kk, .int .i64 zz] := cc.slot 5 67 (by kernel_rfl) rfl; have e1 : aa.tmps.getD 68 undef = .agg #[.int .i64 kk, .int .i64 zz] := cc.slot 6 68 (by kernel_rfl) rfl; simp only [execOp, Act.eval, e0, e1]; go_simp, rfl⟩)
            | 8, _ => exact mstep_pure rfl (mwant_none rfl) (fun aa ww cc => ⟨.bool true, by have e0 : aa.tmps.getD 66 undef = .bool true := cc.slot 4 66 (by kernel_rfl) rfl; have e1 : aa.tmps.getD 69 undef = .bool true := cc.slot 7 69 (by kernel_rfl) rfl; simp only [execOp, Act.eval, e0, e1]; go_simp, rfl⟩)
            | 9, _ => exact mstep_copy rfl (mwant_none rfl) 70 (Or.inl rfl) 8 (by kernel_rfl) rfl rfl
            | 10, _ => exact mstep_first rfl (mwant 9 true 71 rfl (by kernel_rfl) rfl rfl (by kernel_rfl)) 11 (Or.inl rfl) (by kernel_rfl) (fun _ _ => rfl)
            | 11, _ => exact mstep_first rfl (mwant 9 true 71 rfl (by kernel_rfl) rfl rfl (by kernel_rfl)) 14 (Or.inl rfl) (by kernel_rfl) (fun _ _ => rfl)
            | 12, _ => exact mstep_pure rfl (mwant 9 true 71 rfl (by kernel_rfl) rfl rfl (by kernel_rfl)) (fun aa ww cc => ⟨.bool true, by have e0 : aa.tmps.getD 72 undef = .int .i64 (jj : Int) := cc.slot 10 72 (by kernel_rfl) rfl; have e1 : aa.tmps.getD 73 undef = .int .i64 (jj : Int) := cc.slot 11 73 (by kernel_rfl) rfl; simp only [execOp, Act.eval, e0, e1]; go_simp, rfl⟩)
            | 13, _ => exact mstep_pure rfl (mwant_none rfl) (fun aa ww cc => ⟨.bool true, by have e0 : aa.tmps.getD 71 undef = .bool true := cc.slot 9 71 (by kernel_rfl) rfl; have e1 : aa.tmps.getD 74 undef = .bool true := cc.slot 12 74 (by kernel_rfl) rfl; simp only [execOp, Act.eval, e0, e1]; go_simp, rfl⟩)
            | 14, _ => exact mstep_copy rfl (mwant_none rfl) 75 (Or.inl rfl) 13 (by kernel_rfl) rfl rfl
            | 15, _ => exact mstep_call rfl (mwant 14 true 76 rfl (by kernel_rfl) rfl rfl (by kernel_rfl)) _ _ _ rfl (enters_of Tryd.func10 (by kernel_rfl) rfl) (fun aa ww cc => by skip; simp only [List.map_toArray, List.map_cons, List.map_nil, Act.eval]; exact (AW.out) ww cc.below)
            | 16, _ => exact mstep_pure rfl (mwant_none rfl) (fun aa ww cc => ⟨.bool true, by have e0 : aa.tmps.getD 76 undef = .bool true := cc.slot 14 76 (by kernel_rfl) rfl; have e1 : aa.tmps.getD 77 undef = .bool true := cc.slot 15 77 (by kernel_rfl) rfl; simp only [execOp, Act.eval, e0, e1]; go_simp, rfl⟩)
            | 17, _ => exact mstep_copy rfl (mwant_none rfl) 78 (Or.inr rfl) 16 (by kernel_rfl) rfl rfl
            | n + 18, h => exact absurd h (by show ¬ (n + 18 < 18); omega)
          · intro VV w5 hlen hb5 hok
            match VV, hlen with
            | [v0, v1, v2, v3, v4, v5, v6, v7, v8, v9, v10, v11, v12, v13, v14, v15, v16, v17], _ =>
              obtain rfl : v0 = mv ma Aa ca := hok 0 62 rfl
              obtain rfl : v1 = mv ma Ab cb := hok 1 63 rfl
              have p2 := hok 2 64 rfl
              obtain rfl : v3 = .bool true := hok 3 65 rfl
              obtain rfl : v4 = .bool true := hok 4 66 rfl
              obtain rfl : v5 = .agg #[.int .i64 kk, .int .i64 zz] := hok 5 67 rfl
              obtain rfl : v6 = .agg #[.int .i64 kk, .int .i64 zz] := hok 6 68 rfl
              obtain rfl : v7 = .bool true := hok 7 69 rfl
              obtain rfl : v8 = .bool true := hok 8 70 rfl
              obtain rfl : v9 = .bool true := hok 9 71 rfl
              obtain rfl : v10 = .int .i64 (jj : Int) := hok 10 72 rfl
              obtain rfl : v11 = .int .i64 (jj : Int) := hok 11 73 rfl
              obtain rfl : v12 = .bool true := hok 12 74 rfl
              obtain rfl : v13 = .bool true := hok 13 75 rfl
              obtain rfl : v14 = .bool true := hok 14 76 rfl
              obtain rfl : v15 = .bool true := hok 15 77 rfl
              obtain rfl : v16 = .bool true := hok 16 78 rfl
              obtain rfl : v17 = .bool true := hok 17 6 rfl
              have HVL : Hid (Below w.heap.size w w5) := Lib.hid (HV16.out.trans (hb5.mono HV16.out.size))
              clear hok hb5 hlen B9K B12K E10K E13K TC IC AW
              refine (by assumption : ∀ (a : Act) (w : World), Code.wp _ _ _ a w → _) _ _ ?_
              simp only [List.zip_cons_cons, List.zip_nil_right, putsL]
              go_simp
              go_wp2
              go_ret
              exact ⟨rfl, HVL.out⟩
end Go.Proofs.YtogbhbajnegfeaaDoor
