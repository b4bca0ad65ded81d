/- pvm's laws: awake. -/
import Derived.Test.YtogbhbajnegfeaaDoorPvmTold
namespace Go.Proofs.YtogbhbajnegfeaaDoor
open Go.RowKit Nac Nac.Pvm
theorem rin_two (w : World) (i j : Ins) (hi : i.fits) (hj : j.fits) : RIn (w.alloc (.cells #[.int .u8 i.op, .int .u8 i.a, .int .u8 i.b, .int .u8 i.c, .int .u8 j.op, .int .u8 j.a, .int .u8 j.b, .int .u8 j.c] 56)) (w.heap.size + 1) (some ⟨w.heap.size, 0, none⟩) [i, j] := fun _ => by
  refine ⟨w.heap.size, 0, rfl, Nat.lt_succ_self _, fun k hk => ?_⟩
  have hb : Blk (w.alloc (.cells #[.int .u8 i.op, .int .u8 i.a, .int .u8 i.b, .int .u8 i.c, .int .u8 j.op, .int .u8 j.a, .int .u8 j.b, .int .u8 j.c] 56)) w.heap.size [.int .u8 i.op, .int .u8 i.a, .int .u8 i.b, .int .u8 i.c, .int .u8 j.op, .int .u8 j.a, .int .u8 j.b, .int .u8 j.c] := Blk.new w _ _
  match k, hk with
  | 0, _ => exact ⟨hb.cell rfl, hb.cell rfl, hb.cell rfl, hb.cell rfl, hi⟩
  | 1, _ => exact ⟨hb.cell rfl, hb.cell rfl, hb.cell rfl, hb.cell rfl, hj⟩
theorem aw1 : stepM [⟨1, 0, 5, 0⟩, ⟨0, 0, 0, 0⟩] (newM (room 0)) = (⟨1, [5, 0, 0, 0, 0, 0, 0, 0], [], 0, 0⟩, 0, 0) := by kernel_rfl
theorem aw2 : stepM [⟨6, 0, 0, 1⟩, ⟨0, 0, 0, 0⟩] (newM (room 0)) = (⟨0, [0, 0, 0, 0, 0, 0, 0, 0], [], 2, 80⟩, 3, 80) := by kernel_rfl
theorem aw3 : runM [⟨17, 7, 0, 0⟩, ⟨0, 0, 0, 0⟩] (9 : Int).toNat (newM (room 0), 0, 0) = ((⟨1, [0, 0, 0, 0, 0, 0, 0, 0], [], 0, 0⟩, 1, 7), 1) := by kernel_rfl
set_option maxRecDepth 100000 in
set_option maxHeartbeats 2000000 in
theorem awake_calls (w : World) (hd : Hdl w) : Calls Tryd.prog 10 #[] w (RetTrue w) := by
  have HD := Lib.hid hd
  have HB0 : Hid (Below w.heap.size w w) := Lib.hid (Below.refl _ _)
  clear hd
  go_enter Tryd.func10, Tryd.ntmps10
  go_wp2_with fail
  obtain ⟨u1, hu1⟩ : ∃ u1, u1 = w.alloc (.cells #[.int .u8 1, .int .u8 0, .int .u8 5, .int .u8 0, .int .u8 0, .int .u8 0, .int .u8 0, .int .u8 0] 56) := ⟨_, rfl⟩
  have hbu : Below w.heap.size w u1 := by rw [hu1]; exact (Below.refl _ _).alloc (Nat.le_refl _) _
  have hri : RIn u1 (w.heap.size + 1) (some ⟨w.heap.size, 0, none⟩) [⟨1, 0, 5, 0⟩, ⟨0, 0, 0, 0⟩] := by rw [hu1]; exact rin_two w ⟨1, 0, 5, 0⟩ ⟨0, 0, 0, 0⟩ ⟨by decide, by decide, by decide, by decide⟩ ⟨by decide, by decide, by decide, by decide⟩
  have hsu : u1.heap.size = w.heap.size + 1 := by rw [hu1]; simp
  rw [← hu1]
  obtain ⟨ib1, hib⟩ : ∃ ib, ib = w.heap.size := ⟨_, rfl⟩
  rw [← hib] at hri ⊢
  rw [← hib] at hsu
  have HI1 := Lib.hid hri
  have HSU1 := Lib.hid hsu
  have HC1 : Hid (Below w.heap.size w u1) := Lib.hid (HB0.out.trans (hbu.mono HB0.out.size))
  clear hu1 hib hri hsu
  refine (New_calls u1 0).mono ?_
  rintro e v1 ⟨A1, c1, rfl, hl1, ho1, hb1⟩
  have HO1 := Lib.hid ho1
  have HN1 := Lib.hid hb1
  clear hb1 ho1 hl1
  go_wp2_with fail
  have HE1 : Hid (Below w.heap.size w v1) := Lib.hid (HC1.out.trans (HN1.out.mono HC1.out.size))
  refine (Step_calls v1 (HD.out.below HE1.out HD.out.lt) A1 c1 (newM (room 0)) rfl HO1.out.rw (by decide) (some ⟨ib1, 0, none⟩) 2 [⟨1, 0, 5, 0⟩, ⟨0, 0, 0, 0⟩] ((HI1.out.below (HN1.out.mono (by rw [HSU1.out]; exact Nat.le_refl _))).mono (Nat.le_trans (by rw [← HSU1.out]; exact Nat.le_refl _) HN1.out.size)) (by decide)).mono ?_
  rintro e s1 ⟨X1, x1, rfl, hl1, ho1, hs1⟩
  have HF1 : Hid (Below w.heap.size w s1) := Lib.hid (HE1.out.trans (hs1.mono HE1.out.size))
  clear hs1 ho1 hl1 HO1 HN1 HI1 HSU1 HC1 HE1 HB0 hbu
  rw [aw1]
  go_wp2_with ((with_reducible show wpList _ _ _ (Oper.mk _ (Op.alloc 27) _ _ _ _ :: _) _ _); refine wpList_allocS _ zMach rfl rfl ?_)
  intro a1 hba hga hsa
  have HBA := Lib.hid hba
  have HGA := Lib.hid (gbelow hga)
  have HH1 : Hid (Below w.heap.size w a1) := Lib.hid (HF1.out.trans (HGA.out.mono HF1.out.size))
  obtain ⟨ma1, hma⟩ : ∃ ma, ma = s1.heap.size := ⟨_, rfl⟩
  rw [← hma] at HBA hsa ⊢
  have HSA := Lib.hid hsa
  have HMA1 : Hid (w.heap.size ≤ ma1) := Lib.hid (by rw [hma]; exact HF1.out.size)
  clear hba hga hsa HGA HF1 hma
  go_wp2_with ((with_reducible show wpList _ _ _ (Oper.mk _ (Op.alloc 38) _ _ _ _ :: _) _ _); refine wpList_allocS _ zEv rfl rfl ?_)
  intro b1 hbb hgb hsb
  have HBB := Lib.hid hbb
  have HGB := Lib.hid (gbelow hgb)
  have HBA2 := Lib.hid (HBA.out.below HGB.out HBA.out.lt)
  have HJ1 : Hid (Below w.heap.size w b1) := Lib.hid (HH1.out.trans (HGB.out.mono HH1.out.size))
  obtain ⟨ea1, hea⟩ : ∃ ea, ea = a1.heap.size := ⟨_, rfl⟩
  rw [← hea] at HBB hsb ⊢
  have HEA : Hid (ma1 < ea1) := Lib.hid (by rw [hea]; exact HBA.out.lt)
  clear hbb hgb hsb HGB HH1 hea HBA HSA
  go_wp2_with ((with_reducible show wpList _ _ _ (Oper.mk _ (Op.store 27 _ _) _ _ _ _ :: _) _ _); refine wpList_storeS sMach rfl _ _ rfl ma1 (mcs zM none 0) (mcs ⟨1, [5, 0, 0, 0, 0, 0, 0, 0], [], 0, 0⟩ X1 x1) rfl rfl HBA2.out rfl rfl (mcs_one _ _ _) ?_)
  intro d1 hbd hgd
  have HBD := Lib.hid hbd
  have HBB2 := Lib.hid (HBB.out.grown hgd (fun e => by injection e with e; have := HEA.out; omega))
  have HK1 : Hid (Below w.heap.size w d1) := Lib.hid (HJ1.out.grown hgd HJ1.out.size (fun j e => by injection e with e; have := HMA1.out; omega))
  clear hbd hgd HBB HBA2 HJ1
  go_wp2_with ((with_reducible show wpList _ _ _ (Oper.mk _ (Op.store 38 _ _) _ _ _ _ :: _) _ _); refine wpList_storeS sEv rfl _ _ rfl ea1 (ecs 0 0) (ecs 0 0) rfl rfl HBB2.out rfl rfl (ecs_one _ _) ?_)
  intro f1 hbf hgf
  have M1_f1 := Lib.hid (HBD.out.grown hgf (fun e => by injection e with e; have := HEA.out; omega))
  have E1_f1 := Lib.hid hbf
  have HB1 : Hid (Below w.heap.size w f1) := Lib.hid (HK1.out.grown hgf HK1.out.size (fun j e => by injection e with e; have := HMA1.out; have := HEA.out; omega))
  clear hbf hgf HBD HBB2 HK1 HEA HMA1 
  go_wp2_with fail
  obtain ⟨u2, hu2⟩ : ∃ u2, u2 = f1.alloc (.cells #[.int .u8 6, .int .u8 0, .int .u8 0, .int .u8 1, .int .u8 0, .int .u8 0, .int .u8 0, .int .u8 0] 56) := ⟨_, rfl⟩
  have hbu : Below f1.heap.size f1 u2 := by rw [hu2]; exact (Below.refl _ _).alloc (Nat.le_refl _) _
  have hri : RIn u2 (f1.heap.size + 1) (some ⟨f1.heap.size, 0, none⟩) [⟨6, 0, 0, 1⟩, ⟨0, 0, 0, 0⟩] := by rw [hu2]; exact rin_two f1 ⟨6, 0, 0, 1⟩ ⟨0, 0, 0, 0⟩ ⟨by decide, by decide, by decide, by decide⟩ ⟨by decide, by decide, by decide, by decide⟩
  have hsu : u2.heap.size = f1.heap.size + 1 := by rw [hu2]; simp
  rw [← hu2]
  obtain ⟨ib2, hib⟩ : ∃ ib, ib = f1.heap.size := ⟨_, rfl⟩
  rw [← hib] at hri ⊢
  rw [← hib] at hsu
  have HI2 := Lib.hid hri
  have HSU2 := Lib.hid hsu
  have HC2 : Hid (Below w.heap.size w u2) := Lib.hid (HB1.out.trans (hbu.mono HB1.out.size))
  clear hu2 hib hri hsu
  refine (New_calls u2 0).mono ?_
  rintro e v2 ⟨A2, c2, rfl, hl2, ho2, hb2⟩
  have HO2 := Lib.hid ho2
  have HN2 := Lib.hid hb2
  clear hb2 ho2 hl2
  go_wp2_with fail
  have HE2 : Hid (Below w.heap.size w v2) := Lib.hid (HC2.out.trans (HN2.out.mono HC2.out.size))
  refine (Step_calls v2 (HD.out.below HE2.out HD.out.lt) A2 c2 (newM (room 0)) rfl HO2.out.rw (by decide) (some ⟨ib2, 0, none⟩) 2 [⟨6, 0, 0, 1⟩, ⟨0, 0, 0, 0⟩] ((HI2.out.below (HN2.out.mono (by rw [HSU2.out]; exact Nat.le_refl _))).mono (Nat.le_trans (by rw [← HSU2.out]; exact Nat.le_refl _) HN2.out.size)) (by decide)).mono ?_
  rintro e s2 ⟨X2, x2, rfl, hl2, ho2, hs2⟩
  have M1_u2 := Lib.hid (M1_f1.out.below hbu M1_f1.out.lt)
  have E1_u2 := Lib.hid (E1_f1.out.below hbu E1_f1.out.lt)
  have M1_v2 := Lib.hid (M1_u2.out.below HN2.out M1_u2.out.lt)
  have E1_v2 := Lib.hid (E1_u2.out.below HN2.out E1_u2.out.lt)
  have M1_s2 := Lib.hid (M1_v2.out.below hs2 M1_v2.out.lt)
  have E1_s2 := Lib.hid (E1_v2.out.below hs2 E1_v2.out.lt)
  have HF2 : Hid (Below w.heap.size w s2) := Lib.hid (HE2.out.trans (hs2.mono HE2.out.size))
  clear hs2 ho2 hl2 HO2 HN2 HI2 HSU2 HC2 HE2 HB1 hbu
  rw [aw2]
  go_wp2_with ((with_reducible show wpList _ _ _ (Oper.mk _ (Op.alloc 27) _ _ _ _ :: _) _ _); refine wpList_allocS _ zMach rfl rfl ?_)
  intro a2 hba hga hsa
  have HBA := Lib.hid hba
  have HGA := Lib.hid (gbelow hga)
  have M1_a2 := Lib.hid (M1_s2.out.below HGA.out M1_s2.out.lt)
  have E1_a2 := Lib.hid (E1_s2.out.below HGA.out E1_s2.out.lt)
  have HH2 : Hid (Below w.heap.size w a2) := Lib.hid (HF2.out.trans (HGA.out.mono HF2.out.size))
  obtain ⟨ma2, hma⟩ : ∃ ma, ma = s2.heap.size := ⟨_, rfl⟩
  rw [← hma] at HBA hsa ⊢
  have HSA := Lib.hid hsa
  have HMM2 := Lib.hid hma
  have HMA2 : Hid (w.heap.size ≤ ma2) := Lib.hid (by rw [hma]; exact HF2.out.size)
  clear hba hga hsa HGA HF2 hma
  go_wp2_with ((with_reducible show wpList _ _ _ (Oper.mk _ (Op.alloc 38) _ _ _ _ :: _) _ _); refine wpList_allocS _ zEv rfl rfl ?_)
  intro b2 hbb hgb hsb
  have HBB := Lib.hid hbb
  have HGB := Lib.hid (gbelow hgb)
  have HBA2 := Lib.hid (HBA.out.below HGB.out HBA.out.lt)
  have M1_b2 := Lib.hid (M1_a2.out.below HGB.out M1_a2.out.lt)
  have E1_b2 := Lib.hid (E1_a2.out.below HGB.out E1_a2.out.lt)
  have HJ2 : Hid (Below w.heap.size w b2) := Lib.hid (HH2.out.trans (HGB.out.mono HH2.out.size))
  obtain ⟨ea2, hea⟩ : ∃ ea, ea = a2.heap.size := ⟨_, rfl⟩
  rw [← hea] at HBB hsb ⊢
  have HEA : Hid (ma2 < ea2) := Lib.hid (by rw [hea]; exact HBA.out.lt)
  have M1_n2 : Hid (ma1 < ma2) := Lib.hid (by rw [HMM2.out]; exact M1_s2.out.lt)
  have E1_n2 : Hid (ea1 < ma2) := Lib.hid (by rw [HMM2.out]; exact E1_s2.out.lt)
  clear hbb hgb hsb HGB HH2 hea HBA HSA
  go_wp2_with ((with_reducible show wpList _ _ _ (Oper.mk _ (Op.store 27 _ _) _ _ _ _ :: _) _ _); refine wpList_storeS sMach rfl _ _ rfl ma2 (mcs zM none 0) (mcs ⟨0, [0, 0, 0, 0, 0, 0, 0, 0], [], 2, 80⟩ X2 x2) rfl rfl HBA2.out rfl rfl (mcs_one _ _ _) ?_)
  intro d2 hbd hgd
  have HBD := Lib.hid hbd
  have HBB2 := Lib.hid (HBB.out.grown hgd (fun e => by injection e with e; have := HEA.out; omega))
  have HK2 : Hid (Below w.heap.size w d2) := Lib.hid (HJ2.out.grown hgd HJ2.out.size (fun j e => by injection e with e; have := HMA2.out; omega))
  have M1_d2 := Lib.hid (M1_b2.out.grown hgd (fun e => by injection e with e; have := M1_n2.out; omega))
  have E1_d2 := Lib.hid (E1_b2.out.grown hgd (fun e => by injection e with e; have := E1_n2.out; omega))
  clear hbd hgd HBB HBA2 HJ2
  go_wp2_with ((with_reducible show wpList _ _ _ (Oper.mk _ (Op.store 38 _ _) _ _ _ _ :: _) _ _); refine wpList_storeS sEv rfl _ _ rfl ea2 (ecs 0 0) (ecs 3 80) rfl rfl HBB2.out rfl rfl (ecs_one _ _) ?_)
  intro f2 hbf hgf
  have M2_f2 := Lib.hid (HBD.out.grown hgf (fun e => by injection e with e; have := HEA.out; omega))
  have E2_f2 := Lib.hid hbf
  have HB2 : Hid (Below w.heap.size w f2) := Lib.hid (HK2.out.grown hgf HK2.out.size (fun j e => by injection e with e; have := HMA2.out; have := HEA.out; omega))
  have M1_f2 := Lib.hid (M1_d2.out.grown hgf (fun e => by injection e with e; have := M1_n2.out; have := HEA.out; omega))
  have E1_f2 := Lib.hid (E1_d2.out.grown hgf (fun e => by injection e with e; have := E1_n2.out; have := HEA.out; omega))
  clear HMM2 hbf hgf HBD HBB2 HK2 HEA HMA2 M1_u2 M1_v2 M1_s2 M1_a2 M1_b2 M1_d2 M1_n2 E1_u2 E1_v2 E1_s2 E1_a2 E1_b2 E1_d2 E1_n2
  go_wp2_with fail
  obtain ⟨u3, hu3⟩ : ∃ u3, u3 = f2.alloc (.cells #[.int .u8 17, .int .u8 7, .int .u8 0, .int .u8 0, .int .u8 0, .int .u8 0, .int .u8 0, .int .u8 0] 56) := ⟨_, rfl⟩
  have hbu : Below f2.heap.size f2 u3 := by rw [hu3]; exact (Below.refl _ _).alloc (Nat.le_refl _) _
  have hri : RIn u3 (f2.heap.size + 1) (some ⟨f2.heap.size, 0, none⟩) [⟨17, 7, 0, 0⟩, ⟨0, 0, 0, 0⟩] := by rw [hu3]; exact rin_two f2 ⟨17, 7, 0, 0⟩ ⟨0, 0, 0, 0⟩ ⟨by decide, by decide, by decide, by decide⟩ ⟨by decide, by decide, by decide, by decide⟩
  have hsu : u3.heap.size = f2.heap.size + 1 := by rw [hu3]; simp
  rw [← hu3]
  obtain ⟨ib3, hib⟩ : ∃ ib, ib = f2.heap.size := ⟨_, rfl⟩
  rw [← hib] at hri ⊢
  rw [← hib] at hsu
  have HI3 := Lib.hid hri
  have HSU3 := Lib.hid hsu
  have HC3 : Hid (Below w.heap.size w u3) := Lib.hid (HB2.out.trans (hbu.mono HB2.out.size))
  clear hu3 hib hri hsu
  refine (New_calls u3 0).mono ?_
  rintro e v3 ⟨A3, c3, rfl, hl3, ho3, hb3⟩
  have HO3 := Lib.hid ho3
  have HN3 := Lib.hid hb3
  clear hb3 ho3 hl3
  go_wp2_with fail
  have HE3 : Hid (Below w.heap.size w v3) := Lib.hid (HC3.out.trans (HN3.out.mono HC3.out.size))
  refine (Run_calls v3 (HD.out.below HE3.out HD.out.lt) A3 c3 (newM (room 0)) rfl HO3.out.rw (by decide) (some ⟨ib3, 0, none⟩) 2 [⟨17, 7, 0, 0⟩, ⟨0, 0, 0, 0⟩] ((HI3.out.below (HN3.out.mono (by rw [HSU3.out]; exact Nat.le_refl _))).mono (Nat.le_trans (by rw [← HSU3.out]; exact Nat.le_refl _) HN3.out.size)) (by decide) 9 (by decide)).mono ?_
  rintro e s3 ⟨X3, x3, rfl, hl3, ho3, hs3⟩
  have M1_u3 := Lib.hid (M1_f2.out.below hbu M1_f2.out.lt)
  have E1_u3 := Lib.hid (E1_f2.out.below hbu E1_f2.out.lt)
  have M2_u3 := Lib.hid (M2_f2.out.below hbu M2_f2.out.lt)
  have E2_u3 := Lib.hid (E2_f2.out.below hbu E2_f2.out.lt)
  have M1_v3 := Lib.hid (M1_u3.out.below HN3.out M1_u3.out.lt)
  have E1_v3 := Lib.hid (E1_u3.out.below HN3.out E1_u3.out.lt)
  have M2_v3 := Lib.hid (M2_u3.out.below HN3.out M2_u3.out.lt)
  have E2_v3 := Lib.hid (E2_u3.out.below HN3.out E2_u3.out.lt)
  have M1_s3 := Lib.hid (M1_v3.out.below hs3 M1_v3.out.lt)
  have E1_s3 := Lib.hid (E1_v3.out.below hs3 E1_v3.out.lt)
  have M2_s3 := Lib.hid (M2_v3.out.below hs3 M2_v3.out.lt)
  have E2_s3 := Lib.hid (E2_v3.out.below hs3 E2_v3.out.lt)
  have HF3 : Hid (Below w.heap.size w s3) := Lib.hid (HE3.out.trans (hs3.mono HE3.out.size))
  clear hs3 ho3 hl3 HO3 HN3 HI3 HSU3 HC3 HE3 HB2 hbu
  rw [aw3]
  go_wp2_with ((with_reducible show wpList _ _ _ (Oper.mk _ (Op.alloc 27) _ _ _ _ :: _) _ _); refine wpList_allocS _ zMach rfl rfl ?_)
  intro a3 hba hga hsa
  have HBA := Lib.hid hba
  have HGA := Lib.hid (gbelow hga)
  have M1_a3 := Lib.hid (M1_s3.out.below HGA.out M1_s3.out.lt)
  have E1_a3 := Lib.hid (E1_s3.out.below HGA.out E1_s3.out.lt)
  have M2_a3 := Lib.hid (M2_s3.out.below HGA.out M2_s3.out.lt)
  have E2_a3 := Lib.hid (E2_s3.out.below HGA.out E2_s3.out.lt)
  have HH3 : Hid (Below w.heap.size w a3) := Lib.hid (HF3.out.trans (HGA.out.mono HF3.out.size))
  obtain ⟨ma3, hma⟩ : ∃ ma, ma = s3.heap.size := ⟨_, rfl⟩
  rw [← hma] at HBA hsa ⊢
  have HSA := Lib.hid hsa
  have HMM3 := Lib.hid hma
  have HMA3 : Hid (w.heap.size ≤ ma3) := Lib.hid (by rw [hma]; exact HF3.out.size)
  clear hba hga hsa HGA HF3 hma
  go_wp2_with ((with_reducible show wpList _ _ _ (Oper.mk _ (Op.alloc 38) _ _ _ _ :: _) _ _); refine wpList_allocS _ zEv rfl rfl ?_)
  intro b3 hbb hgb hsb
  have HBB := Lib.hid hbb
  have HGB := Lib.hid (gbelow hgb)
  have HBA2 := Lib.hid (HBA.out.below HGB.out HBA.out.lt)
  have M1_b3 := Lib.hid (M1_a3.out.below HGB.out M1_a3.out.lt)
  have E1_b3 := Lib.hid (E1_a3.out.below HGB.out E1_a3.out.lt)
  have M2_b3 := Lib.hid (M2_a3.out.below HGB.out M2_a3.out.lt)
  have E2_b3 := Lib.hid (E2_a3.out.below HGB.out E2_a3.out.lt)
  have HJ3 : Hid (Below w.heap.size w b3) := Lib.hid (HH3.out.trans (HGB.out.mono HH3.out.size))
  obtain ⟨ea3, hea⟩ : ∃ ea, ea = a3.heap.size := ⟨_, rfl⟩
  rw [← hea] at HBB hsb ⊢
  have HEA : Hid (ma3 < ea3) := Lib.hid (by rw [hea]; exact HBA.out.lt)
  have M1_n3 : Hid (ma1 < ma3) := Lib.hid (by rw [HMM3.out]; exact M1_s3.out.lt)
  have E1_n3 : Hid (ea1 < ma3) := Lib.hid (by rw [HMM3.out]; exact E1_s3.out.lt)
  have M2_n3 : Hid (ma2 < ma3) := Lib.hid (by rw [HMM3.out]; exact M2_s3.out.lt)
  have E2_n3 : Hid (ea2 < ma3) := Lib.hid (by rw [HMM3.out]; exact E2_s3.out.lt)
  clear hbb hgb hsb HGB HH3 hea HBA HSA
  go_wp2_with ((with_reducible show wpList _ _ _ (Oper.mk _ (Op.store 27 _ _) _ _ _ _ :: _) _ _); refine wpList_storeS sMach rfl _ _ rfl ma3 (mcs zM none 0) (mcs ⟨1, [0, 0, 0, 0, 0, 0, 0, 0], [], 0, 0⟩ X3 x3) rfl rfl HBA2.out rfl rfl (mcs_one _ _ _) ?_)
  intro d3 hbd hgd
  have HBD := Lib.hid hbd
  have HBB2 := Lib.hid (HBB.out.grown hgd (fun e => by injection e with e; have := HEA.out; omega))
  have HK3 : Hid (Below w.heap.size w d3) := Lib.hid (HJ3.out.grown hgd HJ3.out.size (fun j e => by injection e with e; have := HMA3.out; omega))
  have M1_d3 := Lib.hid (M1_b3.out.grown hgd (fun e => by injection e with e; have := M1_n3.out; omega))
  have E1_d3 := Lib.hid (E1_b3.out.grown hgd (fun e => by injection e with e; have := E1_n3.out; omega))
  have M2_d3 := Lib.hid (M2_b3.out.grown hgd (fun e => by injection e with e; have := M2_n3.out; omega))
  have E2_d3 := Lib.hid (E2_b3.out.grown hgd (fun e => by injection e with e; have := E2_n3.out; omega))
  clear hbd hgd HBB HBA2 HJ3
  go_wp2_with ((with_reducible show wpList _ _ _ (Oper.mk _ (Op.store 38 _ _) _ _ _ _ :: _) _ _); refine wpList_storeS sEv rfl _ _ rfl ea3 (ecs 0 0) (ecs 1 7) rfl rfl HBB2.out rfl rfl (ecs_one _ _) ?_)
  intro f3 hbf hgf
  have M3_f3 := Lib.hid (HBD.out.grown hgf (fun e => by injection e with e; have := HEA.out; omega))
  have E3_f3 := Lib.hid hbf
  have HB3 : Hid (Below w.heap.size w f3) := Lib.hid (HK3.out.grown hgf HK3.out.size (fun j e => by injection e with e; have := HMA3.out; have := HEA.out; omega))
  have M1_f3 := Lib.hid (M1_d3.out.grown hgf (fun e => by injection e with e; have := M1_n3.out; have := HEA.out; omega))
  have E1_f3 := Lib.hid (E1_d3.out.grown hgf (fun e => by injection e with e; have := E1_n3.out; have := HEA.out; omega))
  have M2_f3 := Lib.hid (M2_d3.out.grown hgf (fun e => by injection e with e; have := M2_n3.out; have := HEA.out; omega))
  have E2_f3 := Lib.hid (E2_d3.out.grown hgf (fun e => by injection e with e; have := E2_n3.out; have := HEA.out; omega))
  clear HMM3 hbf hgf HBD HBB2 HK3 HEA HMA3 M1_u3 M1_v3 M1_s3 M1_a3 M1_b3 M1_d3 M1_n3 E1_u3 E1_v3 E1_s3 E1_a3 E1_b3 E1_d3 E1_n3 M2_u3 M2_v3 M2_s3 M2_a3 M2_b3 M2_d3 M2_n3 E2_u3 E2_v3 E2_s3 E2_a3 E2_b3 E2_d3 E2_n3
  have x1 : f3.cell? ⟨ma1, 1, none⟩ = some (.int .i64 5) := M1_f3.out.cell rfl
  have x2 : f3.cell? ⟨ma1, 0, none⟩ = some (.int .i64 1) := M1_f3.out.cell rfl
  have x3 : f3.cell? ⟨ma2, 11, none⟩ = some (.int .i64 80) := M2_f3.out.cell rfl
  have x4 : f3.cell? ⟨ma2, 10, none⟩ = some (.int .i64 2) := M2_f3.out.cell rfl
  have x5 : f3.cell? ⟨ma3, 0, none⟩ = some (.int .i64 1) := M3_f3.out.cell rfl
  have y1 : f3.cell? ⟨ea1, 0, none⟩ = some (.int .i64 0) := E1_f3.out.cell rfl
  have y2 : f3.cell? ⟨ea1, 1, none⟩ = some (.int .i64 0) := E1_f3.out.cell rfl
  have y3 : f3.cell? ⟨ea2, 0, none⟩ = some (.int .i64 3) := E2_f3.out.cell rfl
  have y4 : f3.cell? ⟨ea2, 1, none⟩ = some (.int .i64 80) := E2_f3.out.cell rfl
  have y5 : f3.cell? ⟨ea3, 0, none⟩ = some (.int .i64 1) := E3_f3.out.cell rfl
  have y6 : f3.cell? ⟨ea3, 1, none⟩ = some (.int .i64 7) := E3_f3.out.cell rfl
  go_wp2
  go_ret
  exact ⟨rfl, HB3.out⟩
end Go.Proofs.YtogbhbajnegfeaaDoor
