/- PvmNames: the walk. -/
import Derived.Test.YtogbhbajnegfeaaDoorPvmAwake
namespace Go.Proofs.YtogbhbajnegfeaaDoor
open Go.RowKit Nac Nac.Pvm
def memM (L : List Int) : Mach := ⟨0, [0, 0, 0, 0, 0, 0, 0, 0], L, 0, 0⟩
def RNew (w0 : World) (B1 : Nat) (n : Nat) (s : Value) (w : World) : Prop :=
  ∃ (k : Nat) (A : Option Addr) (c : Nat) (L : List Int), k ≤ n ∧ s = .int .i64 k ∧ L = List.replicate k 0 ∧ Blk w B1 (mcs (memM L) A c) ∧ OW w (B1 + 1) A c L ∧ Below w0.heap.size w0 w ∧ B1 < w.heap.size ∧ Blk w w0.heap.size (mcs zM none 0)
def RetRefM (w : World) (m : Mach) (e : Ending) (w' : World) : Prop := ∃ A c, e = .returned (mv m A c) ∧ RWd w' w'.heap.size A m.mem ∧ Below w.heap.size w w'
set_option maxHeartbeats 1000000 in
theorem refNew_calls (w : World) (words : Int) : Calls Tryd.prog 9 #[.int .i64 words] w (RetRefM w (newM (room words))) := by
  go_enter Tryd.func9, Tryd.ntmps9
  go_wp2_with ((with_reducible show wpList _ _ _ (Oper.mk _ (Op.alloc _) _ _ _ _ :: _) _ _); refine wpList_allocS _ zRef rfl rfl ?_)
  intro w1 hb1 hg1 hs1
  have HB1 := Lib.hid hb1
  have HG1 := Lib.hid hg1
  have HS1 := Lib.hid hs1
  clear hb1 hg1 hs1
  go_wp2_with ((with_reducible show wpList _ _ _ (Oper.mk _ (Op.alloc _) _ _ _ _ :: _) _ _); refine wpList_allocS _ zRef rfl rfl ?_)
  intro w2 hb2 hg2 hs2
  have HB2 := Lib.hid hb2
  have HB12 := Lib.hid (HB1.out.gn hg2)
  have HG2 : Hid (Below w.heap.size w w2) := Lib.hid (gbelow (HG1.out.trans hg2))
  have HS2 := Lib.hid hs2
  clear hb2 hg2 hs2 HB1
  obtain ⟨B1, hB1⟩ : ∃ B1, B1 = w1.heap.size := ⟨_, rfl⟩
  have k1 : B1 = w.heap.size + 1 := by rw [hB1, HS1.out]
  rw [← hB1] at HB2 HS2 ⊢
  have HK := Lib.hid k1
  clear hB1 k1 HG1 HS1
  go_wp2_with ((with_reducible show wpList _ _ _ (Oper.mk _ (Op.store 30 _ _) _ _ _ _ :: _) _ _); refine wpList_storeS sRef rfl _ _ rfl B1 (mcs zM none 0) (mcs zM none 0) rfl rfl HB2.out rfl rfl (mcs_one _ _ _) ?_)
  intro w3 hb3 hg3
  have H0 : Hid (RNew w B1 (room words) (.int .i64 (0 : Nat)) w3) := Lib.hid (by
    have hk := HK.out
    have hs := HS2.out
    exact ⟨0, none, 0, [], Nat.zero_le _, rfl, rfl, hb3, OW.nil _ _, HG2.out.grown hg3 HG2.out.size (fun j e => by injection e with e; omega), hb3.lt, HB12.out.grown hg3 (fun e => by injection e; omega)⟩)
  clear hb3 hg3 HB2 HB12 HG2 HS2
  go_wp2
  go_loopw [4] (fun s wr => RNew w B1 (room words) s wr) (fun s _ => room words - (intOf s).toNat)
  case atStart => exact H0.out
  case round =>
    obtain ⟨k, A, c, L, hk, rfl, hL, hb, ho, hbel, hlt, h0⟩ := hrel
    have HL := Lib.hid hL
    have HB := Lib.hid hb
    have HO := Lib.hid ho
    have HBW := Lib.hid hbel
    have HLT := Lib.hid hlt
    have HZ := Lib.hid h0
    have HR : Hid (room words ≤ 64) := Lib.hid (by unfold room; split; omega; split <;> omega)
    clear hL hb ho hbel hlt h0 H0
    by_cases hgo : k < room words
    · have h64 : k < 64 := by have := HR.out; omega
      have hw : (k : Int) < words := by
        unfold room at hgo
        by_cases h1 : words ≤ 0
        · rw [if_pos h1] at hgo; omega
        · rw [if_neg h1] at hgo
          by_cases h2 : 64 ≤ words
          · omega
          · rw [if_neg h2] at hgo; omega
      have c9 : wr.cell? ⟨B1, 9, none⟩ = some (.slice A k c) := by
        have := HB.out.cell (mcs_mem (m := memM L) (A := A) (c := c) rfl)
        rw [this]
        have : (memM L).mem.length = k := by rw [HL.out]; simp [memM]
        rw [this]
      have hkl : L.length = k := by rw [HL.out]; simp
      have HKL := Lib.hid hkl
      clear hkl
      have HRW : Hid (RWd (wr.alloc (.cells #[.int .i64 0] 2)) (wr.heap.size + 1) (some ⟨wr.heap.size, 0, none⟩) [0]) := Lib.hid fun _ => ⟨wr.heap.size, 0, rfl, Nat.lt_succ_self _, fun j hj => by
        have hb : Blk (wr.alloc (.cells #[.int .i64 0] 2)) wr.heap.size [.int .i64 0] := Blk.new wr _ _
        match j, hj with
        | 0, _ => exact hb.cell rfl⟩
      have HOA := Lib.hid (HO.out.alloc (.cells #[.int .i64 0] 2))
      go_wp2_with (at_builtin; refine wpList_app_words _ rfl _ _ rfl (B1 + 1) A c L k rfl HKL.out.symm HOA.out _ _ [0] 1 rfl rfl HRW.out (by rw [HKL.out]; simp; omega) (by have := HLT.out; simp; omega) ?_)
      intro A2 c2 L2 w5 HL2 ho2 hg2
      have hbW : Below w.heap.size w (wr.alloc (.cells #[.int .i64 0] 2)) := HBW.out.alloc HBW.out.size _
      have hne : ∀ g, A.map (·.block) = some g → B1 < g ∧ g < wr.heap.size := fun g hg => by have := HO.out.lt g hg; omega
      have hb5 : Blk w5 B1 (mcs (memM L) A c) := (HB.out.alloc (.cells #[.int .i64 0] 2)).grown hg2 (fun e => by have := (hne B1 e).1; omega)
      have hz5 : Blk w5 w.heap.size (mcs zM none 0) := (HZ.out.alloc (.cells #[.int .i64 0] 2)).grown hg2 (fun e => by have := (hne _ e).1; have := HK.out; omega)
      have hbel5 : Below w.heap.size w w5 := hbW.grown hg2 (by simp; have := HBW.out.size; omega) (fun j e => by have := (hne j e).1; have := HK.out; omega)
      have c9' : w5.cell? ⟨B1, 9, none⟩ = some (.slice A k c) := by
        have := hb5.cell (mcs_mem (m := memM L) (A := A) (c := c) rfl)
        rw [this]
        have : (memM L).mem.length = k := by rw [HL.out]; simp [memM]
        rw [this]
      have f9 := hb5.free 9
      have hl2 : L2 = List.replicate (k + 1) 0 := by rw [HL2.out, HL.out, List.replicate_succ']
      have hset : (mcs (memM L) A c).set 9 (.slice A2 L2.length c2) = mcs (memM L2) A2 c2 := rfl
      have HF : Hid (RNew w B1 (room words) (.int .i64 ((k + 1 : Nat) : Int)) (w5.setCell ⟨B1, 9, none⟩ (.slice A2 L2.length c2))) := Lib.hid (by
        refine ⟨k + 1, A2, c2, L2, by omega, rfl, hl2, ?_, ?_, hbel5.setCell (by have := HK.out; show w.heap.size ≤ B1; omega) _, by simpa using hb5.lt, ?_⟩
        · rw [← hset]; exact hb5.setCell 9 _
        · exact ho2.other _ _ (fun g hg e => by have := (ho2.lt g hg).1; have e' : g = B1 := e; omega)
        · exact hz5.grown (grown_setCell w5 ⟨B1, 9, none⟩ _) (fun e => by injection e with e; have := HK.out; have e' : B1 = w.heap.size := e; omega))
      clear hl2 hset hb5 hz5 hbel5 hne hbW ho2 hg2 HL2 HOA HRW c9 HKL HZ HLT HBW HO HB HL
      go_wp2
      go_roundw
      case rel => exact HF.out
      case measure => simp [intOf]; omega
    · have hkr : k = room words := by omega
      have hstop : decide ((k : Int) < words) = false ∨ decide ((k : Int) < words) = true ∧ 64 ≤ k := by
        by_cases h1 : (k : Int) < words
        · right
          refine ⟨by simpa using h1, ?_⟩
          unfold room at hkr
          split at hkr
          · omega
          · split at hkr <;> omega
        · left; simpa using h1
      have HKR := Lib.hid hkr
      clear hkr hgo
      rcases hstop with hs | ⟨hs, hs2⟩
      all_goals
        go_wp2_with (first
          | ((with_reducible show wpList _ _ _ (Oper.mk _ (Op.load 30 _) _ _ _ _ :: _) _ _); refine wpList_loadS sRef rfl _ rfl B1 _ rfl HB.out rfl ?_)
          | ((with_reducible show wpList _ _ _ (Oper.mk _ (Op.store 30 _ _) _ _ _ _ :: _) _ _); refine wpList_storeS sRef rfl _ _ rfl w.heap.size (mcs zM none 0) (mcs (memM L) A c) rfl rfl HZ.out rfl rfl (mcs_one _ _ _) ?_))
        intro w6 hb6 hg6
        have l1 : Hid ((loadVar 30 ⟨w.heap.size, 0, none⟩).run Tryd.prog w6 = .ok (mv (memM L) A c) w6) := Lib.hid (run_loadS sRef _ _ hb6 rfl)
        have HG6 := Lib.hid hg6
        clear hb6 hg6
        go_wp2
        refine bodyPost_ret (v := mv (memM L) A c) (by simp [results, Tryd.results9, asAddr, Sem.run_bind, Sem.run_pure, l1.out]) rfl ⟨A, c, ?_, ?_, HBW.out.grown HG6.out HBW.out.size (fun j e => by injection e with e; omega)⟩
        · rw [HL.out, HKR.out]; rfl
        · have := HO.out.rw.kept HG6.out (fun _ g hg => by have := (HO.out.lt g hg).1; have := HK.out; omega)
          rw [HL.out, HKR.out] at this
          exact this.mono HG6.out.size
set_option maxHeartbeats 1000000 in
theorem PvmNames_calls (w : World) (hd : Hdl w) (words : Int) : Calls Tryd.prog 3 #[.int .i64 words] w (RetTrue w) := by
  have HD := Lib.hid hd
  clear hd
  go_enter Tryd.func3, Tryd.ntmps3
  go_wp2_with fail
  refine (New_calls w words).mono ?_
  rintro e w1 ⟨A, c, rfl, hl, ho, hb⟩
  have HO := Lib.hid ho
  have HB1 := Lib.hid hb
  clear ho hb hl
  go_wp2_with fail
  refine (refNew_calls w1 words).mono ?_
  rintro e w2 ⟨A2, c2, rfl, hr2, hb2⟩
  have HR2 := Lib.hid hr2
  have HB2 := Lib.hid hb2
  have HR1 := Lib.hid ((HO.out.rw.below hb2).mono hb2.size)
  clear hr2 hb2
  have HLN : Hid ((newM (room words)).mem.length ≤ 140737488351232) := Lib.hid (by
    have : room words ≤ 64 := by unfold room; split; omega; split <;> omega
    show (List.replicate (room words) 0).length ≤ _
    rw [List.length_replicate]; omega)
  go_wp2_with fail
  refine (is_calls w2 A A2 c c2 (newM (room words)) rfl HR1.out HR2.out HLN.out).mono ?_
  rintro e w3 ⟨rfl, hb3⟩
  have HB3 : Hid (Below w.heap.size w w3) := Lib.hid (HB1.out.trans ((HB2.out.mono HB1.out.size).trans (hb3.mono (Nat.le_trans HB1.out.size HB2.out.size))))
  clear hb3
  go_wp2_with fail
  refine (awake_calls w3 (HD.out.below HB3.out HD.out.lt)).mono ?_
  rintro e w4 ⟨rfl, hb4⟩
  have HB4 : Hid (Below w.heap.size w w4) := Lib.hid (HB3.out.trans (hb4.mono HB3.out.size))
  clear hb4
  go_wp2
  go_ret
  exact ⟨rfl, HB4.out⟩
end Go.Proofs.YtogbhbajnegfeaaDoor
