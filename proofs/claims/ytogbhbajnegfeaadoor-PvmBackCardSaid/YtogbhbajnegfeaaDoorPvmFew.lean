/- pvm: few, short. -/
import Derived.Test.YtogbhbajnegfeaaDoorPvmNew
namespace Go.Proofs.YtogbhbajnegfeaaDoor
open Go.RowKit Nac Nac.Pvm
def fewM (m : Mach) : Mach := { m with mem := m.mem.take 66 }
def RetFew (w : World) (m : Mach) (A : Option Addr) (c : Nat) (e : Ending) (w' : World) : Prop := e = .returned (mv (fewM m) A c) ∧ Below w.heap.size w w'
set_option maxHeartbeats 1000000 in
theorem few_calls (w : World) (A : Option Addr) (c : Nat) (m : Mach) (hl : m.r.length = 8) (hA : m.mem.length ≠ 0 → A ≠ none) (hc : m.mem.length ≤ c) (hm8 : m.mem.length ≤ 140737488351232) : Calls Tryd.prog 12 #[mv m A c] w (RetFew w m A c) := by
  have HL := Lib.hid hl
  have HC := Lib.hid hc
  clear hl hc
  obtain ⟨n, hn⟩ : ∃ n, n = m.mem.length := ⟨_, rfl⟩
  have hf : (mcs (fewM m) A c) = (mcs m A c).set 9 (.slice A (min 66 n) c) := by
    unfold mcs fewM
    simp only
    rw [List.set_cons_succ, List.set_append_right _ _ (by simp [HL.out])]
    simp [HL.out, hn]
  have HF := Lib.hid hf
  have HNA := Lib.hid hA
  rw [← hn] at HC hm8 HNA
  have HNN := Lib.hid hn
  clear hf hA hn
  go_enter Tryd.func12, Tryd.ntmps12
  go_wp2_with ((with_reducible show wpList _ _ _ (Oper.mk _ (Op.box _ _) _ _ _ _ :: _) _ _); refine wpList_boxS rfl _ rfl (mcs m A c) rfl ?_)
  intro w1 hb1 hg1 hs1
  have HB1 := Lib.hid hb1
  have HG1 := Lib.hid hg1
  have HS1 := Lib.hid hs1
  clear hb1 hg1 hs1
  go_wp2_with ((with_reducible show wpList _ _ _ (Oper.mk _ (Op.alloc 27) _ _ _ _ :: _) _ _); refine wpList_allocS _ zMach rfl rfl ?_)
  intro w2 hb2 hg2 hs2
  obtain ⟨r1, hr1⟩ : ∃ r1, r1 = w1.heap.size := ⟨_, rfl⟩
  have k1 : r1 = w.heap.size + 1 := by rw [hr1, HS1.out]
  rw [← hr1] at hb2 ⊢
  have hb12 := HB1.out.gn hg2
  have c9 : w2.cell? ⟨w.heap.size, 9, none⟩ = some (.slice A n c) := by have := hb12.cell (mcs_mem (m := m) (A := A) (c := c) HL.out); rw [this, HNN.out]
  have f9 := hb12.free 9
  have HR1 := Lib.hid k1
  have HB1' := Lib.hid hb12
  have HB2 := Lib.hid hb2
  have HBW : Hid (Below w.heap.size w w2) := Lib.hid (gbelow (HG1.out.trans hg2))
  clear hb2 hg2 hs2 hr1 HB1 HG1 HS1 k1 hb12
  by_cases hbig : 66 < n
  · have hcc : 66 ≤ c := by have := HC.out; omega
    have hcc' : 66 < c := by have := HC.out; omega
    obtain ⟨ad, rfl⟩ : ∃ ad, A = some ad := by
      cases A with
      | none => exact absurd rfl (HNA.out (by omega))
      | some ad => exact ⟨_, rfl⟩
    have hb4 : Blk (w2.setCell ⟨w.heap.size, 9, none⟩ (.slice (some ad) 66 c)) w.heap.size (mcs (fewM m) (some ad) c) := by
      have := HB1'.out.setCell 9 (.slice (some ad) 66 c)
      rw [HF.out, (by omega : min 66 n = 66)]
      exact this
    have hr1 := HR1.out
    have HB4 := Lib.hid hb4
    have HB5 := Lib.hid (HB2.out.grown (grown_setCell w2 ⟨w.heap.size, 9, none⟩ (.slice (some ad) 66 c)) (fun e => by injection e with e; have e' : w.heap.size = r1 := e; omega))
    have HBW5 : Hid (Below w.heap.size w (w2.setCell ⟨w.heap.size, 9, none⟩ (.slice (some ad) 66 c))) := Lib.hid (HBW.out.setCell (Nat.le_refl _) _)
    have HLF : Hid ((fewM m).r.length = 8) := Lib.hid HL.out
    clear hb4 hr1
    go_wp2_with (first
      | ((with_reducible show wpList _ _ _ (Oper.mk _ (Op.load 27 _) _ _ _ _ :: _) _ _); refine wpList_loadS sMach rfl _ rfl w.heap.size _ rfl HB4.out (mcs_len HLF.out) ?_)
      | ((with_reducible show wpList _ _ _ (Oper.mk _ (Op.store 27 _ _) _ _ _ _ :: _) _ _); refine wpList_storeS sMach rfl _ _ rfl r1 (mcs zM none 0) (mcs (fewM m) (some ad) c) rfl rfl HB5.out rfl (mcs_len HLF.out) (mcs_one _ _ _) ?_))
    intro w3 hb3 hg3
    have l1 : Hid ((loadVar 27 ⟨r1, 0, none⟩).run Tryd.prog w3 = .ok (mv (fewM m) (some ad) c) w3) := Lib.hid (run_loadS sMach _ _ hb3 (mcs_len HLF.out))
    have HG3 := Lib.hid hg3
    clear hb3 hg3
    go_wp2
    have hr1 := HR1.out
    exact bodyPost_ret (v := mv (fewM m) (some ad) c) (by simp [results, Tryd.results12, asAddr, Sem.run_bind, Sem.run_pure, l1.out]) rfl ⟨rfl, HBW5.out.grown HG3.out HBW5.out.size (fun j e => by injection e with e; omega)⟩
  · have HLF : Hid ((m).r.length = 8) := Lib.hid HL.out
    go_wp2_with (first
      | ((with_reducible show wpList _ _ _ (Oper.mk _ (Op.load 27 _) _ _ _ _ :: _) _ _); refine wpList_loadS sMach rfl _ rfl w.heap.size _ rfl HB1'.out (mcs_len HLF.out) ?_)
      | ((with_reducible show wpList _ _ _ (Oper.mk _ (Op.store 27 _ _) _ _ _ _ :: _) _ _); refine wpList_storeS sMach rfl _ _ rfl r1 (mcs zM none 0) (mcs m A c) rfl rfl HB2.out rfl (mcs_len HLF.out) (mcs_one _ _ _) ?_))
    intro w3 hb3 hg3
    have l1 : Hid ((loadVar 27 ⟨r1, 0, none⟩).run Tryd.prog w3 = .ok (mv m A c) w3) := Lib.hid (run_loadS sMach _ _ hb3 (mcs_len HL.out))
    have HG3 := Lib.hid hg3
    clear hb3 hg3
    go_wp2
    have hr1 := HR1.out
    have hfew : fewM m = m := by unfold fewM; rw [List.take_of_length_le (by rw [← HNN.out]; omega)]
    exact bodyPost_ret (v := mv m A c) (by simp [results, Tryd.results12, asAddr, Sem.run_bind, Sem.run_pure, l1.out]) rfl ⟨by rw [hfew], HBW.out.grown HG3.out HBW.out.size (fun j e => by injection e with e; omega)⟩
/-- short: at most 130 instructions -/
def RetShort (w : World) (A : Option Addr) (n c : Nat) (e : Ending) (w' : World) : Prop := e = .returned (.slice A (min 130 n) c) ∧ w' = w
set_option maxHeartbeats 1000000 in
theorem short_calls (w : World) (A : Option Addr) (n c : Nat) (hA : n ≠ 0 → A ≠ none) (hc : n ≤ c) (hn8 : n ≤ 140737488351232) : Calls Tryd.prog 11 #[.slice A n c] w (RetShort w A n c) := by
  by_cases hbig : 130 < n
  · have hcc : 130 ≤ c := by omega
    obtain ⟨ad, rfl⟩ : ∃ ad, A = some ad := by
      cases A with
      | none => exact absurd rfl (hA (by omega))
      | some ad => exact ⟨_, rfl⟩
    have hcc' : 130 < c := by omega
    clear hA
    go_enter Tryd.func11, Tryd.ntmps11
    go_wp2
    go_ret
    exact ⟨by rw [(by omega : min 130 n = 130)]; rfl, rfl⟩
  · have hm : min 130 n = n := by omega
    have HM := Lib.hid hm
    clear hA hm
    go_enter Tryd.func11, Tryd.ntmps11
    go_wp2
    go_ret
    exact ⟨by rw [HM.out]; rfl, rfl⟩
end Go.Proofs.YtogbhbajnegfeaaDoor
