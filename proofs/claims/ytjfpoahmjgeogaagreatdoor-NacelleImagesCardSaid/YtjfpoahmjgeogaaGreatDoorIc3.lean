/- Bundle 3 of the texts PvmStep, PvmVal, ShaExp. -/
import Derived.Test.YtjfpoahmjgeogaaGreatDoorIc2
import Derived.Test.YtjfpoahmjgeogaaGreatDoorIc1
import Derived.IntWalk
/- pvm: step. -/
namespace Go.Proofs.YtjfpoahmjgeogaaGreatDoor
open Go.RowKit Nac Nac.Pvm
section
variable {w w1 w2 : World} {b base c : Nat} {A : Option Addr} {m : Mach}
theorem MM.other (h : MM w b base A c m) {k : Nat} (hg : w.grownBy w1 (some k)) (hkb : k ≠ b) (hk : ∀ g, A.map (·.block) = some g → g ≠ k) : MM w1 b base A c m :=
  ⟨h.blk.grown hg (fun e => hkb (by injection e)), h.len, h.own.kept hg (.inr fun e => hk k e rfl), h.ne⟩
theorem Fr2.new {k : Nat} (h : Fr2 b A w w1) (hg : w1.grownBy w2 (some k)) (hk : w.heap.size ≤ k) : Fr2 b A w w2 :=
  ⟨hg.os.trans h.os, hg.tape.trans h.tape, hg.output.trans h.output, Nat.le_trans h.size hg.size, fun j hj h1 h2 => (hg.block j (Nat.lt_of_lt_of_le hj h.size) (fun e => by injection e with e; omega)).trans (h.block j hj h1 h2)⟩
theorem blk_fr2 {k : Nat} {cs : List Value} (h : Blk w k cs) (hf : Fr2 b A w w1) (hkb : k ≠ b) (hk : ∀ g, A.map (·.block) = some g → g ≠ k) : Blk w1 k cs := h.keep (hf.block k h.lt hkb fun e => hk k e rfl)
end
theorem ev_put {w w2 : World} {b base c : Nat} {A : Option Addr} {m : Mach} (hm : MM w2 b base A c m) (hf : Fr2 b A w w2) (hbl : b < w.heap.size) (hA : ∀ g, A.map (·.block) = some g → g < w.heap.size) {x y : Value} (hE : Blk w2 w.heap.size [x, y]) (u v : Value) :
    MM ((w2.setCell ⟨w.heap.size, 0, none⟩ u).setCell ⟨w.heap.size, 1, none⟩ v) b base A c m ∧ Fr2 b A w ((w2.setCell ⟨w.heap.size, 0, none⟩ u).setCell ⟨w.heap.size, 1, none⟩ v) ∧ Blk ((w2.setCell ⟨w.heap.size, 0, none⟩ u).setCell ⟨w.heap.size, 1, none⟩ v) w.heap.size [u, v] :=
  ⟨(hm.other (grown_setCell w2 ⟨w.heap.size, 0, none⟩ u) (by show w.heap.size ≠ b; omega) (fun g hg e => by have := hA g hg; have e' : g = w.heap.size := e; omega)).other (grown_setCell _ ⟨w.heap.size, 1, none⟩ v) (by show w.heap.size ≠ b; omega) (fun g hg e => by have := hA g hg; have e' : g = w.heap.size := e; omega),
   (hf.new (grown_setCell w2 ⟨w.heap.size, 0, none⟩ u) (Nat.le_refl _)).new (grown_setCell _ ⟨w.heap.size, 1, none⟩ v) (Nat.le_refl _), (hE.setCell 0 u).setCell 1 v⟩
theorem wf_mem {i : Ins} (h : wf i = true) (ho : i.op = 13 ∨ i.op = 14) : i.a < 8 ∧ i.b < 8 := by
  unfold wf at h
  rw [if_neg (by omega), if_neg (by omega), if_neg (by omega), if_neg (by omega), if_neg (by omega), if_pos ho] at h
  simp at h
  omega
theorem wordAt_lt (m : Mach) (i : Ins) : 0 ≤ wordAt m i → wordAt m i < m.mem.length := by
  unfold wordAt
  split <;> omega
theorem MM.putMem {w : World} {b base c g : Nat} {m : Mach} (h : MM w b base (some ⟨g, 0, none⟩) c m) (k : Nat) (x : Int) : MM (w.setCell ⟨g, k, none⟩ (.int .i64 x)) b base (some ⟨g, 0, none⟩) c { m with mem := m.mem.set k x } :=
  ⟨by
    have := h.blk.grown (grown_setCell w ⟨g, k, none⟩ (.int .i64 x)) (fun e => h.ne e)
    unfold mcs at this ⊢
    rw [List.length_set]
    exact this, h.len, h.own.set k x, h.ne⟩
theorem fr2_mem (w : World) (b g j : Nat) (v : Value) : Fr2 b (some ⟨g, 0, none⟩) w (w.setCell ⟨g, j, none⟩ v) := Fr2.grown (grown_setCell w ⟨g, j, none⟩ v) (fun _ e => .inr (.inl e))
theorem wf_rest {i : Ins} (h : wf i = true) (h0 : i.op ≠ 0) (h17 : i.op ≠ 17) (h13 : i.op ≠ 13) (h14 : i.op ≠ 14) : i.op = 1 ∨ i.op = 2 ∨ i.op = 15 ∨ i.op = 16 ∨ (3 ≤ i.op ∧ i.op ≤ 12 ∧ i.c < 8) := by
  apply Classical.byContradiction
  intro hn
  rcases (by omega : (3 ≤ i.op ∧ i.op ≤ 12) ∨ 17 < i.op) with h1 | h1
  · unfold wf at h
    rw [if_neg (by omega), if_neg (by omega), if_neg (by omega), if_neg (by omega), if_pos (by omega)] at h
    simp at h
    omega
  · rw [wf_big i h1] at h; cases h
theorem Fr2.undrew {w w1 : World} {b n : Nat} {A : Option Addr} (h : Fr2 b A (w.drewN n) w1) : Fr2 b A w w1 := ⟨h.os, h.tape, h.output, h.size, h.block⟩
set_option maxHeartbeats 4000000 in
set_option maxRecDepth 100000 in
theorem step_calls (w : World) (hd : Hdl w) (b base : Nat) (A : Option Addr) (c : Nat) (m : Mach) (h : MM w b base A c m) (hm8 : m.mem.length ≤ 140737488351232) (Ac : Option Addr) (cc : Nat) (l : List Ins) (hR : RIn w w.heap.size Ac l) (hl8 : l.length ≤ 140737488351232) :
    Calls Tryz.prog 50 #[.pointer (some ⟨b, 0, none⟩), .slice Ac l.length cc] w (RetEv w b base A c (stepM l m)) := by
  have HM := Lib.hid h
  have HR := Lib.hid hR
  have HD := Lib.hid hd
  have hbl := h.blk.lt
  have HA : Hid (∀ g, A.map (·.block) = some g → g < w.heap.size) := Lib.hid fun g hg => (h.own.lt g hg).2
  have cS : w.cell? ⟨b, 10, none⟩ = some (.int .i64 m.state) := h.blk.cell (mcs_state h.len)
  have cP : w.cell? ⟨b, 0, none⟩ = some (.int .i64 m.place) := h.blk.cell rfl
  have hb1 : Below w.heap.size w (w.alloc (.cells #[.int .i64 0, .int .i64 0] 63)) := (Below.refl _ _).alloc (Nat.le_refl _) _
  have HM1 := Lib.hid (h.below hb1)
  have HF1 : Hid (Fr2 b A w (w.alloc (.cells #[.int .i64 0, .int .i64 0] 63))) := Lib.hid (Fr2.below hb1)
  have HE1 : Hid (Blk (w.alloc (.cells #[.int .i64 0, .int .i64 0] 63)) w.heap.size [.int .i64 0, .int .i64 0]) := Lib.hid (Blk.new w _ _)
  obtain ⟨n, hn⟩ : ∃ n, n = l.length := ⟨_, rfl⟩
  have HN := Lib.hid hn
  rw [← hn] at hl8 ⊢
  have hb1 := Lib.hid hb1
  clear h hR hd hn
  by_cases hs : m.state = 0
  · by_cases hp : m.place < 0 ∨ (n : Int) ≤ m.place
    · have HST : Hid (stepM l m = trapM m 82) := Lib.hid (by unfold stepM; rw [if_neg (by simpa using hs), if_pos (by rw [← HN.out]; exact hp)])
      rw [hs] at cS
      obtain ⟨p, hpm⟩ : ∃ p, p = m.place := ⟨_, rfl⟩
      rw [← hpm] at cP hp
      clear hs hpm
      have hp2 : p < 0 ∨ (0 ≤ p ∧ (n : Int) ≤ p) := by omega
      clear hp
      rcases hp2 with hp | ⟨hp, hp2⟩
      all_goals
        go_enter Tryz.func50, Tryz.ntmps50
        go_wp2_with fail
        refine (trap_calls _ b base A c m HM1.out 82).mono ?_
        rintro e w2 ⟨rfl, hm2, hf2⟩
        have HM2 := Lib.hid hm2
        have HF2 := Lib.hid (HF1.out.trans hf2)
        have HE2 := Lib.hid (blk_fr2 HE1.out hf2 (by omega) (fun g hg e => by have := HA.out g hg; omega))
        have e0 : w2.cell? ⟨w.heap.size, 0, none⟩ = some (.int .i64 0) := HE2.out.cell rfl
        have e1 : w2.cell? ⟨w.heap.size, 1, none⟩ = some (.int .i64 0) := HE2.out.cell rfl
        have f0 := HE2.out.free 0
        have f1 := HE2.out.free 1
        clear hm2 hf2 HM1 HF1 HE1 HM cS cP
        go_wp2
        obtain ⟨q1, q2, q3⟩ := ev_put HM2.out HF2.out hbl HA.out HE2.out (.int .i64 (trapM m 82).2.1) (.int .i64 (trapM m 82).2.2)
        have y0 := q3.cell (j := 0) rfl
        have y1 := q3.cell (j := 1) rfl
        rw [HST.out]
        exact bodyPost_ret (v := .agg #[.int .i64 (trapM m 82).2.1, .int .i64 (trapM m 82).2.2]) (by simp [results, Tryz.results50, go_sem, y0, y1]) rfl ⟨rfl, q1, q2⟩
    · obtain ⟨k, hk⟩ : ∃ k : Nat, m.place = k := ⟨m.place.toNat, by omega⟩
      have hkn : k < n := by omega
      have hkl : k < l.length := by rw [← HN.out]; exact hkn
      obtain ⟨bc, o, hA, hb, h0', h1', h2', h3', hfit⟩ := HR.out.get hkl
      obtain ⟨i, hi⟩ : ∃ i, i = l[k] := ⟨_, rfl⟩
      have HI : Hid (l.getD k default = i) := Lib.hid (by rw [hi]; simp [List.getD, hkl])
      rw [← hi] at h0' h1' h2' h3' hfit
      have hST : stepM l m = if wf i = false then trapM m 83
          else if i.op = 0 then ({ m with state := 1 }, 2, 0)
          else if i.op = 17 then ({ m with place := m.place + 1 }, 1, i.a)
          else if i.op = 13 then (if wordAt m i < 0 then trapM m 81 else ({ m with r := m.r.set i.a (m.mem.getD (wordAt m i).toNat 0), place := m.place + 1 }, 0, 0))
          else if i.op = 14 then (if wordAt m i < 0 then trapM m 81 else ({ m with mem := m.mem.set (wordAt m i).toNat (m.reg i.a), place := m.place + 1 }, 0, 0))
          else if (i.op = 6 ∨ i.op = 7) ∧ m.reg i.c = 0 then trapM m 80
          else (plainM { m with place := m.place + 1 } i, 0, 0) := by
        have e : l.getD m.place.toNat default = i := by rw [hk]; exact HI.out
        unfold stepM
        rw [if_neg (by simpa using hs), if_neg (by rw [← HN.out]; exact hp), e]
      have HST := Lib.hid hST
      rw [hs] at cS
      subst hA
      have d0 := (hb1.out.cell (p := ⟨bc, _, none⟩) hb).trans h0'
      have d1 := (hb1.out.cell (p := ⟨bc, _, none⟩) hb).trans h1'
      have d2 := (hb1.out.cell (p := ⟨bc, _, none⟩) hb).trans h2'
      have d3 := (hb1.out.cell (p := ⟨bc, _, none⟩) hb).trans h3'
      have HFI := Lib.hid hfit
      rw [hk] at cP
      have HK := Lib.hid hk
      clear hs hp hk hST HI hi HR hkl hfit h0' h1' h2' h3'
      go_enter Tryz.func50, Tryz.ntmps50
      go_wp2_with fail
      obtain ⟨W, hW⟩ : ∃ W, W = ((w.alloc (.cells #[.int .i64 0, .int .i64 0] 63)).alloc (.cells #[.int .u8 i.op, .int .u8 i.a, .int .u8 i.b, .int .u8 i.c] 94)) := ⟨_, rfl⟩
      have hWs : (w.alloc (.cells #[.int .i64 0, .int .i64 0] 63)).heap.size = w.heap.size + 1 := by simp
      have hbW : Below w.heap.size w W := by rw [hW]; exact hb1.out.alloc hb1.out.size _
      have hbE : Below (w.heap.size + 1) (w.alloc (.cells #[.int .i64 0, .int .i64 0] 63)) W := by rw [hW]; exact (Below.refl _ _).alloc (by rw [hWs]; exact Nat.le_refl _) _
      have hXW : Blk W (w.heap.size + 1) [.int .u8 i.op, .int .u8 i.a, .int .u8 i.b, .int .u8 i.c] := by
        have := Blk.new (w.alloc (.cells #[.int .i64 0, .int .i64 0] 63)) [.int .u8 i.op, .int .u8 i.a, .int .u8 i.b, .int .u8 i.c] 94
        rw [hWs] at this
        rw [hW]
        exact this
      have hEW : Blk W w.heap.size [.int .i64 0, .int .i64 0] := HE1.out.below hbE (Nat.lt_succ_self _)
      have hDW : Hdl W := HD.out.below hbW HD.out.lt
      rw [← hW]
      clear hW HM1 HF1 HE1 hb1 hbE d0 d1 d2 d3 cS cP hWs
      refine (ill_calls W hDW i HFI.out).mono ?_
      rintro e w2 ⟨rfl, hb2⟩
      have hb2' : Below w.heap.size w w2 := hbW.trans (hb2.mono hbW.size)
      have HM2 := Lib.hid (HM.out.below hb2')
      have HF2 : Hid (Fr2 b A w w2) := Lib.hid (Fr2.below hb2')
      have HE2 := Lib.hid (hEW.below hb2 hEW.lt)
      have HX2 := Lib.hid (hXW.below hb2 hXW.lt)
      have XQ : Hid (w2.cell? ⟨w.heap.size + 1, 0, none⟩ = some (.int .u8 i.op) ∧ w2.cell? ⟨w.heap.size + 1, 1, none⟩ = some (.int .u8 i.a) ∧ w2.cell? ⟨w.heap.size + 1, 2, none⟩ = some (.int .u8 i.b) ∧ w2.cell? ⟨w.heap.size + 1, 3, none⟩ = some (.int .u8 i.c)) := Lib.hid ⟨HX2.out.cell rfl, HX2.out.cell rfl, HX2.out.cell rfl, HX2.out.cell rfl⟩
      clear hb2 hb2' hbW hXW hEW hDW HM HD
      cases hwf : wf i with
      | false =>
        have HST : Hid (stepM l m = trapM m 83) := Lib.hid (by rw [HST.out, if_pos hwf])
        clear hwf
        go_wp2_with fail
        refine (trap_calls _ b base A c m HM2.out 83).mono ?_
        rintro e w3 ⟨rfl, hm3, hf3⟩
        have HM3 := Lib.hid hm3
        have HF3 := Lib.hid (HF2.out.trans hf3)
        have HE3 := Lib.hid (blk_fr2 HE2.out hf3 (by omega) (fun g hg e => by have := HA.out g hg; omega))
        have e0 : w3.cell? ⟨w.heap.size, 0, none⟩ = some (.int .i64 0) := HE3.out.cell rfl
        have e1 : w3.cell? ⟨w.heap.size, 1, none⟩ = some (.int .i64 0) := HE3.out.cell rfl
        have f0 := HE3.out.free 0
        have f1 := HE3.out.free 1
        clear hm3 hf3 HM2 HF2 HE2 HX2 XQ
        go_wp2
        obtain ⟨q1, q2, q3⟩ := ev_put HM3.out HF3.out hbl HA.out HE3.out (.int .i64 (trapM m 83).2.1) (.int .i64 (trapM m 83).2.2)
        have y0 := q3.cell (j := 0) rfl
        have y1 := q3.cell (j := 1) rfl
        rw [HST.out]
        exact bodyPost_ret (v := .agg #[.int .i64 (trapM m 83).2.1, .int .i64 (trapM m 83).2.2]) (by simp [results, Tryz.results50, go_sem, y0, y1]) rfl ⟨rfl, q1, q2⟩
      | true =>
      obtain ⟨x0, x1, x2, x3⟩ := XQ.out
      have e0 : w2.cell? ⟨w.heap.size, 0, none⟩ = some (.int .i64 0) := HE2.out.cell rfl
      have e1 : w2.cell? ⟨w.heap.size, 1, none⟩ = some (.int .i64 0) := HE2.out.cell rfl
      have f0 := HE2.out.free 0
      have f1 := HE2.out.free 1
      have cS : w2.cell? ⟨b, 10, none⟩ = some (.int .i64 m.state) := HM2.out.blk.cell (mcs_state HM2.out.len)
      have cP : w2.cell? ⟨b, 0, none⟩ = some (.int .i64 k) := by rw [← HK.out]; exact HM2.out.blk.cell rfl
      have fS := HM2.out.blk.free 10
      have fP := HM2.out.blk.free 0
      have HST' := Lib.hid (HST.out.trans (if_neg (by rw [hwf]; decide)))
      clear HST
      have HWF := Lib.hid hwf
      clear hwf
      have hbe : b ≠ w.heap.size := by omega
      have hbe2 : w.heap.size ≠ b := by omega
      by_cases h0 : i.op = 0
      · have HST : Hid (stepM l m = ({ m with state := 1 }, 2, 0)) := Lib.hid (HST'.out.trans (if_pos h0))
        clear HST'
        rw [h0] at x0
        clear XQ
        go_wp2
        have hm3 := HM2.out.put 10 (.int .i64 1) { m with state := 1 } (mcs_setState HM2.out.len 1) HM2.out.len rfl
        have hf3 := HF2.out.trans (fr2_set w2 b 10 A (.int .i64 1))
        have he3 := HE2.out.grown (grown_setCell w2 ⟨b, 10, none⟩ (.int .i64 1)) (fun e => by injection e with e; exact hbe e)
        obtain ⟨q1, q2, q3⟩ := ev_put hm3 hf3 hbl HA.out he3 (.int .i64 2) (.int .i64 0)
        have y0 := q3.cell (j := 0) rfl
        have y1 := q3.cell (j := 1) rfl
        rw [HST.out]
        exact bodyPost_ret (v := .agg #[.int .i64 2, .int .i64 0]) (by simp [results, Tryz.results50, go_sem, y0, y1]) rfl ⟨rfl, q1, q2⟩
      · have HST2 := Lib.hid (HST'.out.trans (if_neg h0))
        have HST' := HST2
        clear HST2
        by_cases h17 : i.op = 17
        · have HST := Lib.hid (HST'.out.trans (if_pos h17))
          clear HST'
          rw [h17] at x0
          have HA8 := HFI.out.a
          clear XQ
          go_wp2
          have hm3 := HM2.out.put 0 (.int .i64 (k + 1)) { m with place := m.place + 1 } (by rw [HK.out]; exact mcs_setPlace _) HM2.out.len rfl
          have hf3 := HF2.out.trans (fr2_set w2 b 0 A (.int .i64 (k + 1)))
          have he3 := HE2.out.grown (grown_setCell w2 ⟨b, 0, none⟩ (.int .i64 (k + 1))) (fun e => by injection e with e; exact hbe e)
          obtain ⟨q1, q2, q3⟩ := ev_put hm3 hf3 hbl HA.out he3 (.int .i64 1) (.int .i64 i.a)
          have y0 := q3.cell (j := 0) rfl
          have y1 := q3.cell (j := 1) rfl
          rw [HST.out]
          exact bodyPost_ret (v := .agg #[.int .i64 1, .int .i64 i.a]) (by simp [results, Tryz.results50, go_sem, y0, y1]) rfl ⟨rfl, q1, q2⟩
        · have HST2 := Lib.hid (HST'.out.trans (if_neg h17))
          have HST' := HST2
          clear HST2
          by_cases h13 : i.op = 13
          · skip
            have HB8 : Hid (i.a < 8 ∧ i.b < 8) := Lib.hid (wf_mem HWF.out (by omega))
            have HST2 := Lib.hid (HST'.out.trans (if_pos h13))
            clear HST'
            rw [h13] at x0
            obtain ⟨op', ia, ib, ic⟩ := i
            simp only at h13 x0 x1 x2 x3
            subst h13
            go_wp2_with fail
            refine (word_calls w2 b base A c m HM2.out ⟨13, ia, ib, ic⟩ HB8.out.2 HFI.out.c hm8).mono ?_
            rintro e w3 ⟨rfl, hb3⟩
            have HM3 := Lib.hid (HM2.out.below hb3)
            have HF3 : Hid (Fr2 b A w w3) := Lib.hid (HF2.out.trans (Fr2.below hb3))
            have HE3 := Lib.hid (HE2.out.below hb3 HE2.out.lt)
            have HX3 := Lib.hid (HX2.out.below hb3 HX2.out.lt)
            clear hb3 HM2 HF2 HE2 HX2 XQ
            clear x0 x1 x2 x3 e0 e1 f0 f1 cS cP fS fP
            obtain ⟨z, hz⟩ : ∃ z, z = wordAt m ⟨13, ia, ib, ic⟩ := ⟨_, rfl⟩
            have HZ : Hid (0 ≤ z → z < m.mem.length) := Lib.hid (by rw [hz]; exact wordAt_lt m _)
            rw [← hz] at HST2 ⊢
            clear hz
            by_cases hz : z < 0
            · have HST := Lib.hid (HST2.out.trans (if_pos hz))
              clear HST2
              go_wp2_with fail
              refine (trap_calls _ b base A c m HM3.out 81).mono ?_
              rintro e w3 ⟨rfl, hm3, hf3⟩
              have HM4 := Lib.hid hm3
              have HF4 := Lib.hid (HF3.out.trans hf3)
              have HE4 := Lib.hid (blk_fr2 HE3.out hf3 (by omega) (fun g hg e => by have := HA.out g hg; omega))
              have e0 : w3.cell? ⟨w.heap.size, 0, none⟩ = some (.int .i64 0) := HE4.out.cell rfl
              have e1 : w3.cell? ⟨w.heap.size, 1, none⟩ = some (.int .i64 0) := HE4.out.cell rfl
              have f0 := HE4.out.free 0
              have f1 := HE4.out.free 1
              clear hm3 hf3 HM3 HF3 HE3
              go_wp2
              obtain ⟨q1, q2, q3⟩ := ev_put HM4.out HF4.out hbl HA.out HE4.out (.int .i64 (trapM m 81).2.1) (.int .i64 (trapM m 81).2.2)
              have y0 := q3.cell (j := 0) rfl
              have y1 := q3.cell (j := 1) rfl
              rw [HST.out]
              exact bodyPost_ret (v := .agg #[.int .i64 (trapM m 81).2.1, .int .i64 (trapM m 81).2.2]) (by simp [results, Tryz.results50, go_sem, y0, y1]) rfl ⟨rfl, q1, q2⟩
            · have HST := Lib.hid (HST2.out.trans (if_neg hz))
              clear HST2
              obtain ⟨kz, rfl⟩ : ∃ kz : Nat, z = kz := ⟨z.toNat, by omega⟩
              have x0 : w3.cell? ⟨w.heap.size + 1, 0, none⟩ = some (.int .u8 13) := HX3.out.cell rfl
              go_wp2_with fail
              obtain ⟨g, hAg, hbg, hgl, hgc, hgf⟩ := HM3.out.own.at (k := kz) (by have := HZ.out (by omega); omega)
              subst hAg
              have hgb : g ≠ b := fun e => HM3.out.ne (by rw [e]; rfl)
              obtain ⟨ml, hml⟩ : ∃ ml, ml = m.mem.length := ⟨_, rfl⟩
              have HKZ : Hid (kz < ml) := Lib.hid (by have := HZ.out (by omega); omega)
              have HML := Lib.hid hml
              have XB : Hid (∀ w', Below w3.drew.heap.size w3.drew w' → w'.cell? ⟨w.heap.size + 1, 1, none⟩ = some (.int .u8 ia)) := Lib.hid fun w' hb' => (Blk.below (w := w3.drew) HX3.out hb' HX3.out.lt).cell rfl
              have MS : Hid (∀ w', Below w3.drew.heap.size w3.drew w' → w'.cell? ⟨b, 9, none⟩ = some (.slice (some ⟨g, 0, none⟩) ml c)) := Lib.hid fun w' hb' => by
                rw [hml]
                exact (HM3.out.drew.below hb').blk.cell (mcs_mem HM3.out.len)
              obtain ⟨zv, hzv⟩ : ∃ zv, zv = m.mem.getD (kz : Int).toNat 0 := ⟨_, rfl⟩
              have MC : Hid (∀ w', Below w3.drew.heap.size w3.drew w' → w'.cell? ⟨g, kz, none⟩ = some (.int .i64 zv)) := Lib.hid fun w' hb' => by
                rw [hzv]
                have hkz := HKZ.out
                rw [hml] at hkz
                simp only [Int.toNat_natCast, List.getD, List.getElem?_eq_getElem hkz, Option.getD_some]
                exact (hb'.cell (p := ⟨g, kz, none⟩) hgl).trans hgc
              rw [← hzv] at HST
              clear hzv hml hgc hgf hz
              refine region_tails 13 (fun ix9 => ([.is (.pointer (some ⟨b, 0, none⟩)), .is (.pointer (some ⟨w.heap.size + 1, 1, none⟩)), .is (.int .u8 ia), .is (.pointer (some ⟨b, 0, none⟩)), .is (.pointer (some ⟨b, 0, none⟩)), .is (.pointer (some ⟨b, 9, none⟩)), .is (.slice (some ⟨g, 0, none⟩) ml c), .is (.int .i64 kz), .is (.pointer (some ⟨g, kz, none⟩)), .is (.int .i64 zv), .is (.pointer (some ⟨b, 0, none⟩)), .is (.pointer (some ⟨b, 1, none⟩)), .is (.pointer (some ⟨b, 1 + ia, none⟩))] : List VD).getD ix9 (.is undef)) [some 77, some 78, some 79, some 80, some 81, some 82, some 83, some 84, some 85, some 86, some 87, some 88, some 89] (by kernel_rfl) (by kernel_rfl) (by kernel_rfl) (by kernel_rfl) rfl (fun ii hii => ?_) ?_
              · match ii, hii with
                | 0, _ => exact mstep_first rfl (mwant_none rfl) 0 (Or.inl rfl) (by kernel_rfl) (fun _ _ => rfl)
                | 1, _ => exact mstep_pure rfl (mwant_none rfl) (fun aa ww cc => ⟨.pointer (some ⟨w.heap.size + 1, 1, none⟩), by have e0 : aa.tmps.getD 5 undef = .pointer (some ⟨w.heap.size + 1, 0, none⟩) := (cc.orig 5 (by kernel_rfl)).trans rfl; simp only [execOp, Act.eval]; go_simp, rfl⟩)
                | 2, _ => exact mstep_pure rfl (mwant_none rfl) (fun aa ww cc => ⟨.int .u8 ia, by have e0 : aa.tmps.getD 78 undef = .pointer (some ⟨w.heap.size + 1, 1, none⟩) := cc.slot 1 78 (by kernel_rfl) rfl; have q := XB.out _ cc.below; simp only [execOp, Act.eval]; go_simp, rfl⟩)
                | 3, _ => exact mstep_first rfl (mwant_none rfl) 0 (Or.inl rfl) (by kernel_rfl) (fun _ _ => rfl)
                | 4, _ => exact mstep_pure rfl (mwant_none rfl) (fun aa ww cc => ⟨.pointer (some ⟨b, 0, none⟩), by have e0 : aa.tmps.getD 80 undef = .pointer (some ⟨b, 0, none⟩) := cc.slot 3 80 (by kernel_rfl) rfl; simp only [execOp, Act.eval]; go_simp, rfl⟩)
                | 5, _ => exact mstep_pure rfl (mwant_none rfl) (fun aa ww cc => ⟨.pointer (some ⟨b, 9, none⟩), by have e0 : aa.tmps.getD 81 undef = .pointer (some ⟨b, 0, none⟩) := cc.slot 4 81 (by kernel_rfl) rfl; simp only [execOp, Act.eval]; go_simp, rfl⟩)
                | 6, _ => exact mstep_pure rfl (mwant_none rfl) (fun aa ww cc => ⟨.slice (some ⟨g, 0, none⟩) ml c, by have e0 : aa.tmps.getD 82 undef = .pointer (some ⟨b, 9, none⟩) := cc.slot 5 82 (by kernel_rfl) rfl; have q := MS.out _ cc.below; simp only [execOp, Act.eval]; go_simp, rfl⟩)
                | 7, _ => exact mstep_first rfl (mwant_none rfl) 6 (Or.inl rfl) (by kernel_rfl) (fun _ _ => rfl)
                | 8, _ => exact mstep_pure rfl (mwant_none rfl) (fun aa ww cc => ⟨.pointer (some ⟨g, kz, none⟩), by have e0 : aa.tmps.getD 83 undef = .slice (some ⟨g, 0, none⟩) ml c := cc.slot 6 83 (by kernel_rfl) rfl; have e1 : aa.tmps.getD 84 undef = .int .i64 kz := cc.slot 7 84 (by kernel_rfl) rfl; have q := HKZ.out; have q2 : (kz : Int) < ml := (by omega); simp only [execOp, Act.eval]; go_simp, rfl⟩)
                | 9, _ => exact mstep_pure rfl (mwant_none rfl) (fun aa ww cc => ⟨.int .i64 zv, by have e0 : aa.tmps.getD 85 undef = .pointer (some ⟨g, kz, none⟩) := cc.slot 8 85 (by kernel_rfl) rfl; have q := MC.out _ cc.below; simp only [execOp, Act.eval]; go_simp, rfl⟩)
                | 10, _ => exact mstep_pure rfl (mwant_none rfl) (fun aa ww cc => ⟨.pointer (some ⟨b, 0, none⟩), by have e0 : aa.tmps.getD 77 undef = .pointer (some ⟨b, 0, none⟩) := cc.slot 0 77 (by kernel_rfl) rfl; simp only [execOp, Act.eval]; go_simp, rfl⟩)
                | 11, _ => exact mstep_pure rfl (mwant_none rfl) (fun aa ww cc => ⟨.pointer (some ⟨b, 1, none⟩), by have e0 : aa.tmps.getD 87 undef = .pointer (some ⟨b, 0, none⟩) := cc.slot 10 87 (by kernel_rfl) rfl; simp only [execOp, Act.eval]; go_simp, rfl⟩)
                | 12, _ => exact mstep_pure rfl (mwant_none rfl) (fun aa ww cc => ⟨.pointer (some ⟨b, 1 + ia, none⟩), by have e0 : aa.tmps.getD 88 undef = .pointer (some ⟨b, 1, none⟩) := cc.slot 11 88 (by kernel_rfl) rfl; have e1 : aa.tmps.getD 79 undef = .int .u8 ia := cc.slot 2 79 (by kernel_rfl) rfl; have q := HB8.out.1; have q2 : (ia : Int) < 8 := (by omega); simp only [execOp, Act.eval]; go_simp, rfl⟩)
                | n + 13, h => exact absurd h (by show ¬ (n + 13 < 13); omega)
              · intro VV w5 hlen hb5 hok
                match VV, hlen with
                | [v0, v1, v2, v3, v4, v5, v6, v7, v8, v9, v10, v11, v12], _ =>
                  obtain rfl : v0 = .pointer (some ⟨b, 0, none⟩) := hok 0 77 rfl
                  obtain rfl : v1 = .pointer (some ⟨w.heap.size + 1, 1, none⟩) := hok 1 78 rfl
                  obtain rfl : v2 = .int .u8 ia := hok 2 79 rfl
                  obtain rfl : v3 = .pointer (some ⟨b, 0, none⟩) := hok 3 80 rfl
                  obtain rfl : v4 = .pointer (some ⟨b, 0, none⟩) := hok 4 81 rfl
                  obtain rfl : v5 = .pointer (some ⟨b, 9, none⟩) := hok 5 82 rfl
                  obtain rfl : v6 = .slice (some ⟨g, 0, none⟩) ml c := hok 6 83 rfl
                  obtain rfl : v7 = .int .i64 kz := hok 7 84 rfl
                  obtain rfl : v8 = .pointer (some ⟨g, kz, none⟩) := hok 8 85 rfl
                  obtain rfl : v9 = .int .i64 zv := hok 9 86 rfl
                  obtain rfl : v10 = .pointer (some ⟨b, 0, none⟩) := hok 10 87 rfl
                  obtain rfl : v11 = .pointer (some ⟨b, 1, none⟩) := hok 11 88 rfl
                  obtain rfl : v12 = .pointer (some ⟨b, 1 + ia, none⟩) := hok 12 89 rfl
                  have HM5 := Lib.hid (HM3.out.below hb5)
                  have HF5 := Lib.hid (HF3.out.trans (Fr2.below hb5))
                  have HE5 := Lib.hid (HE3.out.below hb5 HE3.out.lt)
                  clear hok hb5 hlen XB MS MC HM3 HF3 HE3 HX3 x0
                  simp only [List.zip_cons_cons, List.zip_nil_right, putsL]
                  go_simp
                  have cR := HM5.out.blk.cell (mcs_reg HM5.out.len HB8.out.1)
                  have fR := HM5.out.blk.free (1 + ia)
                  have cP : w5.cell? ⟨b, 0, none⟩ = some (.int .i64 k) := by rw [← HK.out]; exact HM5.out.blk.cell rfl
                  have fP := HM5.out.blk.free 0
                  have e0 : w5.cell? ⟨w.heap.size, 0, none⟩ = some (.int .i64 0) := HE5.out.cell rfl
                  have e1 : w5.cell? ⟨w.heap.size, 1, none⟩ = some (.int .i64 0) := HE5.out.cell rfl
                  have f0 := HE5.out.free 0
                  have f1 := HE5.out.free 1
                  obtain ⟨old, hold⟩ : ∃ old, w5.cell? ⟨b, 1 + ia, none⟩ = some (.int .i64 old) := ⟨_, cR⟩
                  clear cR
                  go_wp2
                  have hm6 := HM5.out.put (1 + ia) (.int .i64 zv) { m with r := m.r.set ia zv } (mcs_setReg HM5.out.len HB8.out.1 zv) (by rw [List.length_set]; exact HM5.out.len) rfl
                  have hm7 := hm6.put 0 (.int .i64 (k + 1)) { m with r := m.r.set ia zv, place := m.place + 1 } (by rw [HK.out]; rfl) hm6.len rfl
                  have hf7 := (HF5.out.trans (fr2_set w5 b (1 + ia) _ (.int .i64 zv))).trans (fr2_set _ b 0 _ (.int .i64 (k + 1)))
                  have he7 := (HE5.out.grown (grown_setCell w5 ⟨b, 1 + ia, none⟩ (.int .i64 zv)) (fun e => by injection e with e; exact hbe e)).grown (grown_setCell _ ⟨b, 0, none⟩ (.int .i64 (k + 1))) (fun e => by injection e with e; exact hbe e)
                  obtain ⟨q1, q2, q3⟩ := ev_put hm7 hf7 hbl HA.out he7 (.int .i64 0) (.int .i64 0)
                  have y0 := q3.cell (j := 0) rfl
                  have y1 := q3.cell (j := 1) rfl
                  rw [HST.out]
                  exact bodyPost_ret (v := .agg #[.int .i64 0, .int .i64 0]) (by simp [results, Tryz.results50, go_sem, y0, y1]) rfl ⟨rfl, q1, q2⟩
          · have HST2 := Lib.hid (HST'.out.trans (if_neg h13))
            have HST' := HST2
            clear HST2
            by_cases h14 : i.op = 14
            · skip
              have HB8 : Hid (i.a < 8 ∧ i.b < 8) := Lib.hid (wf_mem HWF.out (by omega))
              have HST2 := Lib.hid (HST'.out.trans (if_pos h14))
              clear HST'
              rw [h14] at x0
              obtain ⟨op', ia, ib, ic⟩ := i
              simp only at h14 x0 x1 x2 x3
              subst h14
              go_wp2_with fail
              refine (word_calls w2 b base A c m HM2.out ⟨14, ia, ib, ic⟩ HB8.out.2 HFI.out.c hm8).mono ?_
              rintro e w3 ⟨rfl, hb3⟩
              have HM3 := Lib.hid (HM2.out.below hb3)
              have HF3 : Hid (Fr2 b A w w3) := Lib.hid (HF2.out.trans (Fr2.below hb3))
              have HE3 := Lib.hid (HE2.out.below hb3 HE2.out.lt)
              have HX3 := Lib.hid (HX2.out.below hb3 HX2.out.lt)
              clear hb3 HM2 HF2 HE2 HX2 XQ
              clear x0 x1 x2 x3 e0 e1 f0 f1 cS cP fS fP
              obtain ⟨z, hz⟩ : ∃ z, z = wordAt m ⟨14, ia, ib, ic⟩ := ⟨_, rfl⟩
              have HZ : Hid (0 ≤ z → z < m.mem.length) := Lib.hid (by rw [hz]; exact wordAt_lt m _)
              rw [← hz] at HST2 ⊢
              clear hz
              by_cases hz : z < 0
              · have HST := Lib.hid (HST2.out.trans (if_pos hz))
                clear HST2
                go_wp2_with fail
                refine (trap_calls _ b base A c m HM3.out 81).mono ?_
                rintro e w3 ⟨rfl, hm3, hf3⟩
                have HM4 := Lib.hid hm3
                have HF4 := Lib.hid (HF3.out.trans hf3)
                have HE4 := Lib.hid (blk_fr2 HE3.out hf3 (by omega) (fun g hg e => by have := HA.out g hg; omega))
                have e0 : w3.cell? ⟨w.heap.size, 0, none⟩ = some (.int .i64 0) := HE4.out.cell rfl
                have e1 : w3.cell? ⟨w.heap.size, 1, none⟩ = some (.int .i64 0) := HE4.out.cell rfl
                have f0 := HE4.out.free 0
                have f1 := HE4.out.free 1
                clear hm3 hf3 HM3 HF3 HE3
                go_wp2
                obtain ⟨q1, q2, q3⟩ := ev_put HM4.out HF4.out hbl HA.out HE4.out (.int .i64 (trapM m 81).2.1) (.int .i64 (trapM m 81).2.2)
                have y0 := q3.cell (j := 0) rfl
                have y1 := q3.cell (j := 1) rfl
                rw [HST.out]
                exact bodyPost_ret (v := .agg #[.int .i64 (trapM m 81).2.1, .int .i64 (trapM m 81).2.2]) (by simp [results, Tryz.results50, go_sem, y0, y1]) rfl ⟨rfl, q1, q2⟩
              · have HST := Lib.hid (HST2.out.trans (if_neg hz))
                clear HST2
                obtain ⟨kz, rfl⟩ : ∃ kz : Nat, z = kz := ⟨z.toNat, by omega⟩
                have x0 : w3.cell? ⟨w.heap.size + 1, 0, none⟩ = some (.int .u8 14) := HX3.out.cell rfl
                go_wp2_with fail
                obtain ⟨g, hAg, hbg, hgl, hgc, hgf⟩ := HM3.out.own.at (k := kz) (by have := HZ.out (by omega); omega)
                subst hAg
                have hgb : g ≠ b := fun e => HM3.out.ne (by rw [e]; rfl)
                obtain ⟨ml, hml⟩ : ∃ ml, ml = m.mem.length := ⟨_, rfl⟩
                have HKZ : Hid (kz < ml) := Lib.hid (by have := HZ.out (by omega); omega)
                have HML := Lib.hid hml
                have XB : Hid (∀ w', Below w3.drew.heap.size w3.drew w' → w'.cell? ⟨w.heap.size + 1, 1, none⟩ = some (.int .u8 ia)) := Lib.hid fun w' hb' => (Blk.below (w := w3.drew) HX3.out hb' HX3.out.lt).cell rfl
                have MS : Hid (∀ w', Below w3.drew.heap.size w3.drew w' → w'.cell? ⟨b, 9, none⟩ = some (.slice (some ⟨g, 0, none⟩) ml c)) := Lib.hid fun w' hb' => by
                  rw [hml]
                  exact (HM3.out.drew.below hb').blk.cell (mcs_mem HM3.out.len)
                obtain ⟨ra, hra⟩ : ∃ ra, ra = m.reg ia := ⟨_, rfl⟩
                have RA : Hid (∀ w', Below w3.drew.heap.size w3.drew w' → w'.cell? ⟨b, 1 + ia, none⟩ = some (.int .i64 ra)) := Lib.hid fun w' hb' => by
                  rw [hra]
                  exact (HM3.out.drew.below hb').blk.cell (mcs_reg HM3.out.len HB8.out.1)
                rw [← hra] at HST
                clear hra hml hgc hgf hz
                refine region_tails 13 (fun ix9 => ([.is (.pointer (some ⟨b, 0, none⟩)), .is (.pointer (some ⟨b, 0, none⟩)), .is (.pointer (some ⟨b, 9, none⟩)), .is (.slice (some ⟨g, 0, none⟩) ml c), .is (.int .i64 kz), .is (.pointer (some ⟨b, 0, none⟩)), .is (.pointer (some ⟨w.heap.size + 1, 1, none⟩)), .is (.int .u8 ia), .is (.pointer (some ⟨b, 0, none⟩)), .is (.pointer (some ⟨b, 1, none⟩)), .is (.pointer (some ⟨b, 1 + ia, none⟩)), .is (.int .i64 ra), .is (.pointer (some ⟨g, kz, none⟩))] : List VD).getD ix9 (.is undef)) [some 90, some 91, some 92, some 93, some 94, some 95, some 96, some 97, some 98, some 99, some 100, some 101, some 102] (by kernel_rfl) (by kernel_rfl) (by kernel_rfl) (by kernel_rfl) rfl (fun ii hii => ?_) ?_
                · match ii, hii with
                  | 0, _ => exact mstep_first rfl (mwant_none rfl) 0 (Or.inl rfl) (by kernel_rfl) (fun _ _ => rfl)
                  | 1, _ => exact mstep_pure rfl (mwant_none rfl) (fun aa ww cc => ⟨.pointer (some ⟨b, 0, none⟩), by have e0 : aa.tmps.getD 90 undef = .pointer (some ⟨b, 0, none⟩) := cc.slot 0 90 (by kernel_rfl) rfl; simp only [execOp, Act.eval]; go_simp, rfl⟩)
                  | 2, _ => exact mstep_pure rfl (mwant_none rfl) (fun aa ww cc => ⟨.pointer (some ⟨b, 9, none⟩), by have e0 : aa.tmps.getD 91 undef = .pointer (some ⟨b, 0, none⟩) := cc.slot 1 91 (by kernel_rfl) rfl; simp only [execOp, Act.eval]; go_simp, rfl⟩)
                  | 3, _ => exact mstep_pure rfl (mwant_none rfl) (fun aa ww cc => ⟨.slice (some ⟨g, 0, none⟩) ml c, by have e0 : aa.tmps.getD 92 undef = .pointer (some ⟨b, 9, none⟩) := cc.slot 2 92 (by kernel_rfl) rfl; have q := MS.out _ cc.below; simp only [execOp, Act.eval]; go_simp, rfl⟩)
                  | 4, _ => exact mstep_first rfl (mwant_none rfl) 6 (Or.inl rfl) (by kernel_rfl) (fun _ _ => rfl)
                  | 5, _ => exact mstep_first rfl (mwant_none rfl) 0 (Or.inl rfl) (by kernel_rfl) (fun _ _ => rfl)
                  | 6, _ => exact mstep_pure rfl (mwant_none rfl) (fun aa ww cc => ⟨.pointer (some ⟨w.heap.size + 1, 1, none⟩), by have e0 : aa.tmps.getD 5 undef = .pointer (some ⟨w.heap.size + 1, 0, none⟩) := (cc.orig 5 (by kernel_rfl)).trans rfl; simp only [execOp, Act.eval]; go_simp, rfl⟩)
                  | 7, _ => exact mstep_pure rfl (mwant_none rfl) (fun aa ww cc => ⟨.int .u8 ia, by have e0 : aa.tmps.getD 96 undef = .pointer (some ⟨w.heap.size + 1, 1, none⟩) := cc.slot 6 96 (by kernel_rfl) rfl; have q := XB.out _ cc.below; simp only [execOp, Act.eval]; go_simp, rfl⟩)
                  | 8, _ => exact mstep_pure rfl (mwant_none rfl) (fun aa ww cc => ⟨.pointer (some ⟨b, 0, none⟩), by have e0 : aa.tmps.getD 95 undef = .pointer (some ⟨b, 0, none⟩) := cc.slot 5 95 (by kernel_rfl) rfl; simp only [execOp, Act.eval]; go_simp, rfl⟩)
                  | 9, _ => exact mstep_pure rfl (mwant_none rfl) (fun aa ww cc => ⟨.pointer (some ⟨b, 1, none⟩), by have e0 : aa.tmps.getD 98 undef = .pointer (some ⟨b, 0, none⟩) := cc.slot 8 98 (by kernel_rfl) rfl; simp only [execOp, Act.eval]; go_simp, rfl⟩)
                  | 10, _ => exact mstep_pure rfl (mwant_none rfl) (fun aa ww cc => ⟨.pointer (some ⟨b, 1 + ia, none⟩), by have e0 : aa.tmps.getD 99 undef = .pointer (some ⟨b, 1, none⟩) := cc.slot 9 99 (by kernel_rfl) rfl; have e1 : aa.tmps.getD 97 undef = .int .u8 ia := cc.slot 7 97 (by kernel_rfl) rfl; have q := HB8.out.1; have q2 : (ia : Int) < 8 := (by omega); simp only [execOp, Act.eval]; go_simp, rfl⟩)
                  | 11, _ => exact mstep_pure rfl (mwant_none rfl) (fun aa ww cc => ⟨.int .i64 ra, by have e0 : aa.tmps.getD 100 undef = .pointer (some ⟨b, 1 + ia, none⟩) := cc.slot 10 100 (by kernel_rfl) rfl; have q := RA.out _ cc.below; simp only [execOp, Act.eval]; go_simp, rfl⟩)
                  | 12, _ => exact mstep_pure rfl (mwant_none rfl) (fun aa ww cc => ⟨.pointer (some ⟨g, kz, none⟩), by have e0 : aa.tmps.getD 93 undef = .slice (some ⟨g, 0, none⟩) ml c := cc.slot 3 93 (by kernel_rfl) rfl; have e1 : aa.tmps.getD 94 undef = .int .i64 kz := cc.slot 4 94 (by kernel_rfl) rfl; have q := HKZ.out; have q2 : (kz : Int) < ml := (by omega); simp only [execOp, Act.eval]; go_simp, rfl⟩)
                  | n + 13, h => exact absurd h (by show ¬ (n + 13 < 13); omega)
                · intro VV w5 hlen hb5 hok
                  match VV, hlen with
                  | [v0, v1, v2, v3, v4, v5, v6, v7, v8, v9, v10, v11, v12], _ =>
                    obtain rfl : v0 = .pointer (some ⟨b, 0, none⟩) := hok 0 90 rfl
                    obtain rfl : v1 = .pointer (some ⟨b, 0, none⟩) := hok 1 91 rfl
                    obtain rfl : v2 = .pointer (some ⟨b, 9, none⟩) := hok 2 92 rfl
                    obtain rfl : v3 = .slice (some ⟨g, 0, none⟩) ml c := hok 3 93 rfl
                    obtain rfl : v4 = .int .i64 kz := hok 4 94 rfl
                    obtain rfl : v5 = .pointer (some ⟨b, 0, none⟩) := hok 5 95 rfl
                    obtain rfl : v6 = .pointer (some ⟨w.heap.size + 1, 1, none⟩) := hok 6 96 rfl
                    obtain rfl : v7 = .int .u8 ia := hok 7 97 rfl
                    obtain rfl : v8 = .pointer (some ⟨b, 0, none⟩) := hok 8 98 rfl
                    obtain rfl : v9 = .pointer (some ⟨b, 1, none⟩) := hok 9 99 rfl
                    obtain rfl : v10 = .pointer (some ⟨b, 1 + ia, none⟩) := hok 10 100 rfl
                    obtain rfl : v11 = .int .i64 ra := hok 11 101 rfl
                    obtain rfl : v12 = .pointer (some ⟨g, kz, none⟩) := hok 12 102 rfl
                    have HM5 := Lib.hid (HM3.out.below hb5)
                    have HF5 := Lib.hid (HF3.out.trans (Fr2.below hb5))
                    have HE5 := Lib.hid (HE3.out.below hb5 HE3.out.lt)
                    clear hok hb5 hlen XB MS RA HM3 HF3 HE3 HX3 x0
                    simp only [List.zip_cons_cons, List.zip_nil_right, putsL]
                    go_simp
                    obtain ⟨g', hg', _, _, cR, fR⟩ := HM5.out.own.at (k := kz) (by rw [← HML.out]; exact HKZ.out)
                    injection hg' with hg'
                    injection hg' with hg'
                    subst hg'
                    have cP : w5.cell? ⟨b, 0, none⟩ = some (.int .i64 k) := by rw [← HK.out]; exact HM5.out.blk.cell rfl
                    have fP := HM5.out.blk.free 0
                    have e0 : w5.cell? ⟨w.heap.size, 0, none⟩ = some (.int .i64 0) := HE5.out.cell rfl
                    have e1 : w5.cell? ⟨w.heap.size, 1, none⟩ = some (.int .i64 0) := HE5.out.cell rfl
                    have f0 := HE5.out.free 0
                    have f1 := HE5.out.free 1
                    obtain ⟨old, hold⟩ : ∃ old, w5.cell? ⟨g, kz, none⟩ = some (.int .i64 old) := ⟨_, cR⟩
                    clear cR
                    have hgb2 : b ≠ g := fun e => hgb e.symm
                    have hge : g ≠ w.heap.size := by have := HA.out g rfl; omega
                    go_wp2
                    have hm6 := HM5.out.putMem kz ra
                    have hm7 := hm6.put 0 (.int .i64 (k + 1)) { m with mem := m.mem.set kz ra, place := m.place + 1 } (by rw [HK.out]; rfl) hm6.len rfl
                    have hf7 := (HF5.out.trans (fr2_mem w5 b g kz (.int .i64 ra))).trans (fr2_set _ b 0 _ (.int .i64 (k + 1)))
                    have he7 := (HE5.out.grown (grown_setCell w5 ⟨g, kz, none⟩ (.int .i64 ra)) (fun e => by injection e with e; exact hge e)).grown (grown_setCell _ ⟨b, 0, none⟩ (.int .i64 (k + 1))) (fun e => by injection e with e; exact hbe e)
                    obtain ⟨q1, q2, q3⟩ := ev_put hm7 hf7 hbl HA.out he7 (.int .i64 0) (.int .i64 0)
                    have y0 := q3.cell (j := 0) rfl
                    have y1 := q3.cell (j := 1) rfl
                    rw [HST.out]
                    exact bodyPost_ret (v := .agg #[.int .i64 0, .int .i64 0]) (by simp [results, Tryz.results50, go_sem, y0, y1]) rfl ⟨rfl, q1, q2⟩
            · have HST2 := Lib.hid (HST'.out.trans (if_neg h14))
              have HST' := HST2
              clear HST2
              have HOPS := wf_rest HWF.out h0 h17 h13 h14
              have HPF : Hid i.fits := HFI
              have HPW : Hid (wf i = true) := HWF
              have HPN : Hid (i.op ≠ 0 ∧ i.op ≠ 17 ∧ i.op ≠ 13 ∧ i.op ≠ 14) := Lib.hid ⟨h0, h17, h13, h14⟩
              by_cases h67 : i.op = 6 ∨ i.op = 7
              · skip
                rcases h67 with h6 | h7
                · skip
                  rw [h6] at x0
                  obtain ⟨op', ia, ib, ic⟩ := i
                  simp only at h6 x0 x1 x2 x3 HOPS h0 h17 h13 h14 HST' HPN
                  subst h6
                  have HC8 : Hid (ic < 8) := Lib.hid (by omega)
                  obtain ⟨rc, hrc⟩ : ∃ rc, rc = m.reg ic := ⟨_, rfl⟩
                  have cR : w2.cell? ⟨b, 1 + ic, none⟩ = some (.int .i64 rc) := by rw [hrc]; exact HM2.out.blk.cell (mcs_reg HM2.out.len HC8.out)
                  have hq := HC8.out
                  have hq2 : (ic : Int) < 8 := by omega
                  by_cases hz : rc = 0
                  · have HST := Lib.hid (HST'.out.trans (if_pos ⟨by omega, by rw [← hrc]; exact hz⟩))
                    subst hz
                    clear HST' HOPS h0 h17 h13 h14 hrc HPN
                    go_wp2_with fail
                    go_quiet (fail)
                    go_wp2_with fail
                    refine (trap_calls _ b base A c m (MM.drewN HM2.out nq) 80).mono ?_
                    rintro e w3 ⟨rfl, hm3, hf3⟩
                    have HM3 := Lib.hid hm3
                    have HF3 := Lib.hid (HF2.out.trans (Fr2.undrew hf3))
                    have HE3 := Lib.hid (blk_fr2 HE2.out (Fr2.undrew hf3) (by omega) (fun g hg e => by have := HA.out g hg; omega))
                    have e0 : w3.cell? ⟨w.heap.size, 0, none⟩ = some (.int .i64 0) := HE3.out.cell rfl
                    have e1 : w3.cell? ⟨w.heap.size, 1, none⟩ = some (.int .i64 0) := HE3.out.cell rfl
                    have f0 := HE3.out.free 0
                    have f1 := HE3.out.free 1
                    clear hm3 hf3 HM2 HF2 HE2 HX2 XQ
                    go_wp2
                    obtain ⟨q1, q2, q3⟩ := ev_put HM3.out HF3.out hbl HA.out HE3.out (.int .i64 (trapM m 80).2.1) (.int .i64 (trapM m 80).2.2)
                    have y0 := q3.cell (j := 0) rfl
                    have y1 := q3.cell (j := 1) rfl
                    rw [HST.out]
                    exact bodyPost_ret (v := .agg #[.int .i64 (trapM m 80).2.1, .int .i64 (trapM m 80).2.2]) (by simp [results, Tryz.results50, go_sem, y0, y1]) rfl ⟨rfl, q1, q2⟩
                  · have HST := Lib.hid (HST'.out.trans (if_neg (fun h => hz (by rw [hrc]; exact h.2))))
                    have HPZ : Hid (({ m with place := m.place + 1 } : Mach).reg ic ≠ 0) := Lib.hid fun h => hz (hrc.trans h)
                    have hzb : (rc == 0) = false := by simpa using hz
                    clear HST' HOPS h0 h17 h13 h14 hrc hz
                    go_wp2_with fail
                    go_quiet (fail)
                    go_wp2_with fail
                    have x0 : w2.cell? ⟨w.heap.size + 1, 0, none⟩ = some (.int .u8 (6 : Nat)) := XQ.out.1
                    have hm3 := (MM.drewN HM2.out nq).put 0 (.int .i64 (k + 1)) { m with place := m.place + 1 } (by rw [HK.out]; rfl) HM2.out.len rfl
                    have hf3 := (HF2.out.drewN nq).trans (fr2_set (w2.drewN nq) b 0 A (.int .i64 (k + 1)))
                    have he3 := (show Blk (w2.drewN nq) w.heap.size [.int .i64 0, .int .i64 0] from HE2.out).grown (grown_setCell (w2.drewN nq) ⟨b, 0, none⟩ (.int .i64 (k + 1))) (fun e => by injection e with e; exact hbe e)
                    obtain ⟨W3, hW3⟩ : ∃ W3, W3 = World.setCell (w2.drewN nq) ⟨b, 0, none⟩ (.int .i64 (k + 1)) := ⟨_, rfl⟩
                    rw [← hW3] at hm3 hf3 he3
                    first
                      | rw [← hW3]
                      | skip
                    refine (plain_calls W3 b base A c { m with place := m.place + 1 } hm3 ⟨6, ia, ib, ic⟩ HPF.out HPW.out HPN.out (fun _ => HPZ.out)).mono ?_
                    rintro e w4 ⟨rfl, hm4, hf4⟩
                    have HM4 := Lib.hid hm4
                    have HF4 := Lib.hid (hf3.trans hf4)
                    have HE4 := Lib.hid (blk_fr2 he3 hf4 (by omega) (fun g hg e => by have := HA.out g hg; omega))
                    have e0 : w4.cell? ⟨w.heap.size, 0, none⟩ = some (.int .i64 0) := HE4.out.cell rfl
                    have e1 : w4.cell? ⟨w.heap.size, 1, none⟩ = some (.int .i64 0) := HE4.out.cell rfl
                    have f0 := HE4.out.free 0
                    have f1 := HE4.out.free 1
                    clear hm3 hf3 he3 hW3 hm4 hf4 HM2 HF2 HE2 HX2 XQ
                    go_wp2
                    obtain ⟨q1, q2, q3⟩ := ev_put HM4.out HF4.out hbl HA.out HE4.out (.int .i64 0) (.int .i64 0)
                    have y0 := q3.cell (j := 0) rfl
                    have y1 := q3.cell (j := 1) rfl
                    rw [HST.out]
                    exact bodyPost_ret (v := .agg #[.int .i64 0, .int .i64 0]) (by simp [results, Tryz.results50, go_sem, y0, y1]) rfl ⟨rfl, q1, q2⟩
                · skip
                  rw [h7] at x0
                  obtain ⟨op', ia, ib, ic⟩ := i
                  simp only at h7 x0 x1 x2 x3 HOPS h0 h17 h13 h14 HST' HPN
                  subst h7
                  have HC8 : Hid (ic < 8) := Lib.hid (by omega)
                  obtain ⟨rc, hrc⟩ : ∃ rc, rc = m.reg ic := ⟨_, rfl⟩
                  have cR : w2.cell? ⟨b, 1 + ic, none⟩ = some (.int .i64 rc) := by rw [hrc]; exact HM2.out.blk.cell (mcs_reg HM2.out.len HC8.out)
                  have hq := HC8.out
                  have hq2 : (ic : Int) < 8 := by omega
                  by_cases hz : rc = 0
                  · have HST := Lib.hid (HST'.out.trans (if_pos ⟨by omega, by rw [← hrc]; exact hz⟩))
                    subst hz
                    clear HST' HOPS h0 h17 h13 h14 hrc HPN
                    go_wp2_with fail
                    go_quiet (fail)
                    go_wp2_with fail
                    refine (trap_calls _ b base A c m (MM.drewN HM2.out nq) 80).mono ?_
                    rintro e w3 ⟨rfl, hm3, hf3⟩
                    have HM3 := Lib.hid hm3
                    have HF3 := Lib.hid (HF2.out.trans (Fr2.undrew hf3))
                    have HE3 := Lib.hid (blk_fr2 HE2.out (Fr2.undrew hf3) (by omega) (fun g hg e => by have := HA.out g hg; omega))
                    have e0 : w3.cell? ⟨w.heap.size, 0, none⟩ = some (.int .i64 0) := HE3.out.cell rfl
                    have e1 : w3.cell? ⟨w.heap.size, 1, none⟩ = some (.int .i64 0) := HE3.out.cell rfl
                    have f0 := HE3.out.free 0
                    have f1 := HE3.out.free 1
                    clear hm3 hf3 HM2 HF2 HE2 HX2 XQ
                    go_wp2
                    obtain ⟨q1, q2, q3⟩ := ev_put HM3.out HF3.out hbl HA.out HE3.out (.int .i64 (trapM m 80).2.1) (.int .i64 (trapM m 80).2.2)
                    have y0 := q3.cell (j := 0) rfl
                    have y1 := q3.cell (j := 1) rfl
                    rw [HST.out]
                    exact bodyPost_ret (v := .agg #[.int .i64 (trapM m 80).2.1, .int .i64 (trapM m 80).2.2]) (by simp [results, Tryz.results50, go_sem, y0, y1]) rfl ⟨rfl, q1, q2⟩
                  · have HST := Lib.hid (HST'.out.trans (if_neg (fun h => hz (by rw [hrc]; exact h.2))))
                    have HPZ : Hid (({ m with place := m.place + 1 } : Mach).reg ic ≠ 0) := Lib.hid fun h => hz (hrc.trans h)
                    have hzb : (rc == 0) = false := by simpa using hz
                    clear HST' HOPS h0 h17 h13 h14 hrc hz
                    go_wp2_with fail
                    go_quiet (fail)
                    go_wp2_with fail
                    have x0 : w2.cell? ⟨w.heap.size + 1, 0, none⟩ = some (.int .u8 (7 : Nat)) := XQ.out.1
                    have hm3 := (MM.drewN HM2.out nq).put 0 (.int .i64 (k + 1)) { m with place := m.place + 1 } (by rw [HK.out]; rfl) HM2.out.len rfl
                    have hf3 := (HF2.out.drewN nq).trans (fr2_set (w2.drewN nq) b 0 A (.int .i64 (k + 1)))
                    have he3 := (show Blk (w2.drewN nq) w.heap.size [.int .i64 0, .int .i64 0] from HE2.out).grown (grown_setCell (w2.drewN nq) ⟨b, 0, none⟩ (.int .i64 (k + 1))) (fun e => by injection e with e; exact hbe e)
                    obtain ⟨W3, hW3⟩ : ∃ W3, W3 = World.setCell (w2.drewN nq) ⟨b, 0, none⟩ (.int .i64 (k + 1)) := ⟨_, rfl⟩
                    rw [← hW3] at hm3 hf3 he3
                    first
                      | rw [← hW3]
                      | skip
                    refine (plain_calls W3 b base A c { m with place := m.place + 1 } hm3 ⟨7, ia, ib, ic⟩ HPF.out HPW.out HPN.out (fun _ => HPZ.out)).mono ?_
                    rintro e w4 ⟨rfl, hm4, hf4⟩
                    have HM4 := Lib.hid hm4
                    have HF4 := Lib.hid (hf3.trans hf4)
                    have HE4 := Lib.hid (blk_fr2 he3 hf4 (by omega) (fun g hg e => by have := HA.out g hg; omega))
                    have e0 : w4.cell? ⟨w.heap.size, 0, none⟩ = some (.int .i64 0) := HE4.out.cell rfl
                    have e1 : w4.cell? ⟨w.heap.size, 1, none⟩ = some (.int .i64 0) := HE4.out.cell rfl
                    have f0 := HE4.out.free 0
                    have f1 := HE4.out.free 1
                    clear hm3 hf3 he3 hW3 hm4 hf4 HM2 HF2 HE2 HX2 XQ
                    go_wp2
                    obtain ⟨q1, q2, q3⟩ := ev_put HM4.out HF4.out hbl HA.out HE4.out (.int .i64 0) (.int .i64 0)
                    have y0 := q3.cell (j := 0) rfl
                    have y1 := q3.cell (j := 1) rfl
                    rw [HST.out]
                    exact bodyPost_ret (v := .agg #[.int .i64 0, .int .i64 0]) (by simp [results, Tryz.results50, go_sem, y0, y1]) rfl ⟨rfl, q1, q2⟩
              · have HST := Lib.hid (HST'.out.trans (if_neg (fun h => h67 h.1)))
                clear HST'
                have HPZ : Hid ((i.op = 6 ∨ i.op = 7) → ({ m with place := m.place + 1 } : Mach).reg i.c ≠ 0) := Lib.hid fun h => absurd h h67
                have b0 : ((i.op : Int) == 0) = false := by simp; omega
                have b1 : ((i.op : Int) == 17) = false := by simp; omega
                have b2 : ((i.op : Int) == 13) = false := by simp; omega
                have b3 : ((i.op : Int) == 14) = false := by simp; omega
                have b4 : ((i.op : Int) == 6) = false := by simp; omega
                have b5 : ((i.op : Int) == 7) = false := by simp; omega
                clear h0 h17 h13 h14 h67 HOPS
                go_wp2_with fail
                have hm3 := HM2.out.put 0 (.int .i64 (k + 1)) { m with place := m.place + 1 } (by rw [HK.out]; rfl) HM2.out.len rfl
                have hf3 := HF2.out.trans (fr2_set w2 b 0 A (.int .i64 (k + 1)))
                have he3 := HE2.out.grown (grown_setCell w2 ⟨b, 0, none⟩ (.int .i64 (k + 1))) (fun e => by injection e with e; exact hbe e)
                obtain ⟨W3, hW3⟩ : ∃ W3, W3 = World.setCell w2 ⟨b, 0, none⟩ (.int .i64 (k + 1)) := ⟨_, rfl⟩
                rw [← hW3] at hm3 hf3 he3
                first
                  | rw [← hW3]
                  | skip
                refine (plain_calls W3 b base A c { m with place := m.place + 1 } hm3 i HPF.out HPW.out HPN.out HPZ.out).mono ?_
                rintro e w4 ⟨rfl, hm4, hf4⟩
                have HM4 := Lib.hid hm4
                have HF4 := Lib.hid (hf3.trans hf4)
                have HE4 := Lib.hid (blk_fr2 he3 hf4 (by omega) (fun g hg e => by have := HA.out g hg; omega))
                have e0 : w4.cell? ⟨w.heap.size, 0, none⟩ = some (.int .i64 0) := HE4.out.cell rfl
                have e1 : w4.cell? ⟨w.heap.size, 1, none⟩ = some (.int .i64 0) := HE4.out.cell rfl
                have f0 := HE4.out.free 0
                have f1 := HE4.out.free 1
                clear hm3 hf3 he3 hW3 hm4 hf4 HM2 HF2 HE2 HX2 XQ
                go_wp2
                obtain ⟨q1, q2, q3⟩ := ev_put HM4.out HF4.out hbl HA.out HE4.out (.int .i64 0) (.int .i64 0)
                have y0 := q3.cell (j := 0) rfl
                have y1 := q3.cell (j := 1) rfl
                rw [HST.out]
                exact bodyPost_ret (v := .agg #[.int .i64 0, .int .i64 0]) (by simp [results, Tryz.results50, go_sem, y0, y1]) rfl ⟨rfl, q1, q2⟩
  · have hsb : (m.state != 0) = true := by simpa using hs
    have HST : Hid (stepM l m = (m, 0, 0)) := Lib.hid (by simp [stepM, hs])
    clear hs
    go_enter Tryz.func50, Tryz.ntmps50
    go_wp2
    rw [HST.out]
    exact bodyPost_ret (v := .agg #[.int .i64 0, .int .i64 0]) (by simp [results, Tryz.results50, go_sem]) rfl ⟨rfl, HM1.out, HF1.out⟩
/- Machines and events as values. -/
theorem gbelow {w w' : World} (h : w.grownBy w' none) : Below w.heap.size w w' := (Below.refl _ _).grown h (Nat.le_refl _) (fun j e => by cases e)
theorem _root_.Nac.Blk.gn {w w' : World} {b : Nat} {cs : List Value} (h : Blk w b cs) (hg : w.grownBy w' none) : Blk w' b cs := h.grown hg (by simp)
theorem sMach : SInfo 61 12 := ⟨by kernel_rfl, _, Tryz.underlying61, rfl⟩
theorem sEv : SInfo 63 2 := ⟨by kernel_rfl, _, Tryz.underlying63, rfl⟩
theorem mcs_len {m : Mach} {A : Option Addr} {c : Nat} (h : m.r.length = 8) : (mcs m A c).length = 12 := by simp [mcs, h]
theorem mcs_one (m : Mach) (A : Option Addr) (c : Nat) : ∀ v ∈ mcs m A c, v.oneCell' = true := by
  intro v hv
  simp only [mcs, List.mem_cons, List.mem_append, List.mem_map, List.not_mem_nil, or_false] at hv
  rcases hv with rfl | ⟨x, _, rfl⟩ | rfl | rfl | rfl <;> rfl
def ecs (k z : Int) : List Value := [.int .i64 k, .int .i64 z]
theorem ecs_one (k z : Int) : ∀ v ∈ ecs k z, v.oneCell' = true := by
  intro v hv
  simp only [ecs, List.mem_cons, List.not_mem_nil, or_false] at hv
  rcases hv with rfl | rfl <;> rfl
def mv (m : Mach) (A : Option Addr) (c : Nat) : Value := .agg (mcs m A c).toArray
def evv (k z : Int) : Value := .agg (ecs k z).toArray
def zM : Mach := ⟨0, [0, 0, 0, 0, 0, 0, 0, 0], [], 0, 0⟩
theorem zMach : ((Tryz.prog.info? 61).bind (·.zero)) = some (.agg (mcs zM none 0).toArray) := by kernel_rfl
theorem zEv : ((Tryz.prog.info? 63).bind (·.zero)) = some (.agg (ecs 0 0).toArray) := by kernel_rfl
theorem OW.base {w : World} {base base' c : Nat} {A : Option Addr} {l : List Int} (h : OW w base A c l) (hb : base' ≤ base) : OW w base' A c l := by
  refine ⟨h.1, ?_⟩
  rcases h.2 with h | ⟨g, cap, cur, hv, hbg, rest⟩
  · exact .inl h
  · exact .inr ⟨g, cap, cur, hv, Nat.le_trans hb hbg, rest⟩
theorem RIn.mono {w : World} {B B' : Nat} {A : Option Addr} {l : List Ins} (h : RIn w B A l) (hB : B ≤ B') : RIn w B' A l := fun hn => by
  obtain ⟨b, o, hA, hlt, hc⟩ := h hn
  exact ⟨b, o, hA, by omega, hc⟩
theorem OW.other {w : World} {base c : Nat} {A : Option Addr} {l : List Int} (h : OW w base A c l) (p : Addr) (v : Value) (hne : ∀ g, A.map (·.block) = some g → g ≠ p.block) : OW (w.setCell p v) base A c l :=
  h.kept (grown_setCell w p v) (.inr fun e => hne _ e rfl)
theorem Fr2.toBelow {w w1 w2 : World} {B b : Nat} {A : Option Addr} (h : Fr2 b A w1 w2) (hb : Below B w w1) (hB : B ≤ w1.heap.size) (h1 : B ≤ b) (h2 : ∀ g, A.map (·.block) = some g → B ≤ g) : Below B w w2 :=
  ⟨h.os.trans hb.os, h.tape.trans hb.tape, h.output.trans hb.output, Nat.le_trans hb.size h.size, fun k hk => (h.block k (by omega) (by omega) (fun e => by have := h2 k e; omega)).trans (hb.block k hk)⟩
structure SJ (w0 : World) (B base : Nat) (m : Mach) (A : Option Addr) (c : Nat) (k z : Int) (b ev r1 r2 : Nat) (d1 d2 : Bool) (w : World) : Prop where
  mb : Blk w b (mcs m A c)
  eb : Blk w ev (ecs k z)
  rb : ∃ cs, cs.length = 12 ∧ Blk w r1 cs ∧ (d1 = true → cs = mcs m A c)
  sb : ∃ cs, cs.length = 2 ∧ Blk w r2 cs ∧ (d2 = true → cs = ecs k z)
  own : OW w base A c m.mem
  bel : Below B w0 w
structure SN (A : Option Addr) (B b ev r1 r2 : Nat) : Prop where
  n1 : b ≠ r1
  n2 : ev ≠ r1
  n3 : r2 ≠ r1
  n4 : b ≠ r2
  n5 : ev ≠ r2
  b1 : B ≤ r1
  b2 : B ≤ r2
  a1 : A.map (·.block) ≠ some r1
  a2 : A.map (·.block) ≠ some r2
section
variable {w0 w w' : World} {B base : Nat} {m : Mach} {A : Option Addr} {c : Nat} {k z : Int} {b ev r1 r2 : Nat} {d1 d2 : Bool}
theorem SJ.store1 (h : SJ w0 B base m A c k z b ev r1 r2 d1 d2 w) (hn : SN A B b ev r1 r2) (hl : m.r.length = 8) (hB : B ≤ w.heap.size) (hb : Blk w' r1 (mcs m A c)) (hg : w.grownBy w' (some r1)) : SJ w0 B base m A c k z b ev r1 r2 true d2 w' := by
  obtain ⟨cs, h1, h2, h3⟩ := h.sb
  exact ⟨h.mb.grown hg (fun e => hn.n1 (by injection e with e; exact e.symm)), h.eb.grown hg (fun e => hn.n2 (by injection e with e; exact e.symm)), ⟨_, mcs_len hl, hb, fun _ => rfl⟩,
    ⟨cs, h1, h2.grown hg (fun e => hn.n3 (by injection e with e; exact e.symm)), h3⟩, h.own.kept hg (.inr hn.a1), h.bel.grown hg hB (fun j e => by injection e with e; have := hn.b1; omega)⟩
theorem SJ.store2 (h : SJ w0 B base m A c k z b ev r1 r2 d1 d2 w) (hn : SN A B b ev r1 r2) (hB : B ≤ w.heap.size) (hb : Blk w' r2 (ecs k z)) (hg : w.grownBy w' (some r2)) : SJ w0 B base m A c k z b ev r1 r2 d1 true w' := by
  obtain ⟨cs, h1, h2, h3⟩ := h.rb
  exact ⟨h.mb.grown hg (fun e => hn.n4 (by injection e with e; exact e.symm)), h.eb.grown hg (fun e => hn.n5 (by injection e with e; exact e.symm)),
    ⟨cs, h1, h2.grown hg (fun e => hn.n3 (by injection e with e)), h3⟩, ⟨_, rfl, hb, fun _ => rfl⟩, h.own.kept hg (.inr hn.a2), h.bel.grown hg hB (fun j e => by injection e with e; have := hn.b2; omega)⟩
theorem SJ.size (h : SJ w0 B base m A c k z b ev r1 r2 d1 d2 w) (hn : SN A B b ev r1 r2) : B ≤ w.heap.size := by
  obtain ⟨cs, _, h2, _⟩ := h.rb
  have := h2.lt
  have := hn.b1
  omega
end
end Go.Proofs.YtjfpoahmjgeogaaGreatDoor
/- sha: expand. -/
namespace Nac.Sha
open Go Go.RowKit
def u32s (l : List Int) : List Value := l.map (.int .u32 ·)
theorem u32s_len (l : List Int) : (u32s l).length = l.length := by simp [u32s]
theorem u32s_get {l : List Int} {k : Nat} (h : k < l.length) : (u32s l)[k]? = some (.int .u32 (l.getD k 0)) := by
  unfold u32s
  rw [List.getElem?_map, List.getElem?_eq_getElem h, List.getD_eq_getElem?_getD, List.getElem?_eq_getElem h]
  rfl
def wz (l : List Int) : List Value := u32s (l ++ List.replicate (64 - l.length) 0)
theorem wz_len {l : List Int} (h : l.length ≤ 64) : (wz l).length = 64 := by
  unfold wz
  rw [u32s_len, List.length_append, List.length_replicate]
  omega
theorem wz_get {l : List Int} {k : Nat} (h : k < l.length) : (wz l)[k]? = some (.int .u32 (l.getD k 0)) := by
  unfold wz
  rw [u32s_get (by rw [List.length_append]; omega), List.getD_eq_getElem?_getD, List.getElem?_append_left h, ← List.getD_eq_getElem?_getD]
theorem wz_set {l : List Int} (h : l.length < 64) (x : Int) : (wz l).set l.length (.int .u32 x) = wz (l ++ [x]) := by
  unfold wz u32s
  rw [List.map_append, List.map_append, List.set_append_right _ _ (by simp), List.length_map, Nat.sub_self]
  obtain ⟨n, hn⟩ : ∃ n, 64 - l.length = n + 1 := ⟨63 - l.length, by omega⟩
  rw [hn, List.replicate_succ, List.map_cons, List.set_cons_zero, List.map_append, List.append_assoc, List.length_append, List.length_singleton, show 64 - (l.length + 1) = n by omega]
  rfl
end Nac.Sha
namespace Go.Proofs.YtjfpoahmjgeogaaGreatDoor
open Go.RowKit Nac Nac.Sha
theorem sB64 : SInfo 166 64 := ⟨by kernel_rfl, _, Tryz.underlying166, rfl⟩
theorem sW64 : SInfo 194 64 := ⟨by kernel_rfl, _, Tryz.underlying194, rfl⟩
theorem aB64 : AInfo 166 5 64 := ⟨by kernel_rfl, by kernel_rfl⟩
theorem zW64 : ((Tryz.prog.info? 194).bind (·.zero)) = some (.agg (wz []).toArray) := by kernel_rfl
def ExR1 (w0 : World) (B0 B1 B2 : Nat) (L : List UInt8) (s : Value) (w : World) : Prop :=
  ∃ k : Nat, k ≤ 16 ∧ s = .int .i64 (k : Int) ∧ Blk w B2 (wz (firstW L k)) ∧ Blk w B0 (L.map bv) ∧ Blk w B1 (wz []) ∧ Below w0.heap.size w0 w
def ExR2 (w0 : World) (_B0 B1 B2 : Nat) (L : List UInt8) (s : Value) (w : World) : Prop :=
  ∃ t : Nat, 16 ≤ t ∧ t ≤ 64 ∧ s = .int .i64 (t : Int) ∧ Blk w B2 (wz (wordsW L t)) ∧ Blk w B1 (wz []) ∧ Below w0.heap.size w0 w
def RetExp (w : World) (L : List UInt8) (e : Ending) (w' : World) : Prop := e = .returned (.agg (u32s (expandF L)).toArray) ∧ Below w.heap.size w w'
set_option maxRecDepth 100000 in
set_option maxHeartbeats 2000000 in
theorem expand_calls (w : World) (L : List UInt8) (hL : L.length = 64) : Calls Tryz.prog 104 #[.agg (L.map bv).toArray] w (RetExp w L) := by
  have HL := Lib.hid hL
  clear hL
  go_enter Tryz.func104, Tryz.ntmps104
  go_wp2_with ((with_reducible show wpList _ _ _ (Oper.mk _ (Op.box _ _) _ _ _ _ :: _) _ _); refine wpList_boxS rfl _ rfl (L.map bv) rfl ?_)
  intro w1 hb1 hg1 hs1
  have HB1 := Lib.hid hb1
  have HG1 := Lib.hid hg1
  have HS1 := Lib.hid hs1
  clear hb1 hg1 hs1
  go_wp2_with ((with_reducible show wpList _ _ _ (Oper.mk _ (Op.alloc 194) _ _ _ _ :: _) _ _); refine wpList_allocS _ zW64 rfl rfl ?_)
  intro w2 hb2 hg2 hs2
  have HB2 := Lib.hid hb2
  have HG2 := Lib.hid hg2
  have HS2 := Lib.hid hs2
  clear hb2 hg2 hs2
  go_wp2_with ((with_reducible show wpList _ _ _ (Oper.mk _ (Op.alloc 194) _ _ _ _ :: _) _ _); refine wpList_allocS _ zW64 rfl rfl ?_)
  intro w3 hb3 hg3 hs3
  have HW : Hid (Blk w3 w2.heap.size (wz (firstW L 0)) ∧ Blk w3 w.heap.size (L.map bv) ∧ Blk w3 w1.heap.size (wz []) ∧ Below w.heap.size w w3) := Lib.hid <| by
    have h1 := HS1.out
    have h2 := HS2.out
    refine ⟨hb3, (HB1.out.grown HG2.out (by simp)).grown hg3 (by simp), HB2.out.grown hg3 (by simp), ?_⟩
    exact ((gbelow HG1.out).trans ((gbelow HG2.out).mono (by omega))).trans ((gbelow hg3).mono (by omega))
  have HN : Hid (w1.heap.size = w.heap.size + 1 ∧ w2.heap.size = w.heap.size + 2) := Lib.hid ⟨HS1.out, by rw [HS2.out, HS1.out]⟩
  clear HB1 HG1 HS1 HB2 HG2 HS2 hb3 hg3 hs3
  obtain ⟨B0, hB0⟩ : ∃ B0, B0 = w.heap.size := ⟨_, rfl⟩
  obtain ⟨B1, hB1⟩ : ∃ B1, B1 = w1.heap.size := ⟨_, rfl⟩
  obtain ⟨B2, hB2⟩ : ∃ B2, B2 = w2.heap.size := ⟨_, rfl⟩
  have HE0 := Lib.hid hB0
  rw [← hB0, ← hB1, ← hB2] at HW
  rw [← hB1, ← hB2] at HN
  rw [← hB0, ← hB1, ← hB2]
  clear hB0 hB1 hB2
  go_wp2
  go_loopw [11] (fun s11 wr => ExR1 w B0 B1 B2 L s11 wr) (fun s11 _ => 16 - (intOf s11).toNat)
  case atStart =>
    obtain ⟨h1, h2, h3, h4⟩ := HW.out
    refine ⟨0, by decide, rfl, h1, h2, h3, ?_⟩
    rw [HE0.out] at h4
    exact h4
  case round =>
    obtain ⟨k, hk, rfl, hb2, hb0, hb1, hbel⟩ := hrel
    have H2 := Lib.hid hb2
    have H0 := Lib.hid hb0
    have H1 := Lib.hid hb1
    have HBEL := Lib.hid hbel
    clear hb2 hb0 hb1 hbel
    by_cases hlt : k < 16
    · obtain ⟨kk, hkk⟩ : ∃ kk, kk = 4 * k := ⟨_, rfl⟩
      have HKK := Lib.hid hkk
      have e4 : (4 : Int) * (k : Int) = (kk : Int) := by omega
      have hk64 : kk < 64 := by omega
      have HLT := Lib.hid hlt
      clear hkk hk
      have hl : L.length = 64 := HL.out
      obtain ⟨x0, hx0⟩ : ∃ x, x = byteI L kk := ⟨_, rfl⟩
      obtain ⟨x1, hx1⟩ : ∃ x, x = byteI L (kk + 1) := ⟨_, rfl⟩
      obtain ⟨x2, hx2⟩ : ∃ x, x = byteI L (kk + 2) := ⟨_, rfl⟩
      obtain ⟨x3, hx3⟩ : ∃ x, x = byteI L (kk + 3) := ⟨_, rfl⟩
      have HX : Hid (wordF L k = wordI x0 x1 x2 x3) := Lib.hid <| by
        rw [hx0, hx1, hx2, hx3, HKK.out]
        rfl
      go_wp2_with ((with_reducible show wpList _ _ _ (Oper.mk _ (Op.slice _ _ (some _) none none) _ _ _ _ :: _) _ _); refine wpList_arrLo aB64 rfl _ _ rfl B0 0 kk hk64 rfl rfl ?_)
      intro o m hm
      have MC : Hid (∀ (w' : World), w' = wr.drew → w'.cell? ⟨B0, o, none⟩ = some (.int .u8 x0) ∧ w'.cell? ⟨B0, o + 1, none⟩ = some (.int .u8 x1) ∧ w'.cell? ⟨B0, o + 2, none⟩ = some (.int .u8 x2) ∧ w'.cell? ⟨B0, o + 3, none⟩ = some (.int .u8 x3)) := Lib.hid <| by
        intro w' e
        subst e
        have hc : ∀ j, j < 64 → wr.drew.cell? ⟨B0, j, none⟩ = some (.int .u8 (byteI L j)) := fun j hj => by
          refine H0.out.drew.cell ?_
          rw [List.getElem?_map, List.getElem?_eq_getElem (by omega)]
          unfold byteI
          rw [List.getD_eq_getElem?_getD, List.getElem?_eq_getElem (by omega)]
          rfl
        rw [show o = kk by have := hm.out.1; omega, hx0, hx1, hx2, hx3]
        have := HLT.out
        have := HKK.out
        exact ⟨hc _ (by omega), hc _ (by omega), hc _ (by omega), hc _ (by omega)⟩
      have HM4 : Hid (4 ≤ m) := Lib.hid (by have := hm.out.2; have := HLT.out; have := HKK.out; omega)
      clear hm hx0 hx1 hx2 hx3 hl e4 hk64 hlt
      go_wp2_with fail
      refine region_tail 24 [.int .i64 (k : Int), .slice (some ⟨B0, o, none⟩) m m, .pointer (some ⟨B0, o, none⟩), .int .u8 x0, .int .u32 (IntKind.u32.wrap x0), .int .u32 (sl (IntKind.u32.wrap x0) 16777216), .slice (some ⟨B0, o, none⟩) m m, .pointer (some ⟨B0, o + 1, none⟩), .int .u8 x1, .int .u32 (IntKind.u32.wrap x1), .int .u32 (sl (IntKind.u32.wrap x1) 65536), .int .u32 (orr (sl (IntKind.u32.wrap x0) 16777216) (sl (IntKind.u32.wrap x1) 65536)), .slice (some ⟨B0, o, none⟩) m m, .pointer (some ⟨B0, o + 2, none⟩), .int .u8 x2, .int .u32 (IntKind.u32.wrap x2), .int .u32 (sl (IntKind.u32.wrap x2) 256), .int .u32 (orr (orr (sl (IntKind.u32.wrap x0) 16777216) (sl (IntKind.u32.wrap x1) 65536)) (sl (IntKind.u32.wrap x2) 256)), .slice (some ⟨B0, o, none⟩) m m, .pointer (some ⟨B0, o + 3, none⟩), .int .u8 x3, .int .u32 (IntKind.u32.wrap x3), .int .u32 (wordI x0 x1 x2 x3), .pointer (some ⟨B2, k, none⟩)] [some 17, some 18, some 19, some 20, some 21, some 22, some 23, some 24, some 25, some 26, some 27, some 28, some 29, some 30, some 31, some 32, some 33, some 34, some 35, some 36, some 37, some 38, some 39, some 40] (fun _ w' => w' = wr.drew) (by kernel_rfl) (by kernel_rfl) (by kernel_rfl) (by kernel_rfl) rfl rfl rfl (fun ii hii => ?_) ?_
      · match ii, hii with
        | 0, _ => exact vstep_first rfl (vwant_none rfl) (fun _ _ h => h) 4 (Or.inl rfl) (by kernel_rfl) rfl
        | 1, _ => exact vstep_first rfl (vwant_none rfl) (fun _ _ h => h) 5 (Or.inl rfl) (by kernel_rfl) rfl
        | 2, _ => exact vstep_pure rfl (vwant_none rfl) (fun _ _ h => h) (fun LL aa ww cc => ⟨.pointer (some ⟨B0, o, none⟩), by have e0 : aa.tmps.getD 18 undef = .slice (some ⟨B0, o, none⟩) m m := cc.slot 1 18 (by kernel_rfl) rfl; have q1 : ¬ m = 0 := (by have := HM4.out; omega); simp only [execOp, Act.eval]; go_simp, rfl⟩)
        | 3, _ => exact vstep_pure rfl (vwant_none rfl) (fun _ _ h => h) (fun LL aa ww cc => ⟨.int .u8 x0, by have e0 : aa.tmps.getD 19 undef = .pointer (some ⟨B0, o, none⟩) := cc.slot 2 19 (by kernel_rfl) rfl; obtain ⟨m0, m1, m2, m3⟩ := MC.out _ cc.world; simp only [execOp, Act.eval]; go_simp, rfl⟩)
        | 4, _ => exact vstep_pure rfl (vwant_none rfl) (fun _ _ h => h) (fun LL aa ww cc => ⟨.int .u32 (IntKind.u32.wrap x0), by have e0 : aa.tmps.getD 20 undef = .int .u8 x0 := cc.slot 3 20 (by kernel_rfl) rfl; simp only [execOp, Act.eval]; go_simp <;> rfl, rfl⟩)
        | 5, _ => exact vstep_pure rfl (vwant_none rfl) (fun _ _ h => h) (fun LL aa ww cc => ⟨.int .u32 (sl (IntKind.u32.wrap x0) 16777216), by have e0 : aa.tmps.getD 21 undef = .int .u32 (IntKind.u32.wrap x0) := cc.slot 4 21 (by kernel_rfl) rfl; simp only [execOp, Act.eval]; go_simp <;> rfl, rfl⟩)
        | 6, _ => exact vstep_first rfl (vwant_none rfl) (fun _ _ h => h) 5 (Or.inl rfl) (by kernel_rfl) rfl
        | 7, _ => exact vstep_pure rfl (vwant_none rfl) (fun _ _ h => h) (fun LL aa ww cc => ⟨.pointer (some ⟨B0, o + 1, none⟩), by have e0 : aa.tmps.getD 23 undef = .slice (some ⟨B0, o, none⟩) m m := cc.slot 6 23 (by kernel_rfl) rfl; have q1 : (1 : Int) < m := (by have := HM4.out; omega); simp only [execOp, Act.eval]; go_simp, rfl⟩)
        | 8, _ => exact vstep_pure rfl (vwant_none rfl) (fun _ _ h => h) (fun LL aa ww cc => ⟨.int .u8 x1, by have e0 : aa.tmps.getD 24 undef = .pointer (some ⟨B0, o + 1, none⟩) := cc.slot 7 24 (by kernel_rfl) rfl; obtain ⟨m0, m1, m2, m3⟩ := MC.out _ cc.world; simp only [execOp, Act.eval]; go_simp, rfl⟩)
        | 9, _ => exact vstep_pure rfl (vwant_none rfl) (fun _ _ h => h) (fun LL aa ww cc => ⟨.int .u32 (IntKind.u32.wrap x1), by have e0 : aa.tmps.getD 25 undef = .int .u8 x1 := cc.slot 8 25 (by kernel_rfl) rfl; simp only [execOp, Act.eval]; go_simp <;> rfl, rfl⟩)
        | 10, _ => exact vstep_pure rfl (vwant_none rfl) (fun _ _ h => h) (fun LL aa ww cc => ⟨.int .u32 (sl (IntKind.u32.wrap x1) 65536), by have e0 : aa.tmps.getD 26 undef = .int .u32 (IntKind.u32.wrap x1) := cc.slot 9 26 (by kernel_rfl) rfl; simp only [execOp, Act.eval]; go_simp <;> rfl, rfl⟩)
        | 11, _ => exact vstep_pure rfl (vwant_none rfl) (fun _ _ h => h) (fun LL aa ww cc => ⟨.int .u32 (orr (sl (IntKind.u32.wrap x0) 16777216) (sl (IntKind.u32.wrap x1) 65536)), by have e0 : aa.tmps.getD 22 undef = .int .u32 (sl (IntKind.u32.wrap x0) 16777216) := cc.slot 5 22 (by kernel_rfl) rfl; have e1 : aa.tmps.getD 27 undef = .int .u32 (sl (IntKind.u32.wrap x1) 65536) := cc.slot 10 27 (by kernel_rfl) rfl; simp only [execOp, Act.eval]; go_simp <;> rfl, rfl⟩)
        | 12, _ => exact vstep_first rfl (vwant_none rfl) (fun _ _ h => h) 5 (Or.inl rfl) (by kernel_rfl) rfl
        | 13, _ => exact vstep_pure rfl (vwant_none rfl) (fun _ _ h => h) (fun LL aa ww cc => ⟨.pointer (some ⟨B0, o + 2, none⟩), by have e0 : aa.tmps.getD 29 undef = .slice (some ⟨B0, o, none⟩) m m := cc.slot 12 29 (by kernel_rfl) rfl; have q1 : (2 : Int) < m := (by have := HM4.out; omega); simp only [execOp, Act.eval]; go_simp, rfl⟩)
        | 14, _ => exact vstep_pure rfl (vwant_none rfl) (fun _ _ h => h) (fun LL aa ww cc => ⟨.int .u8 x2, by have e0 : aa.tmps.getD 30 undef = .pointer (some ⟨B0, o + 2, none⟩) := cc.slot 13 30 (by kernel_rfl) rfl; obtain ⟨m0, m1, m2, m3⟩ := MC.out _ cc.world; simp only [execOp, Act.eval]; go_simp, rfl⟩)
        | 15, _ => exact vstep_pure rfl (vwant_none rfl) (fun _ _ h => h) (fun LL aa ww cc => ⟨.int .u32 (IntKind.u32.wrap x2), by have e0 : aa.tmps.getD 31 undef = .int .u8 x2 := cc.slot 14 31 (by kernel_rfl) rfl; simp only [execOp, Act.eval]; go_simp <;> rfl, rfl⟩)
        | 16, _ => exact vstep_pure rfl (vwant_none rfl) (fun _ _ h => h) (fun LL aa ww cc => ⟨.int .u32 (sl (IntKind.u32.wrap x2) 256), by have e0 : aa.tmps.getD 32 undef = .int .u32 (IntKind.u32.wrap x2) := cc.slot 15 32 (by kernel_rfl) rfl; simp only [execOp, Act.eval]; go_simp <;> rfl, rfl⟩)
        | 17, _ => exact vstep_pure rfl (vwant_none rfl) (fun _ _ h => h) (fun LL aa ww cc => ⟨.int .u32 (orr (orr (sl (IntKind.u32.wrap x0) 16777216) (sl (IntKind.u32.wrap x1) 65536)) (sl (IntKind.u32.wrap x2) 256)), by have e0 : aa.tmps.getD 28 undef = .int .u32 (orr (sl (IntKind.u32.wrap x0) 16777216) (sl (IntKind.u32.wrap x1) 65536)) := cc.slot 11 28 (by kernel_rfl) rfl; have e1 : aa.tmps.getD 33 undef = .int .u32 (sl (IntKind.u32.wrap x2) 256) := cc.slot 16 33 (by kernel_rfl) rfl; simp only [execOp, Act.eval]; go_simp <;> rfl, rfl⟩)
        | 18, _ => exact vstep_first rfl (vwant_none rfl) (fun _ _ h => h) 5 (Or.inl rfl) (by kernel_rfl) rfl
        | 19, _ => exact vstep_pure rfl (vwant_none rfl) (fun _ _ h => h) (fun LL aa ww cc => ⟨.pointer (some ⟨B0, o + 3, none⟩), by have e0 : aa.tmps.getD 35 undef = .slice (some ⟨B0, o, none⟩) m m := cc.slot 18 35 (by kernel_rfl) rfl; have q1 : (3 : Int) < m := (by have := HM4.out; omega); simp only [execOp, Act.eval]; go_simp, rfl⟩)
        | 20, _ => exact vstep_pure rfl (vwant_none rfl) (fun _ _ h => h) (fun LL aa ww cc => ⟨.int .u8 x3, by have e0 : aa.tmps.getD 36 undef = .pointer (some ⟨B0, o + 3, none⟩) := cc.slot 19 36 (by kernel_rfl) rfl; obtain ⟨m0, m1, m2, m3⟩ := MC.out _ cc.world; simp only [execOp, Act.eval]; go_simp, rfl⟩)
        | 21, _ => exact vstep_pure rfl (vwant_none rfl) (fun _ _ h => h) (fun LL aa ww cc => ⟨.int .u32 (IntKind.u32.wrap x3), by have e0 : aa.tmps.getD 37 undef = .int .u8 x3 := cc.slot 20 37 (by kernel_rfl) rfl; simp only [execOp, Act.eval]; go_simp <;> rfl, rfl⟩)
        | 22, _ => exact vstep_pure rfl (vwant_none rfl) (fun _ _ h => h) (fun LL aa ww cc => ⟨.int .u32 (wordI x0 x1 x2 x3), by have e0 : aa.tmps.getD 34 undef = .int .u32 (orr (orr (sl (IntKind.u32.wrap x0) 16777216) (sl (IntKind.u32.wrap x1) 65536)) (sl (IntKind.u32.wrap x2) 256)) := cc.slot 17 34 (by kernel_rfl) rfl; have e1 : aa.tmps.getD 38 undef = .int .u32 (IntKind.u32.wrap x3) := cc.slot 21 38 (by kernel_rfl) rfl; simp only [execOp, Act.eval]; go_simp <;> rfl, rfl⟩)
        | 23, _ => exact vstep_pure rfl (vwant_none rfl) (fun _ _ h => h) (fun LL aa ww cc => ⟨.pointer (some ⟨B2, k, none⟩), by have e0 : aa.tmps.getD 3 undef = .pointer (some ⟨B2, 0, none⟩) := (cc.orig 3 (by kernel_rfl)).trans rfl; have e1 : aa.tmps.getD 17 undef = .int .i64 (k : Int) := cc.slot 0 17 (by kernel_rfl) rfl; have q1 : (k : Int) < 64 := (by have := HLT.out; omega); simp only [execOp, Act.eval]; go_simp, rfl⟩)
        | n + 24, h => exact absurd h (by show ¬ (n + 24 < 24); omega)
      · intro L5 w5 hall hJ
        obtain rfl := hJ
        clear MC hall
        simp only [List.zip_cons_cons, List.zip_nil_right, putsL]
        go_simp
        have HBD : Hid (Blk wr.drew B2 (wz (firstW L k))) := Lib.hid H2.out.drew
        have HFL : Hid ((firstW L k).length = k) := Lib.hid (by simp [firstW])
        go_wp2_with ((with_reducible show wpList _ _ _ (Oper.mk _ (Op.store _ _ _) _ _ _ _ :: _) _ _); refine wpList_storeB rfl _ _ _ rfl B2 k (wz (firstW L k)) _ (by rw [wz_len (by have := HFL.out; have := HLT.out; omega)]; have := HLT.out; omega) rfl rfl HBD.out (by kernel_rfl) rfl ?_)
        intro w6 hb6 hg6 hs6
        have HF : Hid (ExR1 w B0 B1 B2 L (.int .i64 ((k + 1 : Nat) : Int)) w6) := Lib.hid <| by
          have hn := HN.out
          have he := HE0.out
          refine ⟨k + 1, HLT.out, rfl, ?_, H0.out.drew.grown hg6.out (by simp; omega), H1.out.drew.grown hg6.out (by simp; omega), HBEL.out.drew.grown hg6.out (HBEL.out.drew.size) fun j e => ?_⟩
          · have h6 := hb6.out
            have e := wz_set (l := firstW L k) (by rw [HFL.out]; have := HLT.out; omega) (wordI x0 x1 x2 x3)
            rw [HFL.out] at e
            rw [e, ← HX.out, ← first_snoc] at h6
            exact h6
          · injection e with e
            omega
        clear hb6 hg6 hs6 HBD HFL HX H2 H0 H1 HBEL
        go_wp2
        go_roundw
        case rel => first | exact HF.out | (have e5 : ((k : Int) + 1) = ((k + 1 : Nat) : Int) := by omega
                                            rw [e5]; exact HF.out)
        case measure => simp [intOf]; have := HLT.out; omega
    · have hk16 : k = 16 := by omega
      have e16 : (k : Int) = 16 := by omega
      rw [e16]
      clear e16
      subst hk16
      have HW2 : Hid (Blk wr B2 (wz (wordsW L 16)) ∧ Blk wr B1 (wz []) ∧ Below w.heap.size w wr) := Lib.hid ⟨H2.out, H1.out, HBEL.out⟩
      obtain ⟨w4, hw4⟩ : ∃ w4, w4 = wr := ⟨_, rfl⟩
      rw [← hw4] at HW2 ⊢
      clear H2 H0 H1 HBEL hw4 hk
      go_wp2
      clear hlt
      go_loopw [6] (fun s6 wr => ExR2 w B0 B1 B2 L s6 wr) (fun s6 _ => 64 - (intOf s6).toNat)
      case atStart =>
        obtain ⟨h1, h2, h3⟩ := HW2.out
        exact ⟨16, by decide, by decide, rfl, h1, h2, h3⟩
      case round =>
        clear HW2
        obtain ⟨t, ht16, ht64, rfl, hb2, hb1, hbel⟩ := hrel
        have H2 := Lib.hid hb2
        have H1 := Lib.hid hb1
        have HBEL := Lib.hid hbel
        clear hb2 hb1 hbel
        have HLW : Hid ((wordsW L t).length = t) := Lib.hid (words_len L ht16)
        by_cases hlt : t < 64
        · have HLT := Lib.hid hlt
          have HGE := Lib.hid ht16
          obtain ⟨a15, h15⟩ : ∃ a, a = t - 15 := ⟨_, rfl⟩
          obtain ⟨a2, h2⟩ : ∃ a, a = t - 2 := ⟨_, rfl⟩
          obtain ⟨a7, h7⟩ : ∃ a, a = t - 7 := ⟨_, rfl⟩
          obtain ⟨a16, h16⟩ : ∃ a, a = t - 16 := ⟨_, rfl⟩
          have E15 : Hid ((t : Int) - 15 = (a15 : Int)) := Lib.hid (by omega)
          have E2 : Hid ((t : Int) - 2 = (a2 : Int)) := Lib.hid (by omega)
          have E7 : Hid ((t : Int) - 7 = (a7 : Int)) := Lib.hid (by omega)
          have E16 : Hid ((t : Int) - 16 = (a16 : Int)) := Lib.hid (by omega)
          have A15 : Hid (a15 < 64) := Lib.hid (by omega)
          have A2 : Hid (a2 < 64) := Lib.hid (by omega)
          have A7 : Hid (a7 < 64) := Lib.hid (by omega)
          have A16 : Hid (a16 < 64) := Lib.hid (by omega)
          obtain ⟨x, hx⟩ : ∃ x, x = (wordsW L t).getD a15 0 := ⟨_, rfl⟩
          obtain ⟨y, hy⟩ : ∃ x, x = (wordsW L t).getD a2 0 := ⟨_, rfl⟩
          obtain ⟨z7, hz7⟩ : ∃ x, x = (wordsW L t).getD a7 0 := ⟨_, rfl⟩
          obtain ⟨z16, hz16⟩ : ∃ x, x = (wordsW L t).getD a16 0 := ⟨_, rfl⟩
          have HX : Hid (nextW (wordsW L t) = nextI x y z7 z16) := Lib.hid <| by
            unfold nextW
            rw [HLW.out, ← h15, ← h2, ← h7, ← h16, ← hx, ← hy, ← hz7, ← hz16]
          have hcell : ∀ (w' : World) (k : Nat), w'.heap = wr.heap → k < t → w'.cell? ⟨B2, k, none⟩ = some (.int .u32 ((wordsW L t).getD k 0)) := fun w' k e hk => by
            have hb : Blk w' B2 (wz (wordsW L t)) := H2.out.keep (by rw [e])
            exact hb.cell (wz_get (by rw [HLW.out]; exact hk))
          have MC0 : Hid (∀ (w' : World), w'.heap = wr.heap → w'.cell? ⟨B2, a15, none⟩ = some (.int .u32 x) ∧ w'.cell? ⟨B2, a2, none⟩ = some (.int .u32 y) ∧ w'.cell? ⟨B2, a7, none⟩ = some (.int .u32 z7) ∧ w'.cell? ⟨B2, a16, none⟩ = some (.int .u32 z16)) := Lib.hid <| by
            intro w' e
            rw [hx, hy, hz7, hz16]
            exact ⟨hcell _ _ e (by omega), hcell _ _ e (by omega), hcell _ _ e (by omega), hcell _ _ e (by omega)⟩
          have MC : Hid (∀ (w' : World), w' = wr.drew → w'.cell? ⟨B2, a15, none⟩ = some (.int .u32 x) ∧ w'.cell? ⟨B2, a2, none⟩ = some (.int .u32 y) ∧ w'.cell? ⟨B2, a7, none⟩ = some (.int .u32 z7) ∧ w'.cell? ⟨B2, a16, none⟩ = some (.int .u32 z16)) := Lib.hid fun w' e => MC0.out w' (by rw [e]; rfl)
          clear hcell hx hy hz7 hz16 h15 h2 h7 h16 ht16 ht64
          go_wp2_with fail
          refine region_vals [.int .i64 (t : Int), .int .i64 (a15 : Int), .pointer (some ⟨B2, a15, none⟩), .int .u32 x, .int .i64 (t : Int), .int .i64 (a2 : Int), .pointer (some ⟨B2, a2, none⟩), .int .u32 y, .int .u32 x, .int .u32 y] [some 46, some 47, some 48, some 49, some 50, some 51, some 52, some 53, some 7, some 8] (fun _ w' => w' = wr.drew) (by kernel_rfl) (by kernel_rfl) (by kernel_rfl) rfl rfl rfl (fun ii hii => ?_) ?_
          · match ii, hii with
            | 0, _ => exact vstep_first rfl (vwant_none rfl) (fun _ _ h => h) 6 (Or.inl rfl) (by kernel_rfl) rfl
            | 1, _ => exact vstep_pure rfl (vwant_none rfl) (fun _ _ h => h) (fun LL aa ww cc => ⟨.int .i64 (a15 : Int), by have e0 : aa.tmps.getD 46 undef = .int .i64 (t : Int) := cc.slot 0 46 (by kernel_rfl) rfl; have q1 := E15.out; have q3 : (a15 : Int) < 64 := (by have := A15.out; omega); have q2 : IntKind.i64.wrap (a15 : Int) = a15 := (by rw [Go.IntWalk.i64_left]; unfold wrap64; omega); simp only [execOp, Act.eval]; go_simp, rfl⟩)
            | 2, _ => exact vstep_pure rfl (vwant_none rfl) (fun _ _ h => h) (fun LL aa ww cc => ⟨.pointer (some ⟨B2, a15, none⟩), by have e0 : aa.tmps.getD 3 undef = .pointer (some ⟨B2, 0, none⟩) := (cc.orig 3 (by kernel_rfl)).trans rfl; have e1 : aa.tmps.getD 47 undef = .int .i64 (a15 : Int) := cc.slot 1 47 (by kernel_rfl) rfl; have q1 : (a15 : Int) < 64 := (by have := A15.out; omega); simp only [execOp, Act.eval]; go_simp, rfl⟩)
            | 3, _ => exact vstep_pure rfl (vwant_none rfl) (fun _ _ h => h) (fun LL aa ww cc => ⟨.int .u32 x, by have e0 : aa.tmps.getD 48 undef = .pointer (some ⟨B2, a15, none⟩) := cc.slot 2 48 (by kernel_rfl) rfl; obtain ⟨m0, m1, m2, m3⟩ := MC.out _ cc.world; simp only [execOp, Act.eval]; go_simp, rfl⟩)
            | 4, _ => exact vstep_first rfl (vwant_none rfl) (fun _ _ h => h) 6 (Or.inl rfl) (by kernel_rfl) rfl
            | 5, _ => exact vstep_pure rfl (vwant_none rfl) (fun _ _ h => h) (fun LL aa ww cc => ⟨.int .i64 (a2 : Int), by have e0 : aa.tmps.getD 50 undef = .int .i64 (t : Int) := cc.slot 4 50 (by kernel_rfl) rfl; have q1 := E2.out; have q3 : (a2 : Int) < 64 := (by have := A2.out; omega); have q2 : IntKind.i64.wrap (a2 : Int) = a2 := (by rw [Go.IntWalk.i64_left]; unfold wrap64; omega); simp only [execOp, Act.eval]; go_simp, rfl⟩)
            | 6, _ => exact vstep_pure rfl (vwant_none rfl) (fun _ _ h => h) (fun LL aa ww cc => ⟨.pointer (some ⟨B2, a2, none⟩), by have e0 : aa.tmps.getD 3 undef = .pointer (some ⟨B2, 0, none⟩) := (cc.orig 3 (by kernel_rfl)).trans rfl; have e1 : aa.tmps.getD 51 undef = .int .i64 (a2 : Int) := cc.slot 5 51 (by kernel_rfl) rfl; have q1 : (a2 : Int) < 64 := (by have := A2.out; omega); simp only [execOp, Act.eval]; go_simp, rfl⟩)
            | 7, _ => exact vstep_pure rfl (vwant_none rfl) (fun _ _ h => h) (fun LL aa ww cc => ⟨.int .u32 y, by have e0 : aa.tmps.getD 52 undef = .pointer (some ⟨B2, a2, none⟩) := cc.slot 6 52 (by kernel_rfl) rfl; obtain ⟨m0, m1, m2, m3⟩ := MC.out _ cc.world; simp only [execOp, Act.eval]; go_simp, rfl⟩)
            | 8, _ => exact vstep_copy rfl (vwant_none rfl) (fun _ _ h => h) 49 (Or.inr rfl) 3 (by kernel_rfl) rfl (fun _ h => h)
            | 9, _ => exact vstep_copy rfl (vwant_none rfl) (fun _ _ h => h) 53 (Or.inr rfl) 7 (by kernel_rfl) rfl (fun _ h => h)
            | n + 10, h => exact absurd h (by show ¬ (n + 10 < 10); omega)
          intro L5 w5 hall hJ
          have HWR : Hid (w5.heap = wr.heap ∧ w5 = wr.drew) := Lib.hid ⟨by rw [hJ]; rfl, hJ⟩
          clear hall hJ MC E15 E2 A15 A2
          simp only [List.zip_cons_cons, List.zip_nil_right, putsL]
          go_simp
          refine (by assumption : ∀ (a : Act) (w : World), Code.wp _ _ _ a w → _) _ _ ?_
          have R7 : Hid (Calls Tryz.prog 105 #[.int .u32 x, .int .i64 7] w5 fun e w' => e = .returned (.int .u32 (rotI x 7)) ∧ w' = w5) := Lib.hid (rotate_calls w5 x 7 (by decide) (by decide))
          have R18 : Hid (Calls Tryz.prog 105 #[.int .u32 x, .int .i64 18] w5 fun e w' => e = .returned (.int .u32 (rotI x 18)) ∧ w' = w5) := Lib.hid (rotate_calls w5 x 18 (by decide) (by decide))
          have R17 : Hid (Calls Tryz.prog 105 #[.int .u32 y, .int .i64 17] w5 fun e w' => e = .returned (.int .u32 (rotI y 17)) ∧ w' = w5) := Lib.hid (rotate_calls w5 y 17 (by decide) (by decide))
          have R19 : Hid (Calls Tryz.prog 105 #[.int .u32 y, .int .i64 19] w5 fun e w' => e = .returned (.int .u32 (rotI y 19)) ∧ w' = w5) := Lib.hid (rotate_calls w5 y 19 (by decide) (by decide))
          go_wp2_with (go_at_call 105; first | (with_reducible refine R7.out.mono ?_; rintro e w' ⟨rfl, rfl⟩) | (with_reducible refine R18.out.mono ?_; rintro e w' ⟨rfl, rfl⟩) | (with_reducible refine R17.out.mono ?_; rintro e w' ⟨rfl, rfl⟩) | (with_reducible refine R19.out.mono ?_; rintro e w' ⟨rfl, rfl⟩))
          clear R7 R18 R17 R19
          obtain ⟨s0, hs0⟩ : ∃ s, s = s0I x := ⟨_, rfl⟩
          obtain ⟨s1, hs1⟩ : ∃ s, s = s1I y := ⟨_, rfl⟩
          have e0 : bits .xor .u32 (bits .xor .u32 (rotI x 7) (rotI x 18)) (x / 8) = s0 := hs0.symm
          have e1 : bits .xor .u32 (bits .xor .u32 (rotI y 17) (rotI y 19)) (y / 1024) = s1 := hs1.symm
          rw [e0, e1]
          have HS0 := Lib.hid hs0
          have HS1 := Lib.hid hs1
          clear e0 e1 hs0 hs1
          obtain ⟨wd, hwd⟩ : ∃ wd, wd = w' := ⟨_, rfl⟩
          rw [← hwd] at HWR ⊢
          clear hwd
          have MC : Hid (∀ (w' : World), w' = wd.drew → w'.cell? ⟨B2, a15, none⟩ = some (.int .u32 x) ∧ w'.cell? ⟨B2, a2, none⟩ = some (.int .u32 y) ∧ w'.cell? ⟨B2, a7, none⟩ = some (.int .u32 z7) ∧ w'.cell? ⟨B2, a16, none⟩ = some (.int .u32 z16)) := Lib.hid fun w' e => MC0.out w' (by rw [e]; exact HWR.out.1)
          clear MC0
          refine region_tail 15 [.int .i64 (t : Int), .int .u32 s1, .int .i64 (t : Int), .int .i64 (a7 : Int), .pointer (some ⟨B2, a7, none⟩), .int .u32 z7, .int .u32 (ad s1 z7), .int .u32 s0, .int .u32 (ad (ad s1 z7) s0), .int .i64 (t : Int), .int .i64 (a16 : Int), .pointer (some ⟨B2, a16, none⟩), .int .u32 z16, .int .u32 (ad (ad (ad s1 z7) s0) z16), .pointer (some ⟨B2, t, none⟩)] [some 70, some 71, some 72, some 73, some 74, some 75, some 76, some 77, some 78, some 79, some 80, some 81, some 82, some 83, some 84] (fun _ w' => w' = wd.drew) (by kernel_rfl) (by kernel_rfl) (by kernel_rfl) (by kernel_rfl) rfl rfl rfl (fun ii hii => ?_) ?_
          · match ii, hii with
            | 0, _ => exact vstep_first rfl (vwant_none rfl) (fun _ _ h => h) 6 (Or.inl rfl) (by kernel_rfl) rfl
            | 1, _ => exact vstep_first rfl (vwant_none rfl) (fun _ _ h => h) 10 (Or.inl rfl) (by kernel_rfl) rfl
            | 2, _ => exact vstep_first rfl (vwant_none rfl) (fun _ _ h => h) 6 (Or.inl rfl) (by kernel_rfl) rfl
            | 3, _ => exact vstep_pure rfl (vwant_none rfl) (fun _ _ h => h) (fun LL aa ww cc => ⟨.int .i64 (a7 : Int), by have e0 : aa.tmps.getD 72 undef = .int .i64 (t : Int) := cc.slot 2 72 (by kernel_rfl) rfl; have q1 := E7.out; have q3 : (a7 : Int) < 64 := (by have := A7.out; omega); have q2 : IntKind.i64.wrap (a7 : Int) = a7 := (by rw [Go.IntWalk.i64_left]; unfold wrap64; omega); simp only [execOp, Act.eval]; go_simp, rfl⟩)
            | 4, _ => exact vstep_pure rfl (vwant_none rfl) (fun _ _ h => h) (fun LL aa ww cc => ⟨.pointer (some ⟨B2, a7, none⟩), by have e0 : aa.tmps.getD 3 undef = .pointer (some ⟨B2, 0, none⟩) := (cc.orig 3 (by kernel_rfl)).trans rfl; have e1 : aa.tmps.getD 73 undef = .int .i64 (a7 : Int) := cc.slot 3 73 (by kernel_rfl) rfl; have q1 : (a7 : Int) < 64 := (by have := A7.out; omega); simp only [execOp, Act.eval]; go_simp, rfl⟩)
            | 5, _ => exact vstep_pure rfl (vwant_none rfl) (fun _ _ h => h) (fun LL aa ww cc => ⟨.int .u32 z7, by have e0 : aa.tmps.getD 74 undef = .pointer (some ⟨B2, a7, none⟩) := cc.slot 4 74 (by kernel_rfl) rfl; obtain ⟨m0, m1, m2, m3⟩ := MC.out _ cc.world; simp only [execOp, Act.eval]; go_simp, rfl⟩)
            | 6, _ => exact vstep_pure rfl (vwant_none rfl) (fun _ _ h => h) (fun LL aa ww cc => ⟨.int .u32 (ad s1 z7), by have e0 : aa.tmps.getD 71 undef = .int .u32 s1 := cc.slot 1 71 (by kernel_rfl) rfl; have e1 : aa.tmps.getD 75 undef = .int .u32 z7 := cc.slot 5 75 (by kernel_rfl) rfl; simp only [execOp, Act.eval]; go_simp <;> rfl, rfl⟩)
            | 7, _ => exact vstep_first rfl (vwant_none rfl) (fun _ _ h => h) 9 (Or.inl rfl) (by kernel_rfl) rfl
            | 8, _ => exact vstep_pure rfl (vwant_none rfl) (fun _ _ h => h) (fun LL aa ww cc => ⟨.int .u32 (ad (ad s1 z7) s0), by have e0 : aa.tmps.getD 76 undef = .int .u32 (ad s1 z7) := cc.slot 6 76 (by kernel_rfl) rfl; have e1 : aa.tmps.getD 77 undef = .int .u32 s0 := cc.slot 7 77 (by kernel_rfl) rfl; simp only [execOp, Act.eval]; go_simp <;> rfl, rfl⟩)
            | 9, _ => exact vstep_first rfl (vwant_none rfl) (fun _ _ h => h) 6 (Or.inl rfl) (by kernel_rfl) rfl
            | 10, _ => exact vstep_pure rfl (vwant_none rfl) (fun _ _ h => h) (fun LL aa ww cc => ⟨.int .i64 (a16 : Int), by have e0 : aa.tmps.getD 79 undef = .int .i64 (t : Int) := cc.slot 9 79 (by kernel_rfl) rfl; have q1 := E16.out; have q3 : (a16 : Int) < 64 := (by have := A16.out; omega); have q2 : IntKind.i64.wrap (a16 : Int) = a16 := (by rw [Go.IntWalk.i64_left]; unfold wrap64; omega); simp only [execOp, Act.eval]; go_simp, rfl⟩)
            | 11, _ => exact vstep_pure rfl (vwant_none rfl) (fun _ _ h => h) (fun LL aa ww cc => ⟨.pointer (some ⟨B2, a16, none⟩), by have e0 : aa.tmps.getD 3 undef = .pointer (some ⟨B2, 0, none⟩) := (cc.orig 3 (by kernel_rfl)).trans rfl; have e1 : aa.tmps.getD 80 undef = .int .i64 (a16 : Int) := cc.slot 10 80 (by kernel_rfl) rfl; have q1 : (a16 : Int) < 64 := (by have := A16.out; omega); simp only [execOp, Act.eval]; go_simp, rfl⟩)
            | 12, _ => exact vstep_pure rfl (vwant_none rfl) (fun _ _ h => h) (fun LL aa ww cc => ⟨.int .u32 z16, by have e0 : aa.tmps.getD 81 undef = .pointer (some ⟨B2, a16, none⟩) := cc.slot 11 81 (by kernel_rfl) rfl; obtain ⟨m0, m1, m2, m3⟩ := MC.out _ cc.world; simp only [execOp, Act.eval]; go_simp, rfl⟩)
            | 13, _ => exact vstep_pure rfl (vwant_none rfl) (fun _ _ h => h) (fun LL aa ww cc => ⟨.int .u32 (ad (ad (ad s1 z7) s0) z16), by have e0 : aa.tmps.getD 78 undef = .int .u32 (ad (ad s1 z7) s0) := cc.slot 8 78 (by kernel_rfl) rfl; have e1 : aa.tmps.getD 82 undef = .int .u32 z16 := cc.slot 12 82 (by kernel_rfl) rfl; simp only [execOp, Act.eval]; go_simp <;> rfl, rfl⟩)
            | 14, _ => exact vstep_pure rfl (vwant_none rfl) (fun _ _ h => h) (fun LL aa ww cc => ⟨.pointer (some ⟨B2, t, none⟩), by have e0 : aa.tmps.getD 3 undef = .pointer (some ⟨B2, 0, none⟩) := (cc.orig 3 (by kernel_rfl)).trans rfl; have e1 : aa.tmps.getD 70 undef = .int .i64 (t : Int) := cc.slot 0 70 (by kernel_rfl) rfl; have q1 : (t : Int) < 64 := (by have := HLT.out; omega); simp only [execOp, Act.eval]; go_simp, rfl⟩)
            | n + 15, h => exact absurd h (by show ¬ (n + 15 < 15); omega)
          · intro L6 w6 hall hJ
            have HBD : Hid (Blk w6 B2 (wz (wordsW L t)) ∧ Blk w6 B1 (wz []) ∧ Below w.heap.size w w6) := Lib.hid <| by
              rw [hJ, HWR.out.2]
              exact ⟨H2.out.drew.drew, H1.out.drew.drew, HBEL.out.drew.drew⟩
            clear hall hJ MC H2 H1 HBEL E7 E16 A7 A16
            simp only [List.zip_cons_cons, List.zip_nil_right, putsL]
            go_simp
            go_wp2_with ((with_reducible show wpList _ _ _ (Oper.mk _ (Op.store _ _ _) _ _ _ _ :: _) _ _); refine wpList_storeB rfl _ _ _ rfl B2 t (wz (wordsW L t)) _ (by rw [wz_len (by have := HLW.out; have := HLT.out; omega)]; exact HLT.out) rfl rfl HBD.out.1 (by kernel_rfl) rfl ?_)
            intro w7 hb7 hg7 hs7
            have HF : Hid (ExR2 w B0 B1 B2 L (.int .i64 ((t + 1 : Nat) : Int)) w7) := Lib.hid <| by
              have hn := HN.out
              have he := HE0.out
              have hge := HGE.out
              refine ⟨t + 1, by omega, HLT.out, rfl, ?_, HBD.out.2.1.grown hg7.out (by simp; omega), HBD.out.2.2.grown hg7.out (HBD.out.2.2.size) fun j e => ?_⟩
              · have h6 := hb7.out
                have e := wz_set (l := wordsW L t) (by rw [HLW.out]; exact HLT.out) (ad (ad (ad s1 z7) s0) z16)
                rw [HLW.out] at e
                rw [e] at h6
                rw [words_snoc L hge, HX.out]
                unfold nextI
                rw [← HS0.out, ← HS1.out]
                exact h6
              · injection e with e
                omega
            clear hb7 hg7 hs7 HBD HX HS0 HS1 HWR
            go_wp2
            go_roundw
            case rel => first | exact HF.out | (have e5 : ((t : Int) + 1) = ((t + 1 : Nat) : Int) := by omega
                                                rw [e5]; exact HF.out)
            case measure => simp [intOf]; have := HLT.out; omega
        · have ht : t = 64 := by omega
          subst ht
          have HD : Hid (wz (wordsW L 64) = u32s (expandF L)) := Lib.hid <| by
            unfold wz
            rw [HLW.out, Nat.sub_self, List.replicate_zero, List.append_nil]
            rfl
          have HB : Hid (Blk wr B2 (u32s (expandF L))) := Lib.hid (by rw [← HD.out]; exact H2.out)
          have HL64 : Hid ((u32s (expandF L)).length = 64) := Lib.hid (by rw [u32s_len, expand_len])
          clear H2 HD
          go_wp2_with first | ((with_reducible show wpList _ _ _ (Oper.mk _ (Op.load 194 _) _ _ _ _ :: _) _ _); refine wpList_loadS sW64 rfl _ rfl B2 _ rfl HB.out HL64.out ?_) | ((with_reducible show wpList _ _ _ (Oper.mk _ (Op.store _ _ _) _ _ _ _ :: _) _ _); refine wpList_storeS sW64 rfl _ _ rfl B1 (wz []) (u32s (expandF L)) rfl rfl H1.out (by rfl) HL64.out (fun v hv => by obtain ⟨z, _, rfl⟩ := List.mem_map.1 hv; rfl) ?_)
          intro w7 hb7 hg7
          have HR : Hid (Below w.heap.size w w7) := Lib.hid <| by
            have hn := HN.out
            refine HBEL.out.grown hg7 HBEL.out.size fun j e => ?_
            injection e with e
            omega
          clear hg7 HB H1 HBEL
          have l1 := Lib.hid (run_loadS sW64 B1 _ hb7 HL64.out)
          clear hb7 HL64
          go_wp2
          exact bodyPost_ret (v := .agg (u32s (expandF L)).toArray) (by simp [results, Tryz.results104, asAddr, l1.out]) rfl ⟨rfl, HR.out⟩
end Go.Proofs.YtjfpoahmjgeogaaGreatDoor
