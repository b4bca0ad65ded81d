/- pvm: step. -/
import Derived.Test.YtlecpekgnlaneaaDoorPvmPlainOp
namespace Go.Proofs.YtlecpekgnlaneaaDoor
open Go.RowKit Nac Nac.Pvm
section
variable {w w1 w2 : World} {b base c : Nat} {A : Option Addr} {m : Mach}
theorem MM.other (h : MM w b base A c m) {k : Nat} (hg : w.grownBy w1 (some k)) (hkb : k ≠ b) (hk : ∀ g, A.map (·.block) = some g → g ≠ k) : MM w1 b base A c m :=
  ⟨h.blk.grown hg (fun e => hkb (by injection e)), h.len, h.own.kept hg (.inr fun e => hk k e rfl), h.ne⟩
theorem Fr2.new {k : Nat} (h : Fr2 b A w w1) (hg : w1.grownBy w2 (some k)) (hk : w.heap.size ≤ k) : Fr2 b A w w2 :=
  ⟨hg.os.trans h.os, hg.tape.trans h.tape, hg.output.trans h.output, Nat.le_trans h.size hg.size, fun j hj h1 h2 => (hg.block j (Nat.lt_of_lt_of_le hj h.size) (fun e => by injection e with e; omega)).trans (h.block j hj h1 h2)⟩
theorem blk_fr2 {k : Nat} {cs : List Value} (h : Blk w k cs) (hf : Fr2 b A w w1) (hkb : k ≠ b) (hk : ∀ g, A.map (·.block) = some g → g ≠ k) : Blk w1 k cs := h.keep (hf.block k h.lt hkb fun e => hk k e rfl)
end
/-- the event's own block is written -/
theorem ev_put {w w2 : World} {b base c : Nat} {A : Option Addr} {m : Mach} (hm : MM w2 b base A c m) (hf : Fr2 b A w w2) (hbl : b < w.heap.size) (hA : ∀ g, A.map (·.block) = some g → g < w.heap.size) {x y : Value} (hE : Blk w2 w.heap.size [x, y]) (u v : Value) :
    MM ((w2.setCell ⟨w.heap.size, 0, none⟩ u).setCell ⟨w.heap.size, 1, none⟩ v) b base A c m ∧ Fr2 b A w ((w2.setCell ⟨w.heap.size, 0, none⟩ u).setCell ⟨w.heap.size, 1, none⟩ v) ∧ Blk ((w2.setCell ⟨w.heap.size, 0, none⟩ u).setCell ⟨w.heap.size, 1, none⟩ v) w.heap.size [u, v] :=
  ⟨(hm.other (grown_setCell w2 ⟨w.heap.size, 0, none⟩ u) (by show w.heap.size ≠ b; omega) (fun g hg e => by have := hA g hg; have e' : g = w.heap.size := e; omega)).other (grown_setCell _ ⟨w.heap.size, 1, none⟩ v) (by show w.heap.size ≠ b; omega) (fun g hg e => by have := hA g hg; have e' : g = w.heap.size := e; omega),
   (hf.new (grown_setCell w2 ⟨w.heap.size, 0, none⟩ u) (Nat.le_refl _)).new (grown_setCell _ ⟨w.heap.size, 1, none⟩ v) (Nat.le_refl _), (hE.setCell 0 u).setCell 1 v⟩
theorem wf_mem {i : Ins} (h : wf i = true) (ho : i.op = 13 ∨ i.op = 14) : i.a < 8 ∧ i.b < 8 := by
  unfold wf at h
  rw [if_neg (by omega), if_neg (by omega), if_neg (by omega), if_neg (by omega), if_neg (by omega), if_pos ho] at h
  simp at h
  omega
theorem wordAt_lt (m : Mach) (i : Ins) : 0 ≤ wordAt m i → wordAt m i < m.mem.length := by
  unfold wordAt
  split <;> omega
theorem MM.putMem {w : World} {b base c g : Nat} {m : Mach} (h : MM w b base (some ⟨g, 0, none⟩) c m) (k : Nat) (x : Int) : MM (w.setCell ⟨g, k, none⟩ (.int .i64 x)) b base (some ⟨g, 0, none⟩) c { m with mem := m.mem.set k x } :=
  ⟨by
    have := h.blk.grown (grown_setCell w ⟨g, k, none⟩ (.int .i64 x)) (fun e => h.ne e)
    unfold mcs at this ⊢
    rw [List.length_set]
    exact this, h.len, h.own.set k x, h.ne⟩
theorem fr2_mem (w : World) (b g j : Nat) (v : Value) : Fr2 b (some ⟨g, 0, none⟩) w (w.setCell ⟨g, j, none⟩ v) := Fr2.grown (grown_setCell w ⟨g, j, none⟩ v) (fun _ e => .inr (.inl e))
theorem wf_rest {i : Ins} (h : wf i = true) (h0 : i.op ≠ 0) (h17 : i.op ≠ 17) (h13 : i.op ≠ 13) (h14 : i.op ≠ 14) : i.op = 1 ∨ i.op = 2 ∨ i.op = 15 ∨ i.op = 16 ∨ (3 ≤ i.op ∧ i.op ≤ 12 ∧ i.c < 8) := by
  apply Classical.byContradiction
  intro hn
  rcases (by omega : (3 ≤ i.op ∧ i.op ≤ 12) ∨ 17 < i.op) with h1 | h1
  · unfold wf at h
    rw [if_neg (by omega), if_neg (by omega), if_neg (by omega), if_neg (by omega), if_pos (by omega)] at h
    simp at h
    omega
  · rw [wf_big i h1] at h; cases h
theorem Fr2.undrew {w w1 : World} {b n : Nat} {A : Option Addr} (h : Fr2 b A (w.drewN n) w1) : Fr2 b A w w1 := ⟨h.os, h.tape, h.output, h.size, h.block⟩
set_option maxHeartbeats 4000000 in
set_option maxRecDepth 100000 in
theorem step_calls (w : World) (hd : Hdl w) (b base : Nat) (A : Option Addr) (c : Nat) (m : Mach) (h : MM w b base A c m) (hm8 : m.mem.length ≤ 140737488351232) (Ac : Option Addr) (cc : Nat) (l : List Ins) (hR : RIn w w.heap.size Ac l) (hl8 : l.length ≤ 140737488351232) :
    Calls Tryd.prog 20 #[.pointer (some ⟨b, 0, none⟩), .slice Ac l.length cc] w (RetEv w b base A c (stepM l m)) := by
  have HM := Lib.hid h
  have HR := Lib.hid hR
  have HD := Lib.hid hd
  have hbl := h.blk.lt
  have HA : Hid (∀ g, A.map (·.block) = some g → g < w.heap.size) := Lib.hid fun g hg => (h.own.lt g hg).2
  have cS : w.cell? ⟨b, 10, none⟩ = some (.int .i64 m.state) := h.blk.cell (mcs_state h.len)
  have cP : w.cell? ⟨b, 0, none⟩ = some (.int .i64 m.place) := h.blk.cell rfl
  have hb1 : Below w.heap.size w (w.alloc (.cells #[.int .i64 0, .int .i64 0] 37)) := (Below.refl _ _).alloc (Nat.le_refl _) _
  have HM1 := Lib.hid (h.below hb1)
  have HF1 : Hid (Fr2 b A w (w.alloc (.cells #[.int .i64 0, .int .i64 0] 37))) := Lib.hid (Fr2.below hb1)
  have HE1 : Hid (Blk (w.alloc (.cells #[.int .i64 0, .int .i64 0] 37)) w.heap.size [.int .i64 0, .int .i64 0]) := Lib.hid (Blk.new w _ _)
  obtain ⟨n, hn⟩ : ∃ n, n = l.length := ⟨_, rfl⟩
  have HN := Lib.hid hn
  rw [← hn] at hl8 ⊢
  have hb1 := Lib.hid hb1
  clear h hR hd hn
  by_cases hs : m.state = 0
  · by_cases hp : m.place < 0 ∨ (n : Int) ≤ m.place
    · have HST : Hid (stepM l m = trapM m 82) := Lib.hid (by unfold stepM; rw [if_neg (by simpa using hs), if_pos (by rw [← HN.out]; exact hp)])
      rw [hs] at cS
      obtain ⟨p, hpm⟩ : ∃ p, p = m.place := ⟨_, rfl⟩
      rw [← hpm] at cP hp
      clear hs hpm
      have hp2 : p < 0 ∨ (0 ≤ p ∧ (n : Int) ≤ p) := by omega
      clear hp
      rcases hp2 with hp | ⟨hp, hp2⟩
      all_goals
        go_enter Tryd.func20, Tryd.ntmps20
        go_wp2_with fail
        refine (trap_calls _ b base A c m HM1.out 82).mono ?_
        rintro e w2 ⟨rfl, hm2, hf2⟩
        have HM2 := Lib.hid hm2
        have HF2 := Lib.hid (HF1.out.trans hf2)
        have HE2 := Lib.hid (blk_fr2 HE1.out hf2 (by omega) (fun g hg e => by have := HA.out g hg; omega))
        have e0 : w2.cell? ⟨w.heap.size, 0, none⟩ = some (.int .i64 0) := HE2.out.cell rfl
        have e1 : w2.cell? ⟨w.heap.size, 1, none⟩ = some (.int .i64 0) := HE2.out.cell rfl
        have f0 := HE2.out.free 0
        have f1 := HE2.out.free 1
        clear hm2 hf2 HM1 HF1 HE1 HM cS cP
        go_wp2
        obtain ⟨q1, q2, q3⟩ := ev_put HM2.out HF2.out hbl HA.out HE2.out (.int .i64 (trapM m 82).2.1) (.int .i64 (trapM m 82).2.2)
        have y0 := q3.cell (j := 0) rfl
        have y1 := q3.cell (j := 1) rfl
        rw [HST.out]
        exact bodyPost_ret (v := .agg #[.int .i64 (trapM m 82).2.1, .int .i64 (trapM m 82).2.2]) (by simp [results, Tryd.results20, go_sem, y0, y1]) rfl ⟨rfl, q1, q2⟩
    · obtain ⟨k, hk⟩ : ∃ k : Nat, m.place = k := ⟨m.place.toNat, by omega⟩
      have hkn : k < n := by omega
      have hkl : k < l.length := by rw [← HN.out]; exact hkn
      obtain ⟨bc, o, hA, hb, h0', h1', h2', h3', hfit⟩ := HR.out.get hkl
      obtain ⟨i, hi⟩ : ∃ i, i = l[k] := ⟨_, rfl⟩
      have HI : Hid (l.getD k default = i) := Lib.hid (by rw [hi]; simp [List.getD, hkl])
      rw [← hi] at h0' h1' h2' h3' hfit
      have hST : stepM l m = if wf i = false then trapM m 83
          else if i.op = 0 then ({ m with state := 1 }, 2, 0)
          else if i.op = 17 then ({ m with place := m.place + 1 }, 1, i.a)
          else if i.op = 13 then (if wordAt m i < 0 then trapM m 81 else ({ m with r := m.r.set i.a (m.mem.getD (wordAt m i).toNat 0), place := m.place + 1 }, 0, 0))
          else if i.op = 14 then (if wordAt m i < 0 then trapM m 81 else ({ m with mem := m.mem.set (wordAt m i).toNat (m.reg i.a), place := m.place + 1 }, 0, 0))
          else if (i.op = 6 ∨ i.op = 7) ∧ m.reg i.c = 0 then trapM m 80
          else (plainM { m with place := m.place + 1 } i, 0, 0) := by
        have e : l.getD m.place.toNat default = i := by rw [hk]; exact HI.out
        unfold stepM
        rw [if_neg (by simpa using hs), if_neg (by rw [← HN.out]; exact hp), e]
      have HST := Lib.hid hST
      rw [hs] at cS
      subst hA
      have d0 := (hb1.out.cell (p := ⟨bc, _, none⟩) hb).trans h0'
      have d1 := (hb1.out.cell (p := ⟨bc, _, none⟩) hb).trans h1'
      have d2 := (hb1.out.cell (p := ⟨bc, _, none⟩) hb).trans h2'
      have d3 := (hb1.out.cell (p := ⟨bc, _, none⟩) hb).trans h3'
      have HFI := Lib.hid hfit
      rw [hk] at cP
      have HK := Lib.hid hk
      clear hs hp hk hST HI hi HR hkl hfit h0' h1' h2' h3'
      go_enter Tryd.func20, Tryd.ntmps20
      go_wp2_with fail
      obtain ⟨W, hW⟩ : ∃ W, W = ((w.alloc (.cells #[.int .i64 0, .int .i64 0] 37)).alloc (.cells #[.int .u8 i.op, .int .u8 i.a, .int .u8 i.b, .int .u8 i.c] 41)) := ⟨_, rfl⟩
      have hWs : (w.alloc (.cells #[.int .i64 0, .int .i64 0] 37)).heap.size = w.heap.size + 1 := by simp
      have hbW : Below w.heap.size w W := by rw [hW]; exact hb1.out.alloc hb1.out.size _
      have hbE : Below (w.heap.size + 1) (w.alloc (.cells #[.int .i64 0, .int .i64 0] 37)) W := by rw [hW]; exact (Below.refl _ _).alloc (by rw [hWs]; exact Nat.le_refl _) _
      have hXW : Blk W (w.heap.size + 1) [.int .u8 i.op, .int .u8 i.a, .int .u8 i.b, .int .u8 i.c] := by
        have := Blk.new (w.alloc (.cells #[.int .i64 0, .int .i64 0] 37)) [.int .u8 i.op, .int .u8 i.a, .int .u8 i.b, .int .u8 i.c] 41
        rw [hWs] at this
        rw [hW]
        exact this
      have hEW : Blk W w.heap.size [.int .i64 0, .int .i64 0] := HE1.out.below hbE (Nat.lt_succ_self _)
      have hDW : Hdl W := HD.out.below hbW HD.out.lt
      rw [← hW]
      clear hW HM1 HF1 HE1 hb1 hbE d0 d1 d2 d3 cS cP hWs
      refine (ill_calls W hDW i HFI.out).mono ?_
      rintro e w2 ⟨rfl, hb2⟩
      have hb2' : Below w.heap.size w w2 := hbW.trans (hb2.mono hbW.size)
      have HM2 := Lib.hid (HM.out.below hb2')
      have HF2 : Hid (Fr2 b A w w2) := Lib.hid (Fr2.below hb2')
      have HE2 := Lib.hid (hEW.below hb2 hEW.lt)
      have HX2 := Lib.hid (hXW.below hb2 hXW.lt)
      have XQ : Hid (w2.cell? ⟨w.heap.size + 1, 0, none⟩ = some (.int .u8 i.op) ∧ w2.cell? ⟨w.heap.size + 1, 1, none⟩ = some (.int .u8 i.a) ∧ w2.cell? ⟨w.heap.size + 1, 2, none⟩ = some (.int .u8 i.b) ∧ w2.cell? ⟨w.heap.size + 1, 3, none⟩ = some (.int .u8 i.c)) := Lib.hid ⟨HX2.out.cell rfl, HX2.out.cell rfl, HX2.out.cell rfl, HX2.out.cell rfl⟩
      clear hb2 hb2' hbW hXW hEW hDW HM HD
      cases hwf : wf i with
      | false =>
        have HST : Hid (stepM l m = trapM m 83) := Lib.hid (by rw [HST.out, if_pos hwf])
        clear hwf
        go_wp2_with fail
        refine (trap_calls _ b base A c m HM2.out 83).mono ?_
        rintro e w3 ⟨rfl, hm3, hf3⟩
        have HM3 := Lib.hid hm3
        have HF3 := Lib.hid (HF2.out.trans hf3)
        have HE3 := Lib.hid (blk_fr2 HE2.out hf3 (by omega) (fun g hg e => by have := HA.out g hg; omega))
        have e0 : w3.cell? ⟨w.heap.size, 0, none⟩ = some (.int .i64 0) := HE3.out.cell rfl
        have e1 : w3.cell? ⟨w.heap.size, 1, none⟩ = some (.int .i64 0) := HE3.out.cell rfl
        have f0 := HE3.out.free 0
        have f1 := HE3.out.free 1
        clear hm3 hf3 HM2 HF2 HE2 HX2 XQ
        go_wp2
        obtain ⟨q1, q2, q3⟩ := ev_put HM3.out HF3.out hbl HA.out HE3.out (.int .i64 (trapM m 83).2.1) (.int .i64 (trapM m 83).2.2)
        have y0 := q3.cell (j := 0) rfl
        have y1 := q3.cell (j := 1) rfl
        rw [HST.out]
        exact bodyPost_ret (v := .agg #[.int .i64 (trapM m 83).2.1, .int .i64 (trapM m 83).2.2]) (by simp [results, Tryd.results20, go_sem, y0, y1]) rfl ⟨rfl, q1, q2⟩
      | true =>
        obtain ⟨x0, x1, x2, x3⟩ := XQ.out
        have e0 : w2.cell? ⟨w.heap.size, 0, none⟩ = some (.int .i64 0) := HE2.out.cell rfl
        have e1 : w2.cell? ⟨w.heap.size, 1, none⟩ = some (.int .i64 0) := HE2.out.cell rfl
        have f0 := HE2.out.free 0
        have f1 := HE2.out.free 1
        have cS : w2.cell? ⟨b, 10, none⟩ = some (.int .i64 m.state) := HM2.out.blk.cell (mcs_state HM2.out.len)
        have cP : w2.cell? ⟨b, 0, none⟩ = some (.int .i64 k) := by rw [← HK.out]; exact HM2.out.blk.cell rfl
        have fS := HM2.out.blk.free 10
        have fP := HM2.out.blk.free 0
        have HST' := Lib.hid (HST.out.trans (if_neg (by rw [hwf]; decide)))
        clear HST
        have HWF := Lib.hid hwf
        clear hwf
        have hbe : b ≠ w.heap.size := by omega
        have hbe2 : w.heap.size ≠ b := by omega
        by_cases h0 : i.op = 0
        · have HST : Hid (stepM l m = ({ m with state := 1 }, 2, 0)) := Lib.hid (HST'.out.trans (if_pos h0))
          clear HST'
          rw [h0] at x0
          clear XQ
          go_wp2
          have hm3 := HM2.out.put 10 (.int .i64 1) { m with state := 1 } (mcs_setState HM2.out.len 1) HM2.out.len rfl
          have hf3 := HF2.out.trans (fr2_set w2 b 10 A (.int .i64 1))
          have he3 := HE2.out.grown (grown_setCell w2 ⟨b, 10, none⟩ (.int .i64 1)) (fun e => by injection e with e; exact hbe e)
          obtain ⟨q1, q2, q3⟩ := ev_put hm3 hf3 hbl HA.out he3 (.int .i64 2) (.int .i64 0)
          have y0 := q3.cell (j := 0) rfl
          have y1 := q3.cell (j := 1) rfl
          rw [HST.out]
          exact bodyPost_ret (v := .agg #[.int .i64 2, .int .i64 0]) (by simp [results, Tryd.results20, go_sem, y0, y1]) rfl ⟨rfl, q1, q2⟩
        · have HST2 := Lib.hid (HST'.out.trans (if_neg h0))
          have HST' := HST2
          clear HST2
          by_cases h17 : i.op = 17
          · have HST := Lib.hid (HST'.out.trans (if_pos h17))
            clear HST'
            rw [h17] at x0
            have HA8 := HFI.out.a
            clear XQ
            go_wp2
            have hm3 := HM2.out.put 0 (.int .i64 (k + 1)) { m with place := m.place + 1 } (by rw [HK.out]; exact mcs_setPlace _) HM2.out.len rfl
            have hf3 := HF2.out.trans (fr2_set w2 b 0 A (.int .i64 (k + 1)))
            have he3 := HE2.out.grown (grown_setCell w2 ⟨b, 0, none⟩ (.int .i64 (k + 1))) (fun e => by injection e with e; exact hbe e)
            obtain ⟨q1, q2, q3⟩ := ev_put hm3 hf3 hbl HA.out he3 (.int .i64 1) (.int .i64 i.a)
            have y0 := q3.cell (j := 0) rfl
            have y1 := q3.cell (j := 1) rfl
            rw [HST.out]
            exact bodyPost_ret (v := .agg #[.int .i64 1, .int .i64 i.a]) (by simp [results, Tryd.results20, go_sem, y0, y1]) rfl ⟨rfl, q1, q2⟩
          · have HST2 := Lib.hid (HST'.out.trans (if_neg h17))
            have HST' := HST2
            clear HST2
            by_cases h13 : i.op = 13
            · skip
              have HB8 : Hid (i.a < 8 ∧ i.b < 8) := Lib.hid (wf_mem HWF.out (by omega))
              have HST2 := Lib.hid (HST'.out.trans (if_pos h13))
              clear HST'
              rw [h13] at x0
              obtain ⟨op', ia, ib, ic⟩ := i
              simp only at h13 x0 x1 x2 x3
              subst h13
              go_wp2_with fail
              refine (word_calls w2 b base A c m HM2.out ⟨13, ia, ib, ic⟩ HB8.out.2 HFI.out.c hm8).mono ?_
              rintro e w3 ⟨rfl, hb3⟩
              have HM3 := Lib.hid (HM2.out.below hb3)
              have HF3 : Hid (Fr2 b A w w3) := Lib.hid (HF2.out.trans (Fr2.below hb3))
              have HE3 := Lib.hid (HE2.out.below hb3 HE2.out.lt)
              have HX3 := Lib.hid (HX2.out.below hb3 HX2.out.lt)
              clear hb3 HM2 HF2 HE2 HX2 XQ
              clear x0 x1 x2 x3 e0 e1 f0 f1 cS cP fS fP
              obtain ⟨z, hz⟩ : ∃ z, z = wordAt m ⟨13, ia, ib, ic⟩ := ⟨_, rfl⟩
              have HZ : Hid (0 ≤ z → z < m.mem.length) := Lib.hid (by rw [hz]; exact wordAt_lt m _)
              rw [← hz] at HST2 ⊢
              clear hz
              by_cases hz : z < 0
              · have HST := Lib.hid (HST2.out.trans (if_pos hz))
                clear HST2
                go_wp2_with fail
                refine (trap_calls _ b base A c m HM3.out 81).mono ?_
                rintro e w3 ⟨rfl, hm3, hf3⟩
                have HM4 := Lib.hid hm3
                have HF4 := Lib.hid (HF3.out.trans hf3)
                have HE4 := Lib.hid (blk_fr2 HE3.out hf3 (by omega) (fun g hg e => by have := HA.out g hg; omega))
                have e0 : w3.cell? ⟨w.heap.size, 0, none⟩ = some (.int .i64 0) := HE4.out.cell rfl
                have e1 : w3.cell? ⟨w.heap.size, 1, none⟩ = some (.int .i64 0) := HE4.out.cell rfl
                have f0 := HE4.out.free 0
                have f1 := HE4.out.free 1
                clear hm3 hf3 HM3 HF3 HE3
                go_wp2
                obtain ⟨q1, q2, q3⟩ := ev_put HM4.out HF4.out hbl HA.out HE4.out (.int .i64 (trapM m 81).2.1) (.int .i64 (trapM m 81).2.2)
                have y0 := q3.cell (j := 0) rfl
                have y1 := q3.cell (j := 1) rfl
                rw [HST.out]
                exact bodyPost_ret (v := .agg #[.int .i64 (trapM m 81).2.1, .int .i64 (trapM m 81).2.2]) (by simp [results, Tryd.results20, go_sem, y0, y1]) rfl ⟨rfl, q1, q2⟩
              · have HST := Lib.hid (HST2.out.trans (if_neg hz))
                clear HST2
                obtain ⟨kz, rfl⟩ : ∃ kz : Nat, z = kz := ⟨z.toNat, by omega⟩
                have x0 : w3.cell? ⟨w.heap.size + 1, 0, none⟩ = some (.int .u8 13) := HX3.out.cell rfl
                go_wp2_with fail
                obtain ⟨g, hAg, hbg, hgl, hgc, hgf⟩ := HM3.out.own.at (k := kz) (by have := HZ.out (by omega); omega)
                subst hAg
                have hgb : g ≠ b := fun e => HM3.out.ne (by rw [e]; rfl)
                obtain ⟨ml, hml⟩ : ∃ ml, ml = m.mem.length := ⟨_, rfl⟩
                have HKZ : Hid (kz < ml) := Lib.hid (by have := HZ.out (by omega); omega)
                have HML := Lib.hid hml
                have XB : Hid (∀ w', Below w3.drew.heap.size w3.drew w' → w'.cell? ⟨w.heap.size + 1, 1, none⟩ = some (.int .u8 ia)) := Lib.hid fun w' hb' => (Blk.below (w := w3.drew) HX3.out hb' HX3.out.lt).cell rfl
                have MS : Hid (∀ w', Below w3.drew.heap.size w3.drew w' → w'.cell? ⟨b, 9, none⟩ = some (.slice (some ⟨g, 0, none⟩) ml c)) := Lib.hid fun w' hb' => by
                  rw [hml]
                  exact (HM3.out.drew.below hb').blk.cell (mcs_mem HM3.out.len)
                obtain ⟨zv, hzv⟩ : ∃ zv, zv = m.mem.getD (kz : Int).toNat 0 := ⟨_, rfl⟩
                have MC : Hid (∀ w', Below w3.drew.heap.size w3.drew w' → w'.cell? ⟨g, kz, none⟩ = some (.int .i64 zv)) := Lib.hid fun w' hb' => by
                  rw [hzv]
                  have hkz := HKZ.out
                  rw [hml] at hkz
                  simp only [Int.toNat_natCast, List.getD, List.getElem?_eq_getElem hkz, Option.getD_some]
                  exact (hb'.cell (p := ⟨g, kz, none⟩) hgl).trans hgc
                rw [← hzv] at HST
                clear hzv hml hgc hgf hz
                refine region_tails 13 (fun ix9 => ([.is (.pointer (some ⟨b, 0, none⟩)), .is (.pointer (some ⟨w.heap.size + 1, 1, none⟩)), .is (.int .u8 ia), .is (.pointer (some ⟨b, 0, none⟩)), .is (.pointer (some ⟨b, 0, none⟩)), .is (.pointer (some ⟨b, 9, none⟩)), .is (.slice (some ⟨g, 0, none⟩) ml c), .is (.int .i64 kz), .is (.pointer (some ⟨g, kz, none⟩)), .is (.int .i64 zv), .is (.pointer (some ⟨b, 0, none⟩)), .is (.pointer (some ⟨b, 1, none⟩)), .is (.pointer (some ⟨b, 1 + ia, none⟩))] : List VD).getD ix9 (.is undef)) [some 77, some 78, some 79, some 80, some 81, some 82, some 83, some 84, some 85, some 86, some 87, some 88, some 89] (by kernel_rfl) (by kernel_rfl) (by kernel_rfl) (by kernel_rfl) rfl (fun ii hii => ?_) ?_
                · match ii, hii with
                  | 0, _ => exact mstep_first rfl (mwant_none rfl) 0 (Or.inl rfl) (by kernel_rfl) (fun _ _ => rfl)
                  | 1, _ => exact mstep_pure rfl (mwant_none rfl) (fun aa ww cc => ⟨.pointer (some ⟨w.heap.size + 1, 1, none⟩), by have e0 : aa.tmps.getD 5 undef = .pointer (some ⟨w.heap.size + 1, 0, none⟩) := (cc.orig 5 (by kernel_rfl)).trans rfl; simp only [execOp, Act.eval, e0]; go_simp, rfl⟩)
                  | 2, _ => exact mstep_pure rfl (mwant_none rfl) (fun aa ww cc => ⟨.int .u8 ia, by have e0 : aa.tmps.getD 78 undef = .pointer (some ⟨w.heap.size + 1, 1, none⟩) := cc.slot 1 78 (by kernel_rfl) rfl; have q := XB.out _ cc.below; simp only [execOp, Act.eval, e0]; go_simp, rfl⟩)
                  | 3, _ => exact mstep_first rfl (mwant_none rfl) 0 (Or.inl rfl) (by kernel_rfl) (fun _ _ => rfl)
                  | 4, _ => exact mstep_pure rfl (mwant_none rfl) (fun aa ww cc => ⟨.pointer (some ⟨b, 0, none⟩), by have e0 : aa.tmps.getD 80 undef = .pointer (some ⟨b, 0, none⟩) := cc.slot 3 80 (by kernel_rfl) rfl; simp only [execOp, Act.eval, e0]; go_simp, rfl⟩)
                  | 5, _ => exact mstep_pure rfl (mwant_none rfl) (fun aa ww cc => ⟨.pointer (some ⟨b, 9, none⟩), by have e0 : aa.tmps.getD 81 undef = .pointer (some ⟨b, 0, none⟩) := cc.slot 4 81 (by kernel_rfl) rfl; simp only [execOp, Act.eval, e0]; go_simp, rfl⟩)
                  | 6, _ => exact mstep_pure rfl (mwant_none rfl) (fun aa ww cc => ⟨.slice (some ⟨g, 0, none⟩) ml c, by have e0 : aa.tmps.getD 82 undef = .pointer (some ⟨b, 9, none⟩) := cc.slot 5 82 (by kernel_rfl) rfl; have q := MS.out _ cc.below; simp only [execOp, Act.eval, e0]; go_simp, rfl⟩)
                  | 7, _ => exact mstep_first rfl (mwant_none rfl) 6 (Or.inl rfl) (by kernel_rfl) (fun _ _ => rfl)
                  | 8, _ => exact mstep_pure rfl (mwant_none rfl) (fun aa ww cc => ⟨.pointer (some ⟨g, kz, none⟩), by have e0 : aa.tmps.getD 83 undef = .slice (some ⟨g, 0, none⟩) ml c := cc.slot 6 83 (by kernel_rfl) rfl; have e1 : aa.tmps.getD 84 undef = .int .i64 kz := cc.slot 7 84 (by kernel_rfl) rfl; have q := HKZ.out; have q2 : (kz : Int) < ml := (by omega); simp only [execOp, Act.eval, e0, e1]; go_simp, rfl⟩)
                  | 9, _ => exact mstep_pure rfl (mwant_none rfl) (fun aa ww cc => ⟨.int .i64 zv, by have e0 : aa.tmps.getD 85 undef = .pointer (some ⟨g, kz, none⟩) := cc.slot 8 85 (by kernel_rfl) rfl; have q := MC.out _ cc.below; simp only [execOp, Act.eval, e0]; go_simp, rfl⟩)
                  | 10, _ => exact mstep_pure rfl (mwant_none rfl) (fun aa ww cc => ⟨.pointer (some ⟨b, 0, none⟩), by have e0 : aa.tmps.getD 77 undef = .pointer (some ⟨b, 0, none⟩) := cc.slot 0 77 (by kernel_rfl) rfl; simp only [execOp, Act.eval, e0]; go_simp, rfl⟩)
                  | 11, _ => exact mstep_pure rfl (mwant_none rfl) (fun aa ww cc => ⟨.pointer (some ⟨b, 1, none⟩), by have e0 : aa.tmps.getD 87 undef = .pointer (some ⟨b, 0, none⟩) := cc.slot 10 87 (by kernel_rfl) rfl; simp only [execOp, Act.eval, e0]; go_simp, rfl⟩)
                  | 12, _ => exact mstep_pure rfl (mwant_none rfl) (fun aa ww cc => ⟨.pointer (some ⟨b, 1 + ia, none⟩), by have e0 : aa.tmps.getD 88 undef = .pointer (some ⟨b, 1, none⟩) := cc.slot 11 88 (by kernel_rfl) rfl; have e1 : aa.tmps.getD 79 undef = .int .u8 ia := cc.slot 2 79 (by kernel_rfl) rfl; have q := HB8.out.1; have q2 : (ia : Int) < 8 := (by omega); simp only [execOp, Act.eval, e0, e1]; go_simp, rfl⟩)
                  | n + 13, h => exact absurd h (by show ¬ (n + 13 < 13); omega)
                · intro VV w5 hlen hb5 hok
                  match VV, hlen with
                  | [v0, v1, v2, v3, v4, v5, v6, v7, v8, v9, v10, v11, v12], _ =>
                    obtain rfl : v0 = .pointer (some ⟨b, 0, none⟩) := hok 0 77 rfl
                    obtain rfl : v1 = .pointer (some ⟨w.heap.size + 1, 1, none⟩) := hok 1 78 rfl
                    obtain rfl : v2 = .int .u8 ia := hok 2 79 rfl
                    obtain rfl : v3 = .pointer (some ⟨b, 0, none⟩) := hok 3 80 rfl
                    obtain rfl : v4 = .pointer (some ⟨b, 0, none⟩) := hok 4 81 rfl
                    obtain rfl : v5 = .pointer (some ⟨b, 9, none⟩) := hok 5 82 rfl
                    obtain rfl : v6 = .slice (some ⟨g, 0, none⟩) ml c := hok 6 83 rfl
                    obtain rfl : v7 = .int .i64 kz := hok 7 84 rfl
                    obtain rfl : v8 = .pointer (some ⟨g, kz, none⟩) := hok 8 85 rfl
                    obtain rfl : v9 = .int .i64 zv := hok 9 86 rfl
                    obtain rfl : v10 = .pointer (some ⟨b, 0, none⟩) := hok 10 87 rfl
                    obtain rfl : v11 = .pointer (some ⟨b, 1, none⟩) := hok 11 88 rfl
                    obtain rfl : v12 = .pointer (some ⟨b, 1 + ia, none⟩) := hok 12 89 rfl
                    have HM5 := Lib.hid (HM3.out.below hb5)
                    have HF5 := Lib.hid (HF3.out.trans (Fr2.below hb5))
                    have HE5 := Lib.hid (HE3.out.below hb5 HE3.out.lt)
                    clear hok hb5 hlen XB MS MC HM3 HF3 HE3 HX3 x0
                    simp only [List.zip_cons_cons, List.zip_nil_right, putsL]
                    go_simp
                    have cR := HM5.out.blk.cell (mcs_reg HM5.out.len HB8.out.1)
                    have fR := HM5.out.blk.free (1 + ia)
                    have cP : w5.cell? ⟨b, 0, none⟩ = some (.int .i64 k) := by rw [← HK.out]; exact HM5.out.blk.cell rfl
                    have fP := HM5.out.blk.free 0
                    have e0 : w5.cell? ⟨w.heap.size, 0, none⟩ = some (.int .i64 0) := HE5.out.cell rfl
                    have e1 : w5.cell? ⟨w.heap.size, 1, none⟩ = some (.int .i64 0) := HE5.out.cell rfl
                    have f0 := HE5.out.free 0
                    have f1 := HE5.out.free 1
                    obtain ⟨old, hold⟩ : ∃ old, w5.cell? ⟨b, 1 + ia, none⟩ = some (.int .i64 old) := ⟨_, cR⟩
                    clear cR
                    go_wp2
                    have hm6 := HM5.out.put (1 + ia) (.int .i64 zv) { m with r := m.r.set ia zv } (mcs_setReg HM5.out.len HB8.out.1 zv) (by rw [List.length_set]; exact HM5.out.len) rfl
                    have hm7 := hm6.put 0 (.int .i64 (k + 1)) { m with r := m.r.set ia zv, place := m.place + 1 } (by rw [HK.out]; rfl) hm6.len rfl
                    have hf7 := (HF5.out.trans (fr2_set w5 b (1 + ia) _ (.int .i64 zv))).trans (fr2_set _ b 0 _ (.int .i64 (k + 1)))
                    have he7 := (HE5.out.grown (grown_setCell w5 ⟨b, 1 + ia, none⟩ (.int .i64 zv)) (fun e => by injection e with e; exact hbe e)).grown (grown_setCell _ ⟨b, 0, none⟩ (.int .i64 (k + 1))) (fun e => by injection e with e; exact hbe e)
                    obtain ⟨q1, q2, q3⟩ := ev_put hm7 hf7 hbl HA.out he7 (.int .i64 0) (.int .i64 0)
                    have y0 := q3.cell (j := 0) rfl
                    have y1 := q3.cell (j := 1) rfl
                    rw [HST.out]
                    exact bodyPost_ret (v := .agg #[.int .i64 0, .int .i64 0]) (by simp [results, Tryd.results20, go_sem, y0, y1]) rfl ⟨rfl, q1, q2⟩
            · have HST2 := Lib.hid (HST'.out.trans (if_neg h13))
              have HST' := HST2
              clear HST2
              by_cases h14 : i.op = 14
              · skip
                have HB8 : Hid (i.a < 8 ∧ i.b < 8) := Lib.hid (wf_mem HWF.out (by omega))
                have HST2 := Lib.hid (HST'.out.trans (if_pos h14))
                clear HST'
                rw [h14] at x0
                obtain ⟨op', ia, ib, ic⟩ := i
                simp only at h14 x0 x1 x2 x3
                subst h14
                go_wp2_with fail
                refine (word_calls w2 b base A c m HM2.out ⟨14, ia, ib, ic⟩ HB8.out.2 HFI.out.c hm8).mono ?_
                rintro e w3 ⟨rfl, hb3⟩
                have HM3 := Lib.hid (HM2.out.below hb3)
                have HF3 : Hid (Fr2 b A w w3) := Lib.hid (HF2.out.trans (Fr2.below hb3))
                have HE3 := Lib.hid (HE2.out.below hb3 HE2.out.lt)
                have HX3 := Lib.hid (HX2.out.below hb3 HX2.out.lt)
                clear hb3 HM2 HF2 HE2 HX2 XQ
                clear x0 x1 x2 x3 e0 e1 f0 f1 cS cP fS fP
                obtain ⟨z, hz⟩ : ∃ z, z = wordAt m ⟨14, ia, ib, ic⟩ := ⟨_, rfl⟩
                have HZ : Hid (0 ≤ z → z < m.mem.length) := Lib.hid (by rw [hz]; exact wordAt_lt m _)
                rw [← hz] at HST2 ⊢
                clear hz
                by_cases hz : z < 0
                · have HST := Lib.hid (HST2.out.trans (if_pos hz))
                  clear HST2
                  go_wp2_with fail
                  refine (trap_calls _ b base A c m HM3.out 81).mono ?_
                  rintro e w3 ⟨rfl, hm3, hf3⟩
                  have HM4 := Lib.hid hm3
                  have HF4 := Lib.hid (HF3.out.trans hf3)
                  have HE4 := Lib.hid (blk_fr2 HE3.out hf3 (by omega) (fun g hg e => by have := HA.out g hg; omega))
                  have e0 : w3.cell? ⟨w.heap.size, 0, none⟩ = some (.int .i64 0) := HE4.out.cell rfl
                  have e1 : w3.cell? ⟨w.heap.size, 1, none⟩ = some (.int .i64 0) := HE4.out.cell rfl
                  have f0 := HE4.out.free 0
                  have f1 := HE4.out.free 1
                  clear hm3 hf3 HM3 HF3 HE3
                  go_wp2
                  obtain ⟨q1, q2, q3⟩ := ev_put HM4.out HF4.out hbl HA.out HE4.out (.int .i64 (trapM m 81).2.1) (.int .i64 (trapM m 81).2.2)
                  have y0 := q3.cell (j := 0) rfl
                  have y1 := q3.cell (j := 1) rfl
                  rw [HST.out]
                  exact bodyPost_ret (v := .agg #[.int .i64 (trapM m 81).2.1, .int .i64 (trapM m 81).2.2]) (by simp [results, Tryd.results20, go_sem, y0, y1]) rfl ⟨rfl, q1, q2⟩
                · have HST := Lib.hid (HST2.out.trans (if_neg hz))
                  clear HST2
                  obtain ⟨kz, rfl⟩ : ∃ kz : Nat, z = kz := ⟨z.toNat, by omega⟩
                  have x0 : w3.cell? ⟨w.heap.size + 1, 0, none⟩ = some (.int .u8 14) := HX3.out.cell rfl
                  go_wp2_with fail
                  obtain ⟨g, hAg, hbg, hgl, hgc, hgf⟩ := HM3.out.own.at (k := kz) (by have := HZ.out (by omega); omega)
                  subst hAg
                  have hgb : g ≠ b := fun e => HM3.out.ne (by rw [e]; rfl)
                  obtain ⟨ml, hml⟩ : ∃ ml, ml = m.mem.length := ⟨_, rfl⟩
                  have HKZ : Hid (kz < ml) := Lib.hid (by have := HZ.out (by omega); omega)
                  have HML := Lib.hid hml
                  have XB : Hid (∀ w', Below w3.drew.heap.size w3.drew w' → w'.cell? ⟨w.heap.size + 1, 1, none⟩ = some (.int .u8 ia)) := Lib.hid fun w' hb' => (Blk.below (w := w3.drew) HX3.out hb' HX3.out.lt).cell rfl
                  have MS : Hid (∀ w', Below w3.drew.heap.size w3.drew w' → w'.cell? ⟨b, 9, none⟩ = some (.slice (some ⟨g, 0, none⟩) ml c)) := Lib.hid fun w' hb' => by
                    rw [hml]
                    exact (HM3.out.drew.below hb').blk.cell (mcs_mem HM3.out.len)
                  obtain ⟨ra, hra⟩ : ∃ ra, ra = m.reg ia := ⟨_, rfl⟩
                  have RA : Hid (∀ w', Below w3.drew.heap.size w3.drew w' → w'.cell? ⟨b, 1 + ia, none⟩ = some (.int .i64 ra)) := Lib.hid fun w' hb' => by
                    rw [hra]
                    exact (HM3.out.drew.below hb').blk.cell (mcs_reg HM3.out.len HB8.out.1)
                  rw [← hra] at HST
                  clear hra hml hgc hgf hz
                  refine region_tails 13 (fun ix9 => ([.is (.pointer (some ⟨b, 0, none⟩)), .is (.pointer (some ⟨b, 0, none⟩)), .is (.pointer (some ⟨b, 9, none⟩)), .is (.slice (some ⟨g, 0, none⟩) ml c), .is (.int .i64 kz), .is (.pointer (some ⟨b, 0, none⟩)), .is (.pointer (some ⟨w.heap.size + 1, 1, none⟩)), .is (.int .u8 ia), .is (.pointer (some ⟨b, 0, none⟩)), .is (.pointer (some ⟨b, 1, none⟩)), .is (.pointer (some ⟨b, 1 + ia, none⟩)), .is (.int .i64 ra), .is (.pointer (some ⟨g, kz, none⟩))] : List VD).getD ix9 (.is undef)) [some 90, some 91, some 92, some 93, some 94, some 95, some 96, some 97, some 98, some 99, some 100, some 101, some 102] (by kernel_rfl) (by kernel_rfl) (by kernel_rfl) (by kernel_rfl) rfl (fun ii hii => ?_) ?_
                  · match ii, hii with
                    | 0, _ => exact mstep_first rfl (mwant_none rfl) 0 (Or.inl rfl) (by kernel_rfl) (fun _ _ => rfl)
                    | 1, _ => exact mstep_pure rfl (mwant_none rfl) (fun aa ww cc => ⟨.pointer (some ⟨b, 0, none⟩), by have e0 : aa.tmps.getD 90 undef = .pointer (some ⟨b, 0, none⟩) := cc.slot 0 90 (by kernel_rfl) rfl; simp only [execOp, Act.eval, e0]; go_simp, rfl⟩)
                    | 2, _ => exact mstep_pure rfl (mwant_none rfl) (fun aa ww cc => ⟨.pointer (some ⟨b, 9, none⟩), by have e0 : aa.tmps.getD 91 undef = .pointer (some ⟨b, 0, none⟩) := cc.slot 1 91 (by kernel_rfl) rfl; simp only [execOp, Act.eval, e0]; go_simp, rfl⟩)
                    | 3, _ => exact mstep_pure rfl (mwant_none rfl) (fun aa ww cc => ⟨.slice (some ⟨g, 0, none⟩) ml c, by have e0 : aa.tmps.getD 92 undef = .pointer (some ⟨b, 9, none⟩) := cc.slot 2 92 (by kernel_rfl) rfl; have q := MS.out _ cc.below; simp only [execOp, Act.eval, e0]; go_simp, rfl⟩)
                    | 4, _ => exact mstep_first rfl (mwant_none rfl) 6 (Or.inl rfl) (by kernel_rfl) (fun _ _ => rfl)
                    | 5, _ => exact mstep_first rfl (mwant_none rfl) 0 (Or.inl rfl) (by kernel_rfl) (fun _ _ => rfl)
                    | 6, _ => exact mstep_pure rfl (mwant_none rfl) (fun aa ww cc => ⟨.pointer (some ⟨w.heap.size + 1, 1, none⟩), by have e0 : aa.tmps.getD 5 undef = .pointer (some ⟨w.heap.size + 1, 0, none⟩) := (cc.orig 5 (by kernel_rfl)).trans rfl; simp only [execOp, Act.eval, e0]; go_simp, rfl⟩)
                    | 7, _ => exact mstep_pure rfl (mwant_none rfl) (fun aa ww cc => ⟨.int .u8 ia, by have e0 : aa.tmps.getD 96 undef = .pointer (some ⟨w.heap.size + 1, 1, none⟩) := cc.slot 6 96 (by kernel_rfl) rfl; have q := XB.out _ cc.below; simp only [execOp, Act.eval, e0]; go_simp, rfl⟩)
                    | 8, _ => exact mstep_pure rfl (mwant_none rfl) (fun aa ww cc => ⟨.pointer (some ⟨b, 0, none⟩), by have e0 : aa.tmps.getD 95 undef = .pointer (some ⟨b, 0, none⟩) := cc.slot 5 95 (by kernel_rfl) rfl; simp only [execOp, Act.eval, e0]; go_simp, rfl⟩)
                    | 9, _ => exact mstep_pure rfl (mwant_none rfl) (fun aa ww cc => ⟨.pointer (some ⟨b, 1, none⟩), by have e0 : aa.tmps.getD 98 undef = .pointer (some ⟨b, 0, none⟩) := cc.slot 8 98 (by kernel_rfl) rfl; simp only [execOp, Act.eval, e0]; go_simp, rfl⟩)
                    | 10, _ => exact mstep_pure rfl (mwant_none rfl) (fun aa ww cc => ⟨.pointer (some ⟨b, 1 + ia, none⟩), by have e0 : aa.tmps.getD 99 undef = .pointer (some ⟨b, 1, none⟩) := cc.slot 9 99 (by kernel_rfl) rfl; have e1 : aa.tmps.getD 97 undef = .int .u8 ia := cc.slot 7 97 (by kernel_rfl) rfl; have q := HB8.out.1; have q2 : (ia : Int) < 8 := (by omega); simp only [execOp, Act.eval, e0, e1]; go_simp, rfl⟩)
                    | 11, _ => exact mstep_pure rfl (mwant_none rfl) (fun aa ww cc => ⟨.int .i64 ra, by have e0 : aa.tmps.getD 100 undef = .pointer (some ⟨b, 1 + ia, none⟩) := cc.slot 10 100 (by kernel_rfl) rfl; have q := RA.out _ cc.below; simp only [execOp, Act.eval, e0]; go_simp, rfl⟩)
                    | 12, _ => exact mstep_pure rfl (mwant_none rfl) (fun aa ww cc => ⟨.pointer (some ⟨g, kz, none⟩), by have e0 : aa.tmps.getD 93 undef = .slice (some ⟨g, 0, none⟩) ml c := cc.slot 3 93 (by kernel_rfl) rfl; have e1 : aa.tmps.getD 94 undef = .int .i64 kz := cc.slot 4 94 (by kernel_rfl) rfl; have q := HKZ.out; have q2 : (kz : Int) < ml := (by omega); simp only [execOp, Act.eval, e0, e1]; go_simp, rfl⟩)
                    | n + 13, h => exact absurd h (by show ¬ (n + 13 < 13); omega)
                  · intro VV w5 hlen hb5 hok
                    match VV, hlen with
                    | [v0, v1, v2, v3, v4, v5, v6, v7, v8, v9, v10, v11, v12], _ =>
                      obtain rfl : v0 = .pointer (some ⟨b, 0, none⟩) := hok 0 90 rfl
                      obtain rfl : v1 = .pointer (some ⟨b, 0, none⟩) := hok 1 91 rfl
                      obtain rfl : v2 = .pointer (some ⟨b, 9, none⟩) := hok 2 92 rfl
                      obtain rfl : v3 = .slice (some ⟨g, 0, none⟩) ml c := hok 3 93 rfl
                      obtain rfl : v4 = .int .i64 kz := hok 4 94 rfl
                      obtain rfl : v5 = .pointer (some ⟨b, 0, none⟩) := hok 5 95 rfl
                      obtain rfl : v6 = .pointer (some ⟨w.heap.size + 1, 1, none⟩) := hok 6 96 rfl
                      obtain rfl : v7 = .int .u8 ia := hok 7 97 rfl
                      obtain rfl : v8 = .pointer (some ⟨b, 0, none⟩) := hok 8 98 rfl
                      obtain rfl : v9 = .pointer (some ⟨b, 1, none⟩) := hok 9 99 rfl
                      obtain rfl : v10 = .pointer (some ⟨b, 1 + ia, none⟩) := hok 10 100 rfl
                      obtain rfl : v11 = .int .i64 ra := hok 11 101 rfl
                      obtain rfl : v12 = .pointer (some ⟨g, kz, none⟩) := hok 12 102 rfl
                      have HM5 := Lib.hid (HM3.out.below hb5)
                      have HF5 := Lib.hid (HF3.out.trans (Fr2.below hb5))
                      have HE5 := Lib.hid (HE3.out.below hb5 HE3.out.lt)
                      clear hok hb5 hlen XB MS RA HM3 HF3 HE3 HX3 x0
                      simp only [List.zip_cons_cons, List.zip_nil_right, putsL]
                      go_simp
                      obtain ⟨g', hg', _, _, cR, fR⟩ := HM5.out.own.at (k := kz) (by rw [← HML.out]; exact HKZ.out)
                      injection hg' with hg'
                      injection hg' with hg'
                      subst hg'
                      have cP : w5.cell? ⟨b, 0, none⟩ = some (.int .i64 k) := by rw [← HK.out]; exact HM5.out.blk.cell rfl
                      have fP := HM5.out.blk.free 0
                      have e0 : w5.cell? ⟨w.heap.size, 0, none⟩ = some (.int .i64 0) := HE5.out.cell rfl
                      have e1 : w5.cell? ⟨w.heap.size, 1, none⟩ = some (.int .i64 0) := HE5.out.cell rfl
                      have f0 := HE5.out.free 0
                      have f1 := HE5.out.free 1
                      obtain ⟨old, hold⟩ : ∃ old, w5.cell? ⟨g, kz, none⟩ = some (.int .i64 old) := ⟨_, cR⟩
                      clear cR
                      have hgb2 : b ≠ g := fun e => hgb e.symm
                      have hge : g ≠ w.heap.size := by have := HA.out g rfl; omega
                      go_wp2
                      have hm6 := HM5.out.putMem kz ra
                      have hm7 := hm6.put 0 (.int .i64 (k + 1)) { m with mem := m.mem.set kz ra, place := m.place + 1 } (by rw [HK.out]; rfl) hm6.len rfl
                      have hf7 := (HF5.out.trans (fr2_mem w5 b g kz (.int .i64 ra))).trans (fr2_set _ b 0 _ (.int .i64 (k + 1)))
                      have he7 := (HE5.out.grown (grown_setCell w5 ⟨g, kz, none⟩ (.int .i64 ra)) (fun e => by injection e with e; exact hge e)).grown (grown_setCell _ ⟨b, 0, none⟩ (.int .i64 (k + 1))) (fun e => by injection e with e; exact hbe e)
                      obtain ⟨q1, q2, q3⟩ := ev_put hm7 hf7 hbl HA.out he7 (.int .i64 0) (.int .i64 0)
                      have y0 := q3.cell (j := 0) rfl
                      have y1 := q3.cell (j := 1) rfl
                      rw [HST.out]
                      exact bodyPost_ret (v := .agg #[.int .i64 0, .int .i64 0]) (by simp [results, Tryd.results20, go_sem, y0, y1]) rfl ⟨rfl, q1, q2⟩
              · have HST2 := Lib.hid (HST'.out.trans (if_neg h14))
                have HST' := HST2
                clear HST2
                have HOPS := wf_rest HWF.out h0 h17 h13 h14
                have HPF : Hid i.fits := HFI
                have HPW : Hid (wf i = true) := HWF
                have HPN : Hid (i.op ≠ 0 ∧ i.op ≠ 17 ∧ i.op ≠ 13 ∧ i.op ≠ 14) := Lib.hid ⟨h0, h17, h13, h14⟩
                by_cases h67 : i.op = 6 ∨ i.op = 7
                · skip
                  rcases h67 with h6 | h7
                  · skip
                    rw [h6] at x0
                    obtain ⟨op', ia, ib, ic⟩ := i
                    simp only at h6 x0 x1 x2 x3 HOPS h0 h17 h13 h14 HST' HPN
                    subst h6
                    have HC8 : Hid (ic < 8) := Lib.hid (by omega)
                    obtain ⟨rc, hrc⟩ : ∃ rc, rc = m.reg ic := ⟨_, rfl⟩
                    have cR : w2.cell? ⟨b, 1 + ic, none⟩ = some (.int .i64 rc) := by rw [hrc]; exact HM2.out.blk.cell (mcs_reg HM2.out.len HC8.out)
                    have hq := HC8.out
                    have hq2 : (ic : Int) < 8 := by omega
                    by_cases hz : rc = 0
                    · have HST := Lib.hid (HST'.out.trans (if_pos ⟨by omega, by rw [← hrc]; exact hz⟩))
                      subst hz
                      clear HST' HOPS h0 h17 h13 h14 hrc HPN
                      go_wp2_with fail
                      go_quiet (fail)
                      go_wp2_with fail
                      refine (trap_calls _ b base A c m (MM.drewN HM2.out nq) 80).mono ?_
                      rintro e w3 ⟨rfl, hm3, hf3⟩
                      have HM3 := Lib.hid hm3
                      have HF3 := Lib.hid (HF2.out.trans (Fr2.undrew hf3))
                      have HE3 := Lib.hid (blk_fr2 HE2.out (Fr2.undrew hf3) (by omega) (fun g hg e => by have := HA.out g hg; omega))
                      have e0 : w3.cell? ⟨w.heap.size, 0, none⟩ = some (.int .i64 0) := HE3.out.cell rfl
                      have e1 : w3.cell? ⟨w.heap.size, 1, none⟩ = some (.int .i64 0) := HE3.out.cell rfl
                      have f0 := HE3.out.free 0
                      have f1 := HE3.out.free 1
                      clear hm3 hf3 HM2 HF2 HE2 HX2 XQ
                      go_wp2
                      obtain ⟨q1, q2, q3⟩ := ev_put HM3.out HF3.out hbl HA.out HE3.out (.int .i64 (trapM m 80).2.1) (.int .i64 (trapM m 80).2.2)
                      have y0 := q3.cell (j := 0) rfl
                      have y1 := q3.cell (j := 1) rfl
                      rw [HST.out]
                      exact bodyPost_ret (v := .agg #[.int .i64 (trapM m 80).2.1, .int .i64 (trapM m 80).2.2]) (by simp [results, Tryd.results20, go_sem, y0, y1]) rfl ⟨rfl, q1, q2⟩
                    · have HST := Lib.hid (HST'.out.trans (if_neg (fun h => hz (by rw [hrc]; exact h.2))))
                      have HPZ : Hid (({ m with place := m.place + 1 } : Mach).reg ic ≠ 0) := Lib.hid fun h => hz (hrc.trans h)
                      have hzb : (rc == 0) = false := by simpa using hz
                      clear HST' HOPS h0 h17 h13 h14 hrc hz
                      go_wp2_with fail
                      go_quiet (fail)
                      go_wp2_with fail
                      have x0 : w2.cell? ⟨w.heap.size + 1, 0, none⟩ = some (.int .u8 (6 : Nat)) := XQ.out.1
                      have hm3 := (MM.drewN HM2.out nq).put 0 (.int .i64 (k + 1)) { m with place := m.place + 1 } (by rw [HK.out]; rfl) HM2.out.len rfl
                      have hf3 := (HF2.out.drewN nq).trans (fr2_set (w2.drewN nq) b 0 A (.int .i64 (k + 1)))
                      have he3 := (show Blk (w2.drewN nq) w.heap.size [.int .i64 0, .int .i64 0] from HE2.out).grown (grown_setCell (w2.drewN nq) ⟨b, 0, none⟩ (.int .i64 (k + 1))) (fun e => by injection e with e; exact hbe e)
                      obtain ⟨W3, hW3⟩ : ∃ W3, W3 = World.setCell (w2.drewN nq) ⟨b, 0, none⟩ (.int .i64 (k + 1)) := ⟨_, rfl⟩
                      rw [← hW3] at hm3 hf3 he3
                      first
                        | rw [← hW3]
                        | skip
                      refine (plain_calls W3 b base A c { m with place := m.place + 1 } hm3 ⟨6, ia, ib, ic⟩ HPF.out HPW.out HPN.out (fun _ => HPZ.out)).mono ?_
                      rintro e w4 ⟨rfl, hm4, hf4⟩
                      have HM4 := Lib.hid hm4
                      have HF4 := Lib.hid (hf3.trans hf4)
                      have HE4 := Lib.hid (blk_fr2 he3 hf4 (by omega) (fun g hg e => by have := HA.out g hg; omega))
                      have e0 : w4.cell? ⟨w.heap.size, 0, none⟩ = some (.int .i64 0) := HE4.out.cell rfl
                      have e1 : w4.cell? ⟨w.heap.size, 1, none⟩ = some (.int .i64 0) := HE4.out.cell rfl
                      have f0 := HE4.out.free 0
                      have f1 := HE4.out.free 1
                      clear hm3 hf3 he3 hW3 hm4 hf4 HM2 HF2 HE2 HX2 XQ
                      go_wp2
                      obtain ⟨q1, q2, q3⟩ := ev_put HM4.out HF4.out hbl HA.out HE4.out (.int .i64 0) (.int .i64 0)
                      have y0 := q3.cell (j := 0) rfl
                      have y1 := q3.cell (j := 1) rfl
                      rw [HST.out]
                      exact bodyPost_ret (v := .agg #[.int .i64 0, .int .i64 0]) (by simp [results, Tryd.results20, go_sem, y0, y1]) rfl ⟨rfl, q1, q2⟩
                  · skip
                    rw [h7] at x0
                    obtain ⟨op', ia, ib, ic⟩ := i
                    simp only at h7 x0 x1 x2 x3 HOPS h0 h17 h13 h14 HST' HPN
                    subst h7
                    have HC8 : Hid (ic < 8) := Lib.hid (by omega)
                    obtain ⟨rc, hrc⟩ : ∃ rc, rc = m.reg ic := ⟨_, rfl⟩
                    have cR : w2.cell? ⟨b, 1 + ic, none⟩ = some (.int .i64 rc) := by rw [hrc]; exact HM2.out.blk.cell (mcs_reg HM2.out.len HC8.out)
                    have hq := HC8.out
                    have hq2 : (ic : Int) < 8 := by omega
                    by_cases hz : rc = 0
                    · have HST := Lib.hid (HST'.out.trans (if_pos ⟨by omega, by rw [← hrc]; exact hz⟩))
                      subst hz
                      clear HST' HOPS h0 h17 h13 h14 hrc HPN
                      go_wp2_with fail
                      go_quiet (fail)
                      go_wp2_with fail
                      refine (trap_calls _ b base A c m (MM.drewN HM2.out nq) 80).mono ?_
                      rintro e w3 ⟨rfl, hm3, hf3⟩
                      have HM3 := Lib.hid hm3
                      have HF3 := Lib.hid (HF2.out.trans (Fr2.undrew hf3))
                      have HE3 := Lib.hid (blk_fr2 HE2.out (Fr2.undrew hf3) (by omega) (fun g hg e => by have := HA.out g hg; omega))
                      have e0 : w3.cell? ⟨w.heap.size, 0, none⟩ = some (.int .i64 0) := HE3.out.cell rfl
                      have e1 : w3.cell? ⟨w.heap.size, 1, none⟩ = some (.int .i64 0) := HE3.out.cell rfl
                      have f0 := HE3.out.free 0
                      have f1 := HE3.out.free 1
                      clear hm3 hf3 HM2 HF2 HE2 HX2 XQ
                      go_wp2
                      obtain ⟨q1, q2, q3⟩ := ev_put HM3.out HF3.out hbl HA.out HE3.out (.int .i64 (trapM m 80).2.1) (.int .i64 (trapM m 80).2.2)
                      have y0 := q3.cell (j := 0) rfl
                      have y1 := q3.cell (j := 1) rfl
                      rw [HST.out]
                      exact bodyPost_ret (v := .agg #[.int .i64 (trapM m 80).2.1, .int .i64 (trapM m 80).2.2]) (by simp [results, Tryd.results20, go_sem, y0, y1]) rfl ⟨rfl, q1, q2⟩
                    · have HST := Lib.hid (HST'.out.trans (if_neg (fun h => hz (by rw [hrc]; exact h.2))))
                      have HPZ : Hid (({ m with place := m.place + 1 } : Mach).reg ic ≠ 0) := Lib.hid fun h => hz (hrc.trans h)
                      have hzb : (rc == 0) = false := by simpa using hz
                      clear HST' HOPS h0 h17 h13 h14 hrc hz
                      go_wp2_with fail
                      go_quiet (fail)
                      go_wp2_with fail
                      have x0 : w2.cell? ⟨w.heap.size + 1, 0, none⟩ = some (.int .u8 (7 : Nat)) := XQ.out.1
                      have hm3 := (MM.drewN HM2.out nq).put 0 (.int .i64 (k + 1)) { m with place := m.place + 1 } (by rw [HK.out]; rfl) HM2.out.len rfl
                      have hf3 := (HF2.out.drewN nq).trans (fr2_set (w2.drewN nq) b 0 A (.int .i64 (k + 1)))
                      have he3 := (show Blk (w2.drewN nq) w.heap.size [.int .i64 0, .int .i64 0] from HE2.out).grown (grown_setCell (w2.drewN nq) ⟨b, 0, none⟩ (.int .i64 (k + 1))) (fun e => by injection e with e; exact hbe e)
                      obtain ⟨W3, hW3⟩ : ∃ W3, W3 = World.setCell (w2.drewN nq) ⟨b, 0, none⟩ (.int .i64 (k + 1)) := ⟨_, rfl⟩
                      rw [← hW3] at hm3 hf3 he3
                      first
                        | rw [← hW3]
                        | skip
                      refine (plain_calls W3 b base A c { m with place := m.place + 1 } hm3 ⟨7, ia, ib, ic⟩ HPF.out HPW.out HPN.out (fun _ => HPZ.out)).mono ?_
                      rintro e w4 ⟨rfl, hm4, hf4⟩
                      have HM4 := Lib.hid hm4
                      have HF4 := Lib.hid (hf3.trans hf4)
                      have HE4 := Lib.hid (blk_fr2 he3 hf4 (by omega) (fun g hg e => by have := HA.out g hg; omega))
                      have e0 : w4.cell? ⟨w.heap.size, 0, none⟩ = some (.int .i64 0) := HE4.out.cell rfl
                      have e1 : w4.cell? ⟨w.heap.size, 1, none⟩ = some (.int .i64 0) := HE4.out.cell rfl
                      have f0 := HE4.out.free 0
                      have f1 := HE4.out.free 1
                      clear hm3 hf3 he3 hW3 hm4 hf4 HM2 HF2 HE2 HX2 XQ
                      go_wp2
                      obtain ⟨q1, q2, q3⟩ := ev_put HM4.out HF4.out hbl HA.out HE4.out (.int .i64 0) (.int .i64 0)
                      have y0 := q3.cell (j := 0) rfl
                      have y1 := q3.cell (j := 1) rfl
                      rw [HST.out]
                      exact bodyPost_ret (v := .agg #[.int .i64 0, .int .i64 0]) (by simp [results, Tryd.results20, go_sem, y0, y1]) rfl ⟨rfl, q1, q2⟩
                · have HST := Lib.hid (HST'.out.trans (if_neg (fun h => h67 h.1)))
                  clear HST'
                  have HPZ : Hid ((i.op = 6 ∨ i.op = 7) → ({ m with place := m.place + 1 } : Mach).reg i.c ≠ 0) := Lib.hid fun h => absurd h h67
                  have b0 : ((i.op : Int) == 0) = false := by simp; omega
                  have b1 : ((i.op : Int) == 17) = false := by simp; omega
                  have b2 : ((i.op : Int) == 13) = false := by simp; omega
                  have b3 : ((i.op : Int) == 14) = false := by simp; omega
                  have b4 : ((i.op : Int) == 6) = false := by simp; omega
                  have b5 : ((i.op : Int) == 7) = false := by simp; omega
                  clear h0 h17 h13 h14 h67 HOPS
                  go_wp2_with fail
                  have hm3 := HM2.out.put 0 (.int .i64 (k + 1)) { m with place := m.place + 1 } (by rw [HK.out]; rfl) HM2.out.len rfl
                  have hf3 := HF2.out.trans (fr2_set w2 b 0 A (.int .i64 (k + 1)))
                  have he3 := HE2.out.grown (grown_setCell w2 ⟨b, 0, none⟩ (.int .i64 (k + 1))) (fun e => by injection e with e; exact hbe e)
                  obtain ⟨W3, hW3⟩ : ∃ W3, W3 = World.setCell w2 ⟨b, 0, none⟩ (.int .i64 (k + 1)) := ⟨_, rfl⟩
                  rw [← hW3] at hm3 hf3 he3
                  first
                    | rw [← hW3]
                    | skip
                  refine (plain_calls W3 b base A c { m with place := m.place + 1 } hm3 i HPF.out HPW.out HPN.out HPZ.out).mono ?_
                  rintro e w4 ⟨rfl, hm4, hf4⟩
                  have HM4 := Lib.hid hm4
                  have HF4 := Lib.hid (hf3.trans hf4)
                  have HE4 := Lib.hid (blk_fr2 he3 hf4 (by omega) (fun g hg e => by have := HA.out g hg; omega))
                  have e0 : w4.cell? ⟨w.heap.size, 0, none⟩ = some (.int .i64 0) := HE4.out.cell rfl
                  have e1 : w4.cell? ⟨w.heap.size, 1, none⟩ = some (.int .i64 0) := HE4.out.cell rfl
                  have f0 := HE4.out.free 0
                  have f1 := HE4.out.free 1
                  clear hm3 hf3 he3 hW3 hm4 hf4 HM2 HF2 HE2 HX2 XQ
                  go_wp2
                  obtain ⟨q1, q2, q3⟩ := ev_put HM4.out HF4.out hbl HA.out HE4.out (.int .i64 0) (.int .i64 0)
                  have y0 := q3.cell (j := 0) rfl
                  have y1 := q3.cell (j := 1) rfl
                  rw [HST.out]
                  exact bodyPost_ret (v := .agg #[.int .i64 0, .int .i64 0]) (by simp [results, Tryd.results20, go_sem, y0, y1]) rfl ⟨rfl, q1, q2⟩
  · have hsb : (m.state != 0) = true := by simpa using hs
    have HST : Hid (stepM l m = (m, 0, 0)) := Lib.hid (by simp [stepM, hs])
    clear hs
    go_enter Tryd.func20, Tryd.ntmps20
    go_wp2
    rw [HST.out]
    exact bodyPost_ret (v := .agg #[.int .i64 0, .int .i64 0]) (by simp [results, Tryd.results20, go_sem]) rfl ⟨rfl, HM1.out, HF1.out⟩
end Go.Proofs.YtlecpekgnlaneaaDoor
