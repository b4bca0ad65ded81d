/- Bundle 11 of the texts GHeights, GStack, GMatch, GSaid, Chan, PortAt, PortOps, PortRemove. -/
import Derived.Test.YtiebpmpjclnpeaaDoorGb10
import Derived.Test.YtiebpmpjclnpeaaDoorGb1
import Derived.Great.BuildSlice
import Derived.Test.YtiebpmpjclnpeaaDoorGb9
import Derived.Test.YtiebpmpjclnpeaaDoorProg
import Derived.Lib.Hide
import Derived.RegionTactic
import Derived.ChangeAlike
import Derived.Laws.CopyOwn
/- heights: so many signs may wait at once while a name vanishes. -/
namespace Go.Proofs.YtiebpmpjclnpeaaDoor
open Go.RowKit Nac Nac.Gram
def hcs (l : List Nat) : List Value := l.map fun (h : Nat) => .int .i64 (h : Int)
theorem sHts : SInfo 84 16 := ⟨by kernel_rfl, _, Tryd.underlying84, rfl⟩
theorem zHts : ((Tryd.prog.info? 84).bind (·.zero)) = some (.agg (hcs (List.replicate 16 0)).toArray) := by kernel_rfl
theorem s1Int : (Tryd.prog.info? 3).map (·.size) = some 1 := by kernel_rfl
theorem hcs_one (l : List Nat) : ∀ v ∈ hcs l, v.oneCell' = true := fun v hv => by obtain ⟨x, _, rfl⟩ := List.mem_map.1 hv; rfl
theorem hcs_set (l : List Nat) (k x : Nat) : (hcs l).set k (.int .i64 (x : Int)) = hcs (l.set k x) := by unfold hcs; rw [List.map_set]
theorem hcs_get {l : List Nat} {k : Nat} (h : k < l.length) : (hcs l)[k]? = some (.int .i64 ((l[k] : Nat) : Int)) := by unfold hcs; rw [List.getElem?_map, List.getElem?_eq_getElem h]; rfl
structure HOk (hl : List Nat) (u : Nat) : Prop where
  len : hl.length = 16
  le : ∀ h ∈ hl, h ≤ 8 * u
theorem HOk.set {hl : List Nat} {u k x : Nat} (h : HOk hl u) (hx : x ≤ 8 * (u + 1)) : HOk (hl.set k x) (u + 1) := ⟨by simpa using h.len, fun y hy => by
  rcases List.mem_or_eq_of_mem_set hy with h1 | rfl
  · have := h.le y h1; omega
  · exact hx⟩
theorem HOk.more {hl : List Nat} {u : Nat} (h : HOk hl u) : HOk hl (u + 1) := ⟨h.len, fun y hy => by have := h.le y hy; omega⟩
def RetHts (w : World) (e : Ending) (w' : World) : Prop := ∃ hl : List Nat, e = .returned (.agg (hcs hl).toArray) ∧ HOk hl 768 ∧ Below w.heap.size w w'
theorem vanish_name {F : Fx} {l : List Sgn} (h : vanishB F l = true) : ∀ x ∈ l, 0 ≤ x.name := fun x hx => by
  unfold vanishB at h
  rw [List.all_eq_true] at h
  have := h x hx
  rw [Bool.and_eq_true, decide_eq_true_iff] at this
  exact this.1
set_option maxRecDepth 100000 in
set_option maxHeartbeats 4000000 in
theorem heights_calls (w : World) (F : Fx) (bf N : Nat) (A : Option Addr) (c : Nat) (M : List FormAt) (hF : F.Ok) (hf : Blk w bf (fcells F)) (hG : Shaped (fms M) N) (hM : MOk M) (h48 : M.length ≤ 48) (hr : RG w w.heap.size A M) :
    Calls Tryd.prog 24 #[.agg (grv (N : Int) A M.length c).toArray, .pointer (some ⟨bf, 0, none⟩)] w (RetHts w) := by
  have HFO := Lib.hid hF
  have HBF := Lib.hid hf
  have HGS := Lib.hid hG
  have HMO := Lib.hid hM
  have HR := Lib.hid hr
  obtain ⟨n, hnl⟩ : ∃ n, n = M.length := ⟨_, rfl⟩
  have HNL := Lib.hid hnl
  have hn48 : n ≤ 48 := by omega
  have hN16 : N ≤ 16 := hG.n16
  rw [← hnl]
  clear hF hf hG hM hr hnl h48
  go_enter Tryd.func24, Tryd.ntmps24
  go_wp2_with (first | ((with_reducible show wpList _ _ _ (Oper.mk (some 2) (Op.box 27 _) _ _ _ _ :: _) _ _); refine wpList_boxS (T := 27) rfl _ rfl (grv (N : Int) A n c) rfl ?_) | fail)
  intro w1 hb1 hg1 hs1
  obtain ⟨b2, hb2e⟩ : ∃ b, b = w.heap.size := ⟨_, rfl⟩
  rw [← hb2e] at hb1 ⊢
  have HB1 := Lib.hid hb1
  have HW1 : Hid (Below w.heap.size w w1) := Lib.hid (grown_below hg1 (Nat.le_refl _) (fun k e => by cases e))
  clear hb1 hg1 hs1 hb2e
  go_wp2_with (first | ((with_reducible show wpList _ _ _ (Oper.mk (some 4) (Op.alloc 84) _ _ _ _ :: _) _ _); refine wpList_allocS _ zHts rfl rfl ?_) | fail)
  intro w2 hb2 hg2 hs2
  obtain ⟨b4, hb4e⟩ : ∃ b, b = w1.heap.size := ⟨_, rfl⟩
  rw [← hb4e] at hb2 ⊢
  have HB4 := Lib.hid hb2
  have HB12 : Hid (Blk w2 b2 (grv (N : Int) A n c)) := Lib.hid (HB1.out.grown hg2 (fun e => by cases e))
  have HW2 : Hid (Below w.heap.size w w2) := Lib.hid (below_trans HW1.out (grown_below hg2 HW1.out.size (fun k e => by cases e)))
  have HN4 : Hid (w.heap.size ≤ b4 ∧ w2.heap.size = b4 + 1) := Lib.hid (by have := HW1.out.size; omega)
  clear hb2 hg2 hs2 hb4e HB1 HW1
  go_wp2_with (first | ((with_reducible show wpList _ _ _ (Oper.mk (some 5) (Op.alloc 84) _ _ _ _ :: _) _ _); refine wpList_allocS _ zHts rfl rfl ?_) | fail)
  intro w3 hb3 hg3 hs3
  obtain ⟨b5, hb5e⟩ : ∃ b, b = w2.heap.size := ⟨_, rfl⟩
  rw [← hb5e] at hb3 ⊢
  have HB5 := Lib.hid hb3
  have HB13 : Hid (Blk w3 b2 (grv (N : Int) A n c)) := Lib.hid (HB12.out.grown hg3 (fun e => by cases e))
  have HB43 : Hid (Blk w3 b4 (hcs (List.replicate 16 0))) := Lib.hid (HB4.out.grown hg3 (fun e => by cases e))
  have HW3 : Hid (Below w.heap.size w w3) := Lib.hid (below_trans HW2.out (grown_below hg3 HW2.out.size (fun k e => by cases e)))
  have HN5 : Hid (w.heap.size ≤ b5 ∧ b5 = b4 + 1 ∧ w.heap.size ≤ b4 ∧ b2 ≠ b5) := Lib.hid (by have := HN4.out; have := HB12.out.lt; exact ⟨by omega, by omega, by omega, by omega⟩)
  have hc0 : w3.cell? ⟨b2, 0, none⟩ = some (.int .i64 (N : Int)) := HB13.out.cell rfl
  have H0 : Hid (HOk (List.replicate 16 0) 0) := Lib.hid ⟨rfl, fun h hh => by rw [List.eq_of_mem_replicate hh]; omega⟩
  clear hb3 hg3 hs3 hb5e HB12 HB4 HW2 HN4
  go_wp2
  clear hc0
  go_loopw [13] (fun s13 wr => ∃ (k : Nat) (hl : List Nat) (u : Nat), k ≤ N ∧ s13 = .int .i64 (k : Int) ∧ Blk wr b5 (hcs hl) ∧ HOk hl u ∧ u ≤ k * 48 ∧ w3.grownBy wr (some b5)) (fun s13 _ => N - (intOf s13).toNat)
  case atStart => exact ⟨0, _, 0, Nat.zero_le _, rfl, HB5.out, H0.out, by omega, World.grownBy.refl _ _⟩
  case round =>
    obtain ⟨k, hl, u, hk, rfl, hb5, hho, hu, hgr⟩ := hrel
    have HB5r := Lib.hid hb5
    have HHO := Lib.hid hho
    have HU := Lib.hid hu
    have HGR := Lib.hid hgr
    have HB2r : Hid (Blk wr b2 (grv (N : Int) A n c)) := Lib.hid (HB13.out.grown hgr (fun e => by injection e with e; exact HN5.out.2.2.2 e.symm))
    clear hb5 hho hu hgr
    by_cases hlt : k < N
    · have hc1 : wr.cell? ⟨b2, 1, none⟩ = some (.slice A n c) := HB2r.out.cell rfl
      obtain ⟨wi, hwi⟩ : ∃ wi, wi = wr := ⟨_, rfl⟩
      have HWI := Lib.hid hwi
      clear hwi
      go_wp2
      clear hc1
      rw [← HWI.out] at HB5r HGR HB2r
      rw [← HWI.out]
      go_loopw [18] (fun s18 wr => ∃ (j : Nat) (hl : List Nat) (u : Nat), j ≤ n ∧ s18 = .int .i64 (j : Int) ∧ Blk wr b5 (hcs hl) ∧ HOk hl u ∧ u ≤ k * 48 + j ∧ w3.grownBy wr (some b5)) (fun s18 _ => n - (intOf s18).toNat)
      case atStart => exact ⟨0, hl, u, Nat.zero_le _, rfl, HB5r.out, HHO.out, by have := HU.out; omega, HGR.out⟩
      case round =>
        obtain ⟨j, hl, u, hj, rfl, hb5, hho, hu, hgr⟩ := hrel
        clear HB5r HHO HU HGR
        have HB5 := Lib.hid hb5
        have HHO := Lib.hid hho
        have HU := Lib.hid hu
        have HGR := Lib.hid hgr
        have HWr : Hid (Below w.heap.size w wr) := Lib.hid ⟨hgr.os.trans HW3.out.os, hgr.tape.trans HW3.out.tape, hgr.output.trans HW3.out.output, Nat.le_trans HW3.out.size hgr.size, fun k hk => (hgr.block k (Nat.lt_of_lt_of_le hk HW3.out.size) (fun e => by injection e with e; have := HN5.out; omega)).trans (HW3.out.block k hk)⟩
        clear hb5 hho hu hgr
        by_cases hjn : j < n
        · have hkl : j < M.length := by rw [← HNL.out]; exact hjn
          obtain ⟨g, kk, hA, hgB, hgs, hrow⟩ := HR.out.rows (by rintro rfl; simp at hkl)
          subst hA
          obtain ⟨p, hp⟩ : ∃ p, p = M[j] := ⟨_, rfl⟩
          have HPM : Hid (p ∈ M) := Lib.hid (by rw [hp]; exact List.getElem_mem hkl)
          have HPF : Hid (p.1 ∈ fms M) := Lib.hid (List.mem_map.2 ⟨p, HPM.out, rfl⟩)
          have HROW : Hid (wr.rangeAt g (kk + j * 2) (frv p.1 p.2.1 p.2.2)) := Lib.hid (by rw [hp]; exact range_below (hrow j hkl) HWr.out hgB)
          clear hp hkl hgB hgs hrow
          go_wp2_with (first
            | ((with_reducible show wpList _ _ _ (Oper.mk _ (Op.load 105 _) _ _ _ _ :: _) _ _); refine wpList_loadM sFrm rfl _ rfl g (kk + j * 2) (frv p.1 p.2.1 p.2.2) rfl HROW.out rfl ?_)
            | ((with_reducible show wpList _ _ _ (Oper.mk _ (Op.alloc 105) _ _ _ _ :: _) _ _); refine wpList_allocS _ zFrm rfl rfl ?_)
            | fail)
          intro w4 hb4 hg4 hs4
          obtain ⟨b7, hb7e⟩ : ∃ b, b = wr.heap.size := ⟨_, rfl⟩
          rw [← hb7e] at hb4 ⊢
          have HB7 := Lib.hid hb4
          have HG4 : Hid (Below wr.heap.size wr w4 ∧ wr.heap.size ≤ b7) := Lib.hid ⟨grown_below hg4 (Nat.le_refl _) (fun k e => by cases e), by omega⟩
          clear hb4 hg4 hs4 hb7e HROW
          go_wp2_with (first
            | ((with_reducible show wpList _ _ _ (Oper.mk _ (Op.store 105 _ _) _ _ _ _ :: _) _ _); refine wpList_storeS sFrm rfl _ _ rfl b7 _ (frv p.1 p.2.1 p.2.2) rfl rfl HB7.out rfl rfl (frv_one _ _ _) ?_)
            | fail)
          intro w5 hb5 hg5
          have hGW : Below wr.heap.size wr w5 := below_trans HG4.out.1 (grown_below hg5 HG4.out.1.size fun k e => by injection e with e; have := HG4.out.2; omega)
          have HB75 := Lib.hid hb5
          have HB55 : Hid (Blk w5 b5 (hcs hl)) := Lib.hid (HB5.out.below hGW HB5.out.lt)
          have HW5 : Hid (Below w.heap.size w w5) := Lib.hid (below_trans HWr.out (hGW.mono HWr.out.size))
          have HGR5 : Hid (w3.grownBy w5 (some b5)) := Lib.hid (HGR.out.trans (grownBy_below hGW (Nat.le_refl _)))
          have HRS5 : Hid (RS w5 w.heap.size p.2.1 p.1.body) := Lib.hid ((HR.out.body p HPM.out).below HW5.out (Nat.le_refl _))
          clear hb5 hg5 HB7 HG4 hGW HB5 HGR HWr
          obtain ⟨A2, hA2⟩ : ∃ A2, A2 = p.2.1 := ⟨_, rfl⟩
          obtain ⟨c2, hc2⟩ : ∃ c2, c2 = p.2.2 := ⟨_, rfl⟩
          obtain ⟨L, hL⟩ : ∃ L, L = p.1.body.length := ⟨_, rfl⟩
          have HRC : Hid (A2 = p.2.1 ∧ c2 = p.2.2 ∧ L = p.1.body.length) := Lib.hid ⟨hA2, hc2, hL⟩
          have hcb : w5.cell? ⟨b7, 1, none⟩ = some (.slice A2 L c2) := HB75.out.cell (by rw [hA2, hc2, hL]; rfl)
          have hL8 : L ≤ 8 := by rw [hL]; exact HGS.out.body _ HPF.out
          obtain ⟨vb, hvb⟩ : ∃ vb, vb = vanishB F p.1.body := ⟨_, rfl⟩
          have HVB := Lib.hid hvb
          clear hA2 hc2 hL hvb
          go_wp2_with fail
          rw [HRC.out.1, HRC.out.2.2]
          refine (vanishes_calls w5 F bf _ c2 p.1.body HFO.out (HBF.out.below HW5.out HBF.out.lt) (HRS5.out.mono HW5.out.size) (fun x hx => by have := HGS.out.sign _ HPF.out x hx; have := HGS.out.n16; omega) (by have := HGS.out.body _ HPF.out; omega)).mono ?_
          rw [← HRC.out.1, ← HRC.out.2.2]
          rintro e w6 ⟨rfl, hb6⟩
          rw [← HVB.out]
          have HB76 : Hid (Blk w6 b7 (frv p.1 p.2.1 p.2.2)) := Lib.hid (HB75.out.below hb6 HB75.out.lt)
          have HB56 : Hid (Blk w6 b5 (hcs hl)) := Lib.hid (HB55.out.below hb6 HB55.out.lt)
          have HW6 : Hid (Below w.heap.size w w6) := Lib.hid (below_trans HW5.out (hb6.mono HW5.out.size))
          have HGR6 : Hid (w3.grownBy w6 (some b5)) := Lib.hid (HGR5.out.trans (grownBy_below hb6 (Nat.le_refl _)))
          clear hb6 hcb HB75 HB55 HW5 HGR5 HRS5
          cases vb with
          | false =>
            go_wp2
            go_roundw
            case rel => exact ⟨j + 1, hl, u, by omega, by go_num, HB56.out, HHO.out, by have := HU.out; omega, HGR6.out⟩
            case measure => simp [intOf]; omega
          | true =>
            have HNN : Hid (∀ x ∈ p.1.body, 0 ≤ x.name) := Lib.hid (vanish_name HVB.out.symm)
            have HU8 : Hid (u ≤ 816) := Lib.hid (by have := HU.out; omega)
            obtain ⟨pn, hpn⟩ : ∃ pn, pn = p.1.name := ⟨_, rfl⟩
            have HPN : Hid (pn < 16 ∧ pn = p.1.name) := Lib.hid (by have := HGS.out.name _ HPF.out; exact ⟨by omega, hpn⟩)
            have hcb : w6.cell? ⟨b7, 1, none⟩ = some (.slice A2 L c2) := HB76.out.cell (by rw [HRC.out.1, HRC.out.2.1, HRC.out.2.2]; rfl)
            clear hpn
            go_wp2
            clear hcb
            go_loopw [8, 33] (fun s8 s33 wr => ∃ (i m : Nat), i ≤ L ∧ s33 = .int .i64 (i : Int) ∧ s8 = .int .i64 (m : Int) ∧ m ≤ 8 * (u + 1) ∧ Below w6.heap.size w6 wr) (fun _ s33 _ => L - (intOf s33).toNat)
            case atStart => exact ⟨0, L, Nat.zero_le _, rfl, rfl, by omega, Below.refl _ _⟩
            case round =>
              obtain ⟨i, m, hi, rfl, rfl, hm, hbr⟩ := hrel
              have HM8 := Lib.hid hm
              have HBR := Lib.hid hbr
              have HWr : Hid (Below w.heap.size w wr) := Lib.hid (below_trans HW6.out (hbr.mono HW6.out.size))
              have HB7r : Hid (Blk wr b7 (frv p.1 p.2.1 p.2.2)) := Lib.hid (HB76.out.below hbr HB76.out.lt)
              have HB5r : Hid (Blk wr b5 (hcs hl)) := Lib.hid (HB56.out.below hbr HB56.out.lt)
              have HGRr : Hid (w3.grownBy wr (some b5)) := Lib.hid (HGR6.out.trans (grownBy_below hbr (Nat.le_refl _)))
              clear hm hbr
              by_cases hiL : i < L
              · have hil : i < p.1.body.length := by rw [← HRC.out.2.2]; exact hiL
                obtain ⟨g3, k3, hA3, hg3, hg3s, hrow3⟩ := ((HR.out.body p HPM.out).below HWr.out (Nat.le_refl _)) (by intro e; rw [e] at hil; simp at hil)
                have hA3' : A2 = some ⟨g3, k3, none⟩ := by rw [HRC.out.1]; exact hA3
                subst hA3'
                obtain ⟨x, hxe⟩ : ∃ x, x = p.1.body[i] := ⟨_, rfl⟩
                have hxm : x ∈ p.1.body := by rw [hxe]; exact List.getElem_mem hil
                have HRG : Hid (wr.rangeAt g3 (k3 + i * 3) (sgv x)) := Lib.hid (by rw [hxe]; exact hrow3 i hil)
                obtain ⟨nx, hnx⟩ := Int.eq_ofNat_of_zero_le (HNN.out x hxm)
                have hnx16 : nx < 16 := by have := HGS.out.sign _ HPF.out x hxm; omega
                have hnl : nx < hl.length := by rw [HHO.out.len]; exact hnx16
                obtain ⟨hx, hhx⟩ : ∃ h, h = hl[nx] := ⟨_, rfl⟩
                have HHX : Hid (hx ≤ 8 * u) := Lib.hid (by rw [hhx]; exact HHO.out.le _ (List.getElem_mem hnl))
                have HHG : Hid ((hcs hl)[nx]? = some (.int .i64 (hx : Int))) := Lib.hid (by rw [hhx]; exact hcs_get hnl)
                have HXN : Hid (x.name = (nx : Int)) := Lib.hid hnx
                have QX : Hid (nx < 16) := Lib.hid hnx16
                clear hxe hxm hnx hhx hnl hrow3 hg3 hg3s hA3 hil hnx16
                go_wp2_with (first
                  | ((with_reducible show wpList _ _ _ (Oper.mk _ (Op.load 88 _) _ _ _ _ :: _) _ _); refine wpList_loadM sSgn rfl _ rfl g3 (k3 + i * 3) (sgv x) rfl HRG.out rfl ?_)
                  | ((with_reducible show wpList _ _ _ (Oper.mk _ (Op.alloc 88) _ _ _ _ :: _) _ _); refine wpList_allocS _ zSgn rfl rfl ?_)
                  | fail)
                intro w7 hb7 hg7 hs7
                obtain ⟨b10, hb10e⟩ : ∃ b, b = wr.heap.size := ⟨_, rfl⟩
                rw [← hb10e] at hb7 ⊢
                have HB10 := Lib.hid hb7
                have HG7 : Hid (Below wr.heap.size wr w7 ∧ wr.heap.size ≤ b10) := Lib.hid ⟨grown_below hg7 (Nat.le_refl _) (fun k e => by cases e), by omega⟩
                clear hb7 hg7 hs7 hb10e HRG
                go_wp2_with (first
                  | ((with_reducible show wpList _ _ _ (Oper.mk _ (Op.store 88 _ _) _ _ _ _ :: _) _ _); refine wpList_storeS sSgn rfl _ _ rfl b10 (sgv ⟨0, 0, 0⟩) (sgv x) rfl rfl HB10.out rfl rfl (sgv_one _) ?_)
                  | fail)
                intro wq hbq hgq
                have hGW : Below wr.heap.size wr wq := below_trans HG7.out.1 (grown_below hgq HG7.out.1.size fun k e => by injection e with e; have := HG7.out.2; omega)
                have HB10q := Lib.hid hbq
                have HBRq : Hid (Below w6.heap.size w6 wq) := Lib.hid (below_trans HBR.out (hGW.mono HBR.out.size))
                have HB7q : Hid (Blk wq b7 (frv p.1 p.2.1 p.2.2)) := Lib.hid (HB7r.out.below hGW HB7r.out.lt)
                have HB5q : Hid (Blk wq b5 (hcs hl)) := Lib.hid (HB5r.out.below hGW HB5r.out.lt)
                clear hbq hgq HB10 HG7 hGW HB7r HB5r HGRr HWr HBR
                have NB : Hid (∀ w', Below wq.heap.size wq w' → w'.cell? ⟨b7, 1, none⟩ = some (.slice (some ⟨g3, k3, none⟩) L c2)) := Lib.hid fun w' hb => (HB7q.out.below hb HB7q.out.lt).cell (by rw [HRC.out.1, HRC.out.2.1, HRC.out.2.2]; rfl)
                have NX : Hid (∀ w', Below wq.heap.size wq w' → w'.cell? ⟨b10, 0, none⟩ = some (.int .i64 (nx : Int))) := Lib.hid fun w' hb => (HB10q.out.below hb HB10q.out.lt).cell (by rw [← HXN.out]; rfl)
                have NH : Hid (∀ w', Below wq.heap.size wq w' → w'.cell? ⟨b5, nx, none⟩ = some (.int .i64 (hx : Int))) := Lib.hid fun w' hb => (HB5q.out.below hb HB5q.out.lt).cell HHG.out
                obtain ⟨l1, hl1⟩ : ∃ l1, l1 = L - 1 := ⟨_, rfl⟩
                obtain ⟨z1, hz1⟩ : ∃ z1, z1 = l1 - i := ⟨_, rfl⟩
                obtain ⟨z2, hz2⟩ : ∃ z2, z2 = z1 + hx := ⟨_, rfl⟩
                obtain ⟨m2, hm2⟩ : ∃ m2, m2 = max m z2 := ⟨_, rfl⟩
                have Q1 : Hid (IntKind.i64.wrap ((L : Int) - 1) = (l1 : Int)) := Lib.hid (by rw [IntKind.wrap_i64]; omega)
                have Q2 : Hid (IntKind.i64.wrap ((l1 : Int) - (i : Int)) = (z1 : Int)) := Lib.hid (by rw [IntKind.wrap_i64]; omega)
                have Q3 : Hid (IntKind.i64.wrap ((z1 : Int) + (hx : Int)) = (z2 : Int)) := Lib.hid (by have := HHX.out; have := HU8.out; rw [IntKind.wrap_i64]; omega)
                have Q4 : Hid ((if m < z2 then (z2 : Int) else (m : Int)) = (m2 : Int)) := Lib.hid (by rw [hm2]; split <;> omega)
                have HM2 : Hid (m2 ≤ 8 * (u + 1)) := Lib.hid (by have := HHX.out; have := HM8.out; omega)
                clear hl1 hz1 hz2 hm2
                go_wp2_with fail
                refine region_vals [.int .i64 (m : Int), .pointer (some ⟨b7, 1, none⟩), .slice (some ⟨g3, k3, none⟩) L c2, .int .i64 (L : Int), .int .i64 (l1 : Int), .int .i64 (i : Int), .int .i64 (z1 : Int), .pointer (some ⟨b10, 0, none⟩), .int .i64 (nx : Int), .pointer (some ⟨b5, nx, none⟩), .int .i64 (hx : Int), .int .i64 (z2 : Int), .int .i64 (m2 : Int), .int .i64 (m2 : Int)] [some 38, some 39, some 40, some 41, some 42, some 43, some 44, some 45, some 46, some 47, some 48, some 49, some 50, some 8] (fun _ w' => Below wq.heap.size wq w') (by kernel_rfl) (by kernel_rfl) (by kernel_rfl) rfl rfl (Below.refl _ _).drew (fun ii hii => ?_) ?_
                · match ii, hii with
                  | 0, _ => exact vstep_first rfl (vwant_none rfl) (fun _ _ h => h) 8 (Or.inl rfl) (by kernel_rfl) rfl
                  | 1, _ => exact vstep_pure rfl (vwant_none rfl) (fun _ _ h => h) (fun LL aa ww cc => ⟨.pointer (some ⟨b7, 1, none⟩), by have e0 : aa.tmps.getD 7 undef = .pointer (some ⟨b7, 0, none⟩) := (cc.orig 7 (by kernel_rfl)).trans rfl; simp only [execOp, Act.eval, e0]; go_simp, rfl⟩)
                  | 2, _ => exact vstep_pure rfl (vwant_none rfl) (fun _ _ h => h) (fun LL aa ww cc => ⟨.slice (some ⟨g3, k3, none⟩) L c2, by have e0 : aa.tmps.getD 39 undef = .pointer (some ⟨b7, 1, none⟩) := cc.slot 1 39 (by kernel_rfl) rfl; have q := NB.out _ cc.world; simp only [execOp, Act.eval, e0]; go_simp, rfl⟩)
                  | 3, _ => exact vstep_pure rfl (vwant_none rfl) (fun _ _ h => h) (fun LL aa ww cc => ⟨.int .i64 (L : Int), by have e0 : aa.tmps.getD 40 undef = .slice (some ⟨g3, k3, none⟩) L c2 := cc.slot 2 40 (by kernel_rfl) rfl; simp only [execOp, Act.eval, e0]; go_simp, rfl⟩)
                  | 4, _ => exact vstep_pure rfl (vwant_none rfl) (fun _ _ h => h) (fun LL aa ww cc => ⟨.int .i64 (l1 : Int), by have e0 : aa.tmps.getD 41 undef = .int .i64 (L : Int) := cc.slot 3 41 (by kernel_rfl) rfl; have q := Q1.out; simp only [execOp, Act.eval, e0]; go_simp, rfl⟩)
                  | 5, _ => exact vstep_first rfl (vwant_none rfl) (fun _ _ h => h) 9 (Or.inl rfl) (by kernel_rfl) rfl
                  | 6, _ => exact vstep_pure rfl (vwant_none rfl) (fun _ _ h => h) (fun LL aa ww cc => ⟨.int .i64 (z1 : Int), by have e0 : aa.tmps.getD 42 undef = .int .i64 (l1 : Int) := cc.slot 4 42 (by kernel_rfl) rfl; have e1 : aa.tmps.getD 43 undef = .int .i64 (i : Int) := cc.slot 5 43 (by kernel_rfl) rfl; have q := Q2.out; simp only [execOp, Act.eval, e0, e1]; go_simp, rfl⟩)
                  | 7, _ => exact vstep_pure rfl (vwant_none rfl) (fun _ _ h => h) (fun LL aa ww cc => ⟨.pointer (some ⟨b10, 0, none⟩), by have e0 : aa.tmps.getD 10 undef = .pointer (some ⟨b10, 0, none⟩) := (cc.orig 10 (by kernel_rfl)).trans rfl; simp only [execOp, Act.eval, e0]; go_simp, rfl⟩)
                  | 8, _ => exact vstep_pure rfl (vwant_none rfl) (fun _ _ h => h) (fun LL aa ww cc => ⟨.int .i64 (nx : Int), by have e0 : aa.tmps.getD 45 undef = .pointer (some ⟨b10, 0, none⟩) := cc.slot 7 45 (by kernel_rfl) rfl; have q := NX.out _ cc.world; simp only [execOp, Act.eval, e0]; go_simp, rfl⟩)
                  | 9, _ => exact vstep_pure rfl (vwant_none rfl) (fun _ _ h => h) (fun LL aa ww cc => ⟨.pointer (some ⟨b5, nx, none⟩), by have e0 : aa.tmps.getD 5 undef = .pointer (some ⟨b5, 0, none⟩) := (cc.orig 5 (by kernel_rfl)).trans rfl; have e1 : aa.tmps.getD 46 undef = .int .i64 (nx : Int) := cc.slot 8 46 (by kernel_rfl) rfl; have qx := QX.out; have q : (nx : Int) < 16 := (by omega); simp only [execOp, Act.eval, e0, e1]; go_simp, rfl⟩)
                  | 10, _ => exact vstep_pure rfl (vwant_none rfl) (fun _ _ h => h) (fun LL aa ww cc => ⟨.int .i64 (hx : Int), by have e0 : aa.tmps.getD 47 undef = .pointer (some ⟨b5, nx, none⟩) := cc.slot 9 47 (by kernel_rfl) rfl; have q := NH.out _ cc.world; simp only [execOp, Act.eval, e0]; go_simp, rfl⟩)
                  | 11, _ => exact vstep_pure rfl (vwant_none rfl) (fun _ _ h => h) (fun LL aa ww cc => ⟨.int .i64 (z2 : Int), by have e0 : aa.tmps.getD 44 undef = .int .i64 (z1 : Int) := cc.slot 6 44 (by kernel_rfl) rfl; have e1 : aa.tmps.getD 48 undef = .int .i64 (hx : Int) := cc.slot 10 48 (by kernel_rfl) rfl; have q := Q3.out; simp only [execOp, Act.eval, e0, e1]; go_simp, rfl⟩)
                  | 12, _ => exact vstep_pure rfl (vwant_none rfl) (fun _ _ h => h) (fun LL aa ww cc => ⟨.int .i64 (m2 : Int), by have e0 : aa.tmps.getD 38 undef = .int .i64 (m : Int) := cc.slot 0 38 (by kernel_rfl) rfl; have e1 : aa.tmps.getD 49 undef = .int .i64 (z2 : Int) := cc.slot 11 49 (by kernel_rfl) rfl; have q := Q4.out; simp only [execOp, Act.eval, e0, e1]; go_simp, rfl⟩)
                  | 13, _ => exact vstep_copy rfl (vwant_none rfl) (fun _ _ h => h) 50 (Or.inr rfl) 12 (by kernel_rfl) rfl (fun _ h => h)
                  | n + 14, h => exact absurd h (by show ¬ (n + 14 < 14); omega)
                · intro L9 w9 _ hj9
                  have HJ9 : Hid (Below w6.heap.size w6 w9) := Lib.hid (below_trans HBRq.out (hj9.mono HBRq.out.size))
                  clear hj9 NB NX NH Q1 Q2 Q3 Q4
                  refine (by assumption : ∀ (a : Act) (w : World), Code.wp _ _ _ a w → _) _ _ ?_
                  simp only [List.zip_cons_cons, List.zip_nil_right, putsL]
                  go_simp
                  go_wp2
                  go_roundw
                  case rel => exact ⟨i + 1, m2, by omega, by go_num, rfl, HM2.out, HJ9.out⟩
                  case measure => simp [intOf]; omega
              · have hcn : wr.cell? ⟨b7, 0, none⟩ = some (.int .i64 (pn : Int)) := HB7r.out.cell (by rw [HPN.out.2]; rfl)
                have hpn16 : (pn : Int) < 16 := by have := HPN.out.1; omega
                go_wp2_with (first
                  | ((with_reducible show wpList _ _ _ (Oper.mk _ (Op.store 3 _ _) _ _ _ _ :: _) _ _); refine wpList_storeB rfl 3 _ _ rfl b5 pn _ (.int .i64 (m : Int)) rfl rfl HB5r.out (by have := HHO.out.len; simp [hcs, this]; omega) s1Int rfl ?_)
                  | fail)
                intro w9 hb9 hg9
                have HB59 : Hid (Blk w9 b5 (hcs (hl.set pn m))) := Lib.hid (by rw [← hcs_set]; exact hb9)
                have HH9 : Hid (HOk (hl.set pn m) (u + 1)) := Lib.hid (HHO.out.set HM8.out)
                have HGR9 : Hid (w3.grownBy w9 (some b5)) := Lib.hid (HGRr.out.trans hg9)
                clear hb9 hg9 hcn
                go_wp2
                go_roundw
                case rel => exact ⟨j + 1, _, u + 1, by omega, by go_num, HB59.out, HH9.out, by have := HU.out; omega, HGR9.out⟩
                case measure => simp [intOf]; omega
        · have HU2 : Hid (u ≤ (k + 1) * 48) := Lib.hid (by have := HU.out; omega)
          go_wp2
          go_roundw
          case rel => exact ⟨k + 1, hl, u, by omega, by go_num, HB5.out, HHO.out, HU2.out, HGR.out⟩
          case measure => simp [intOf]; omega
    · have HH : Hid (HOk hl 768) := Lib.hid ⟨HHO.out.len, fun h hh => by have := HHO.out.le h hh; have := HU.out; omega⟩
      have HB4r : Hid (Blk wr b4 (hcs (List.replicate 16 0))) := Lib.hid (HB43.out.grown HGR.out (fun e => by injection e with e; have := HN5.out; omega))
      have HWr : Hid (Below w.heap.size w wr) := Lib.hid ⟨HGR.out.os.trans HW3.out.os, HGR.out.tape.trans HW3.out.tape, HGR.out.output.trans HW3.out.output, Nat.le_trans HW3.out.size HGR.out.size, fun k hk => (HGR.out.block k (Nat.lt_of_lt_of_le hk HW3.out.size) (fun e => by injection e with e; have := HN5.out; omega)).trans (HW3.out.block k hk)⟩
      go_wp2_with (first
        | ((with_reducible show wpList _ _ _ (Oper.mk _ (Op.load 84 _) _ _ _ _ :: _) _ _); refine wpList_loadS sHts rfl _ rfl b5 (hcs hl) rfl HB5r.out (by simpa [hcs] using HHO.out.len) ?_)
        | ((with_reducible show wpList _ _ _ (Oper.mk _ (Op.store 84 _ _) _ _ _ _ :: _) _ _); refine wpList_storeS sHts rfl _ _ rfl b4 _ (hcs hl) rfl rfl HB4r.out rfl (by simpa [hcs] using HHO.out.len) (hcs_one _) ?_)
        | fail)
      intro w10 hb10 hg10
      have l10 := Lib.hid (run_loadS sHts b4 _ hb10 (by simpa [hcs] using HHO.out.len))
      have HW10 : Hid (Below w.heap.size w w10) := Lib.hid (below_trans HWr.out (grown_below hg10 HWr.out.size fun k e => by injection e with e; have := HN5.out; omega))
      clear hb10 hg10
      go_wp2
      exact bodyPost_ret (v := .agg (hcs hl).toArray) (by simp [results, Tryd.results24, asAddr, Sem.run_bind, Sem.run_pure, l10.out]) rfl ⟨hl, rfl, HH.out, HW10.out⟩
end Go.Proofs.YtiebpmpjclnpeaaDoor
/- The stack of Match: a row of signs, the topmost last. -/
namespace Go.Proofs.YtiebpmpjclnpeaaDoor
open Go.RowKit Nac Nac.Gram
theorem infoSgn : (Tryd.prog.info? 88).map (fun i => (i.zero, i.size, i.bytes)) = some (some (.agg (sgv ⟨0, 0, 0⟩).toArray), 3, 16) := by kernel_rfl
theorem build1_sgn (w : World) (x : Sgn) : (Instr.buildSlice 89 1 #[(0, .agg (sgv x).toArray)]).run Tryd.prog w = .ok (.slice (some ⟨w.heap.size, 0, none⟩) 1 1) (w.alloc (.cells (sgv x).toArray 88)) := by
  cases hi : Tryd.prog.info? 88 with
  | none => have := infoSgn; simp [hi] at this
  | some ti =>
    have hx := infoSgn
    rw [hi] at hx
    simp only [Option.map_some, Option.some.injEq, Prod.mk.injEq] at hx
    obtain ⟨hz, hs1, hb1⟩ := hx
    refine run_buildSlice w _ _ 1 _ _ ti _ Tryd.underlying89 hi hz (by rw [hs1]; decide) (by rw [hs1]; decide) ?_
    rw [hs1]
    obtain ⟨nm, lo, hh⟩ := x
    show _ = some #[Value.int .i64 nm, .int .u8 (lo : Int), .int .u8 (hh : Int)]
    kernel_rfl
/-- the signs that wait, the topmost first -/
def stk (l : List Sgn) : List Value := (l.reverse.map sgv).flatten
theorem stk_len (l : List Sgn) : (stk l).length = l.length * 3 := by
  unfold stk
  rw [flat_len (k := 3) sgv sgv_len, List.length_reverse]
theorem stk_push (x : Sgn) (l : List Sgn) : stk l ++ sgv x = stk (x :: l) := by
  unfold stk
  simp
/-- the slice at A, of capacity c, is a row of the call's own, from block B on: the stack l -/
def Stk (w : World) (B : Nat) (A : Option Addr) (c : Nat) (l : List Sgn) : Prop := w.ownsRow B 88 3 (.slice A l.length c) l.length (stk l)
section
variable {w w' : World} {B c : Nat} {A : Option Addr} {l : List Sgn}
theorem Stk.top {x : Sgn} (h : Stk w B A c (x :: l)) : ∃ g, A = some ⟨g, 0, none⟩ ∧ B ≤ g ∧ g < w.heap.size ∧ w.rangeAt g (l.length * 3) (sgv x) := by
  have hl := stk_len (x :: l)
  rcases h.2 with ⟨_, hn⟩ | ⟨g, cap, cur, hv, hb, hg, hnc, hcm, hcs, ht⟩
  · simp at hn
  · injection hv with h1 h2 h3
    subst h1
    refine ⟨g, rfl, hb, (Array.getElem?_eq_some_iff.1 hg).1, fun j v hj => ?_⟩
    have hj3 : j < 3 := by
      have := (List.getElem?_eq_some_iff.1 hj).1
      simpa [sgv] using this
    rw [World.ownsRow.cellAt (base := B) (n := (x :: l).length) (xs := stk (x :: l)) (cap := c) h (l.length * 3 + j) (by rw [List.length_cons]; omega), ← stk_push, List.getElem?_append_right (by rw [stk_len]; omega), stk_len, Nat.add_sub_cancel_left]
    exact hj
theorem Stk.pop {x : Sgn} (h : Stk w B A c (x :: l)) : Stk w B A c l := by
  rcases h.2 with ⟨_, hn⟩ | ⟨g, cap, cur, hv, hb, hg, hnc, hcm, hcs, ht⟩
  · simp at hn
  · injection hv with h1 h2 h3
    subst h1 h3
    refine ⟨stk_len l, .inr ⟨g, c, cur, rfl, hb, hg, by rw [List.length_cons] at hnc; omega, hcm, hcs, ?_⟩⟩
    have e : stk l = (stk (x :: l)).take (l.length * 3) := by rw [← stk_push, List.take_append_of_le_length (by rw [stk_len]; exact Nat.le_refl _), List.take_of_length_le (by rw [stk_len]; exact Nat.le_refl _)]
    rw [e, ← ht, List.take_take, Nat.min_eq_left (by rw [List.length_cons]; omega)]
theorem Stk.below (h : Stk w B A c l) (hb : Below w.heap.size w w') : Stk w' B A c l := by
  refine World.ownsRow.kept h (row := none) ⟨hb.os, hb.tape, hb.output, hb.size, fun k hk _ => hb.block k hk⟩ ?_
  cases A <;> simp [Value.ownBlock]
theorem Stk.cap {x : Sgn} (h : Stk w B A c (x :: l)) : (x :: l).length ≤ c := by
  rcases h.2 with ⟨_, hn⟩ | ⟨g, cap, cur, hv, hb, hg, hnc, hcm, hcs, ht⟩
  · simp at hn
  · injection hv with h1 h2 h3
    omega
theorem Stk.new (w : World) (hb : B ≤ w.heap.size) (x : Sgn) : Stk (w.alloc (.cells (sgv x).toArray 88)) B (some ⟨w.heap.size, 0, none⟩) 1 [x] :=
  ⟨rfl, .inr ⟨w.heap.size, 1, (sgv x).toArray, rfl, hb, heap_alloc_new w _, Nat.le_refl _, by decide, by simp [sgv], by simp [stk, sgv]⟩⟩
end
def headAdr (A : Option Addr) (c : Nat) : Option Addr := if c = 0 then A else A.map (·.add 0)
theorem headAdr_eq (g k c : Nat) : headAdr (some ⟨g, k, none⟩) c = some ⟨g, k, none⟩ := by
  unfold headAdr
  split
  · rfl
  · rw [Option.map_some, Addr.add_mid]; rfl
theorem run_sliceHi {T e : TypeId} {n : Nat} (hu : Tryd.prog.underlying T = some (.slice e)) (hz : (Tryd.prog.info? e).map (·.size) = some n) (w : World) (A : Option Addr) (L c h : Nat) (hh : h ≤ c) : (Instr.sliceAt T (.slice A L c) Option.none (some (.int .i64 (h : Int))) Option.none).run Tryd.prog w = .ok (.slice (headAdr A c) h c) w := by
  cases hq : Tryd.prog.info? e with
  | none => simp [hq] at hz
  | some t =>
    have hs : t.size = n := by simpa [hq] using hz
    simp [Instr.sliceAt, headAdr, Instr.slice, run_underlying hu, Instr.sliceBounds, Instr.sliceBound, asIntOf, Go.sizeOf, typeInfo, hq, hs, hh]
section
variable {w : World} {ops : Array Oper} {rest : List Oper} {o : Oper} {a : Act} {Q : Exit → Act → World → Prop}
theorem wpList_sliceHi {T e : TypeId} {n : Nat} (hu : Tryd.prog.underlying T = some (.slice e)) (hz : (Tryd.prog.info? e).map (·.size) = some n) (hg : o.guard = Option.none) (x y : Operand) (hop : o.op = .slice T x Option.none (some y) Option.none) (g k L c h : Nat) (hx : a.eval x = .slice (some ⟨g, k, none⟩) L c) (hy : a.eval y = .int .i64 (h : Int)) (hh : h ≤ c)
    (hK : wpList Tryd.prog ops Q rest (a.put o.dst (.slice (some ⟨g, k, none⟩) h c)) w) : wpList Tryd.prog ops Q (o :: rest) a w :=
  wpList_plain hg fun _ hk => by
    unfold Oper.wp execOp
    simp only [hop, hx, hy, Option.map_some, Option.map_none, Sem.run_bind, run_sliceHi hu hz w _ L c h hh, headAdr_eq, Result.andThen_ok]
    exact hk _ _ hK
theorem wpList_build1 (hg : o.guard = Option.none) (x : Operand) (hop : o.op = .buildSlice 89 1 #[(0, x)]) (v : Sgn) (hx : a.eval x = .agg (sgv v).toArray)
    (hK : wpList Tryd.prog ops Q rest (a.put o.dst (.slice (some ⟨w.heap.size, 0, none⟩) 1 1)) (w.alloc (.cells (sgv v).toArray 88))) : wpList Tryd.prog ops Q (o :: rest) a w :=
  wpList_plain hg fun _ hk => by
    unfold Oper.wp execOp
    have e : (#[(0, x)] : Array (Nat × Operand)).map (fun p => (p.1, a.eval p.2)) = #[(0, .agg (sgv v).toArray)] := by simp [hx]
    simp only [hop, e, Sem.run_bind, build1_sgn w v, Result.andThen_ok]
    exact hk _ _ hK
theorem wpList_push (hg : o.guard = Option.none) (s x : Operand) (ho : o.op = .call { callee := .builtin .append, args := #[s, x], argTypes := #[89, 89] })
    (B : Nat) (hB : B ≤ w.heap.size) (A : Option Addr) (n c : Nat) (l : List Sgn) (hn : n = l.length) (hs : a.eval s = .slice A n c) (hst : Stk w B A c l) (b : Nat) (v : Sgn) (hx : a.eval x = .slice (some ⟨b, 0, none⟩) 1 1) (hb : Blk w b (sgv v)) (hl : n ≤ 1000)
    (hK : ∀ A' c' w', Stk w' B A' c' (v :: l) → Below B w w' → wpList Tryd.prog ops Q rest (a.put o.dst (.slice A' (n + 1) c')) w') : wpList Tryd.prog ops Q (o :: rest) a w := by
  subst hn
  refine wpList_app (P := Tryd.prog) w hg s x 89 ho B 88 _ 3 16 Tryd.underlying89 infoSgn (by simp [Value.cells, sgv]) (by decide) A l.length c (stk l) hs hst (some ⟨b, 0, none⟩) 1 1 (sgv v) hx rfl (fun _ => ⟨_, rfl, fun j u hu => ?_⟩) (sgv_one v) (by omega) (by unfold maxLen; omega) hB ?_
  · rw [Addr.add_mid]
    exact hb.cell (by rwa [Nat.zero_add])
  · intro A' c' w' h1 h2 _
    rw [stk_push] at h1
    refine hK A' c' w' h1 (grown_below h2 hB fun k hk => ?_)
    rcases hst.2 with ⟨hv, _⟩ | ⟨g, _, _, hv, hb, _⟩
    · injection hv with e1
      rw [e1] at hk
      cases hk
    · injection hv with e1
      rw [e1] at hk
      have hk : g = k := by simpa using hk
      omega
end
end Go.Proofs.YtiebpmpjclnpeaaDoor
/- Match: is a text in the language of a grammar that is fit? -/
namespace Go.Proofs.YtiebpmpjclnpeaaDoor
open Go.RowKit Nac Nac.Gram
/-- Yes (1) only of a text that the grammar derives, by forms that are well formed -/
def RetMatch (w : World) (names : Int) (R : List FormI) (s : List UInt8) (e : Ending) (w' : World) : Prop :=
  (∃ r c : Int, e = .returned (.tuple #[.int .i64 r, .int .i64 c]) ∧ (r = 1 → ShapeI names R ∧ DB (fms (gof R)) [⟨0, 0, 0⟩] (byts s))) ∧ Below w.heap.size w w'
theorem uByts : Tryd.prog.underlying 40 = some (.slice 5) := by kernel_rfl
theorem s1Byt : (Tryd.prog.info? 5).map (·.size) = some 1 := by kernel_rfl
set_option maxRecDepth 100000 in
set_option maxHeartbeats 4000000 in
theorem match_calls (w : World) (names : Int) (A A1 : Option Addr) (c c1 : Nat) (R : List FormI) (s : List UInt8) (hR : ROk R) (hr : RGI w w.heap.size A R) (hby : ∀ r ∈ R, ∀ x ∈ r.body, x.low < 256 ∧ x.high < 256) (hs : RB w w.heap.size A1 s) (hcc : s.length ≤ c1) (hsm : s.length ≤ 9223372036854775807) :
    Calls Tryd.prog 13 #[.agg (grv names A R.length c).toArray, .slice A1 s.length c1] w (RetMatch w names R s) := by
  have HMO := Lib.hid hR
  have HR := Lib.hid hr
  have HBY := Lib.hid hby
  have HS := Lib.hid hs
  have HCC := Lib.hid hcc
  obtain ⟨n, hnl⟩ : ∃ n, n = R.length := ⟨_, rfl⟩
  have HNL := Lib.hid hnl
  rw [← hnl]
  obtain ⟨L1, hL1⟩ : ∃ L1, L1 = s.length := ⟨_, rfl⟩
  have HL1 := Lib.hid hL1
  rw [← hL1] at hsm ⊢
  clear hR hr hnl hby hs hL1 hcc
  go_enter Tryd.func13, Tryd.ntmps13
  go_wp2_with (first | ((with_reducible show wpList _ _ _ (Oper.mk (some 2) (Op.box 27 _) _ _ _ _ :: _) _ _); refine wpList_boxS (T := 27) rfl _ rfl (grv names A n c) rfl ?_) | fail)
  intro w2 hb1 hg1 hs1
  obtain ⟨b2, hb2e⟩ : ∃ b, b = w.heap.size := ⟨_, rfl⟩
  rw [← hb2e] at hb1 ⊢
  have HB2 := Lib.hid hb1
  have HW2 : Hid (Below w.heap.size w w2) := Lib.hid (grown_below hg1 (Nat.le_refl _) (fun k e => by cases e))
  clear hb1 hg1 hs1 hb2e
  go_wp2_with (first
    | ((with_reducible show wpList _ _ _ (Oper.mk (some 15) (Op.load 27 _) _ _ _ _ :: _) _ _); refine wpList_loadS sGrm rfl _ rfl b2 (grv names A n c) rfl HB2.out rfl ?_)
    | fail)
  rw [HNL.out]
  refine (fit_calls w2 names A c R HMO.out ((HR.out.below HW2.out).mono HW2.out.size) HBY.out).mono ?_
  rw [← HNL.out]
  rintro e w3 ⟨⟨F, rfl, hsh, hst, hfit⟩ | ⟨F, gv, hfl, rfl⟩, hb3⟩
  · have HSH := Lib.hid hsh
    have HST := Lib.hid hst
    have HFIT := Lib.hid hfit
    have HW3 : Hid (Below w.heap.size w w3) := Lib.hid (below_trans HW2.out (hb3.mono HW2.out.size))
    have HB23 : Hid (Blk w3 b2 (grv names A n c)) := Lib.hid (HB2.out.below hb3 HB2.out.lt)
    clear hsh hst hfit hb3 HB2 HW2
    go_wp2_with (first
      | ((with_reducible show wpList _ _ _ (Oper.mk (some 6) (Op.alloc 74) _ _ _ _ :: _) _ _); refine wpList_allocS _ zFx rfl rfl ?_)
      | fail)
    intro w4 hb4 hg4 hs4
    obtain ⟨b6, hb6e⟩ : ∃ b, b = w3.heap.size := ⟨_, rfl⟩
    rw [← hb6e] at hb4 ⊢
    have HB4 := Lib.hid hb4
    have HG4 : Hid (Below w3.heap.size w3 w4 ∧ w3.heap.size ≤ b6) := Lib.hid ⟨grown_below hg4 (Nat.le_refl _) (fun k e => by cases e), by omega⟩
    clear hb4 hg4 hs4 hb6e
    go_wp2_with (first
      | ((with_reducible show wpList _ _ _ (Oper.mk _ (Op.store 74 _ _) _ _ _ _ :: _) _ _); refine wpList_storeS sFx rfl _ _ rfl b6 (fcells .zero) (fcells F) rfl rfl HB4.out rfl (fcells_len HST.out.ok) (fcells_one _) ?_)
      | fail)
    intro w5 hb5 hg5
    have hGW : Below w3.heap.size w3 w5 := below_trans HG4.out.1 (grown_below hg5 HG4.out.1.size fun k e => by injection e with e; have := HG4.out.2; omega)
    have HB6 := Lib.hid hb5
    have HB25 : Hid (Blk w5 b2 (grv names A n c)) := Lib.hid (HB23.out.below hGW HB23.out.lt)
    have HW5 : Hid (Below w.heap.size w w5) := Lib.hid (below_trans HW3.out (hGW.mono HW3.out.size))
    clear hb5 hg5 hGW HB4 HG4 HB23 HW3
    obtain ⟨N, rfl⟩ := Int.eq_ofNat_of_zero_le (show 0 ≤ names by have := HSH.out.lo; omega)
    have HGS : Hid (Shaped (fms (gof R)) N) := Lib.hid (shaped_of HSH.out HBY.out)
    have HRG : Hid (RG w w.heap.size A (gof R)) := Lib.hid (HR.out.rg fun r hr => (HSH.out.name r hr).1)
    have HGL : Hid (n = (gof R).length) := Lib.hid (by have := HNL.out; simpa [gof] using this)
    go_wp2_with (first
      | ((with_reducible show wpList _ _ _ (Oper.mk (some 21) (Op.load 27 _) _ _ _ _ :: _) _ _); refine wpList_loadS sGrm rfl _ rfl b2 (grv (N : Int) A n c) rfl HB25.out rfl ?_)
      | fail)
    rw [HGL.out]
    refine (heights_calls w5 F b6 N A c (gof R) HST.out.ok HB6.out HGS.out (mok_of HMO.out) (by have := HSH.out.few; simpa [gof] using this) ((HRG.out.below HW5.out (Nat.le_refl _)).mono' HW5.out.size)).mono ?_
    rw [← HGL.out]
    rintro e w6 ⟨hl, rfl, hho, hb6⟩
    have HHO := Lib.hid hho
    have HB26 : Hid (Blk w6 b2 (grv (N : Int) A n c)) := Lib.hid (HB25.out.below hb6 HB25.out.lt)
    have HB66 : Hid (Blk w6 b6 (fcells F)) := Lib.hid (HB6.out.below hb6 HB6.out.lt)
    have HW6 : Hid (Below w.heap.size w w6) := Lib.hid (below_trans HW5.out (hb6.mono HW5.out.size))
    clear hho hb6 HB25 HB6 HW5
    go_wp2_with (first
      | ((with_reducible show wpList _ _ _ (Oper.mk (some 8) (Op.alloc 84) _ _ _ _ :: _) _ _); refine wpList_allocS _ zHts rfl rfl ?_)
      | fail)
    intro w7 hb7 hg7 hs7
    obtain ⟨b8, hb8e⟩ : ∃ b, b = w6.heap.size := ⟨_, rfl⟩
    rw [← hb8e] at hb7 ⊢
    have HB7 := Lib.hid hb7
    have HG7 : Hid (Below w6.heap.size w6 w7 ∧ w6.heap.size ≤ b8) := Lib.hid ⟨grown_below hg7 (Nat.le_refl _) (fun k e => by cases e), by omega⟩
    clear hb7 hg7 hs7 hb8e
    go_wp2_with (first
      | ((with_reducible show wpList _ _ _ (Oper.mk _ (Op.store 84 _ _) _ _ _ _ :: _) _ _); refine wpList_storeS sHts rfl _ _ rfl b8 _ (hcs hl) rfl rfl HB7.out rfl (by simpa [hcs] using HHO.out.len) (hcs_one _) ?_)
      | fail)
    intro w8 hb8 hg8
    have hGW : Below w6.heap.size w6 w8 := below_trans HG7.out.1 (grown_below hg8 HG7.out.1.size fun k e => by injection e with e; have := HG7.out.2; omega)
    have HB8 := Lib.hid hb8
    have HB28 : Hid (Blk w8 b2 (grv (N : Int) A n c)) := Lib.hid (HB26.out.below hGW HB26.out.lt)
    have HB68 : Hid (Blk w8 b6 (fcells F)) := Lib.hid (HB66.out.below hGW HB66.out.lt)
    have HW8 : Hid (Below w.heap.size w w8) := Lib.hid (below_trans HW6.out (hGW.mono HW6.out.size))
    clear hb8 hg8 hGW HB7 HG7 HB26 HB66 HW6
    have HSB : Hid (∀ c ∈ byts s, c < 256) := Lib.hid fun c hc => by
      obtain ⟨x, _, rfl⟩ := List.mem_map.1 hc
      exact x.toNat_lt
    obtain ⟨k0, hk0⟩ := halts HFIT.out (fun i => hl.getD i 0) (byts s) HSB.out [⟨0, 0, 0⟩]
    have HK0 := Lib.hid hk0
    have HN1 : Hid (1 ≤ N ∧ N ≤ 16) := Lib.hid (by have := HSH.out.lo; have := HSH.out.hi; omega)
    have HST0 : Hid (Stk (w8.alloc (.cells (sgv ⟨0, 0, 0⟩).toArray 88)) w8.heap.size (some ⟨w8.heap.size, 0, none⟩) 1 [⟨0, 0, 0⟩]) := Lib.hid (Stk.new w8 (Nat.le_refl _) ⟨0, 0, 0⟩)
    clear hk0
    go_wp2
    go_loopg [1, 9] k0 (fun k s1 s9 wr => ∃ (Ax : Option Addr) (cx : Nat) (t : List UInt8) (Ay : Option Addr) (cy : Nat) (l : List Sgn), s1 = .slice Ax t.length cx ∧ s9 = .slice Ay l.length cy ∧ RB wr w.heap.size Ax t ∧ (t.length ≤ cx ∧ t.length ≤ L1) ∧ Stk wr w8.heap.size Ay cy l ∧ Below w8.heap.size w8 wr ∧ Halts F (fms (gof R)) (fun i => hl.getD i 0) k (byts t, l) ∧ (∀ x ∈ l, x.name < N ∧ x.low < 256 ∧ x.high < 256) ∧ l.length ≤ 32 ∧ (DB (fms (gof R)) l (byts t) → DB (fms (gof R)) [⟨0, 0, 0⟩] (byts s)))
    case atStart =>
      refine ⟨A1, c1, s, _, 1, [⟨0, 0, 0⟩], by rw [HL1.out], rfl, ?_, ⟨HCC.out, by rw [HL1.out]; exact Nat.le_refl _⟩, HST0.out, (Below.refl _ _).alloc (Nat.le_refl _) _, HK0.out, fun x hx => ?_, by simp, fun h => h⟩
      · exact (HS.out.below HW8.out).below ((Below.refl _ _).alloc HW8.out.size _)
      · rw [List.mem_singleton] at hx
        subst hx
        have := HN1.out
        exact ⟨by show (0 : Int) < N; omega, by decide, by decide⟩
    case round =>
      obtain ⟨Ax, cx, t, Ay, cy, l, rfl, rfl, hrb, hcx, hstk, hbw, hha, hnm, hl32, hdb⟩ := hrel
      have HRB := Lib.hid hrb
      have HCX := Lib.hid hcx
      have HSTK := Lib.hid hstk
      have HBW := Lib.hid hbw
      have HHA := Lib.hid hha
      have HNM := Lib.hid hnm
      have HDB := Lib.hid hdb
      have HWr : Hid (Below w.heap.size w wr) := Lib.hid (below_trans HW8.out (hbw.mono HW8.out.size))
      clear hrb hcx hstk hbw hha hnm hdb HST0 HK0
      cases l with
      | nil =>
        by_cases ht0 : t.length = 0
        · have HTN : Hid (t = []) := Lib.hid (List.eq_nil_of_length_eq_zero ht0)
          have HRES : Hid (DB (fms (gof R)) [⟨0, 0, 0⟩] (byts s)) := Lib.hid (HDB.out (by rw [HTN.out]; exact .nil))
          go_wp2
          go_ret2
          exact ⟨⟨1, 0, rfl, fun _ => ⟨HSH.out, HRES.out⟩⟩, HWr.out⟩
        · have htp : 0 < t.length := by omega
          go_wp2
          go_ret2
          exact ⟨⟨0, 0, rfl, fun e => by omega⟩, HWr.out⟩
      | cons x r =>
        obtain ⟨g9, hA9, hg9B, hg9s, hrow⟩ := HSTK.out.top
        subst hA9
        have HROW := Lib.hid hrow
        have HCY : Hid (r.length + 1 ≤ cy) := Lib.hid HSTK.out.cap
        have HPOP := Lib.hid HSTK.out.pop
        have HXN := Lib.hid (HNM.out x (by simp))
        have HRN : Hid (∀ y ∈ r, y.name < N ∧ y.low < 256 ∧ y.high < 256) := Lib.hid fun y hy => HNM.out y (by simp [hy])
        obtain ⟨rl, hrl⟩ : ∃ rl, rl = r.length := ⟨_, rfl⟩
        have HRL := Lib.hid hrl
        have hrl32 : rl < 32 := by rw [List.length_cons] at hl32; omega
        rw [List.length_cons, ← hrl]
        clear hrow hg9B hl32 hrl
        have hcy : rl ≤ cy := by have := HCY.out; have := HRL.out; omega
        go_wp2_with (first
          | ((with_reducible show wpList _ _ _ (Oper.mk _ (Op.load 88 _) _ _ _ _ :: _) _ _); refine wpList_loadM sSgn rfl _ rfl g9 (rl * 3) (sgv x) rfl (by rw [HRL.out]; exact HROW.out) rfl ?_)
          | ((with_reducible show wpList _ _ _ (Oper.mk _ (Op.alloc 88) _ _ _ _ :: _) _ _); refine wpList_allocS _ zSgn rfl rfl ?_)
          | fail)
        intro w3 hb3 hg3 hs3
        obtain ⟨b10, hb10e⟩ : ∃ b, b = wr.heap.size := ⟨_, rfl⟩
        rw [← hb10e] at hb3 ⊢
        have HB3 := Lib.hid hb3
        have HG3 : Hid (Below wr.heap.size wr w3 ∧ wr.heap.size ≤ b10) := Lib.hid ⟨grown_below hg3 (Nat.le_refl _) (fun k e => by cases e), by omega⟩
        clear hb3 hg3 hs3 hb10e HROW
        go_wp2_with (first
          | ((with_reducible show wpList _ _ _ (Oper.mk _ (Op.store 88 _ _) _ _ _ _ :: _) _ _); refine wpList_storeS sSgn rfl _ _ rfl b10 (sgv ⟨0, 0, 0⟩) (sgv x) rfl rfl HB3.out rfl rfl (sgv_one _) ?_)
          | fail)
        intro w4 hb4 hg4
        have hGW : Below wr.heap.size wr w4 := below_trans HG3.out.1 (grown_below hg4 HG3.out.1.size fun k e => by injection e with e; have := HG3.out.2; omega)
        have HB10 := Lib.hid hb4
        have HW4 : Hid (Below w.heap.size w w4) := Lib.hid (below_trans HWr.out (hGW.mono HWr.out.size))
        have HBW4 : Hid (Below w8.heap.size w8 w4) := Lib.hid (below_trans HBW.out (hGW.mono HBW.out.size))
        have HRB4 : Hid (RB w4 w.heap.size Ax t) := Lib.hid (HRB.out.below (hGW.mono HWr.out.size))
        have HPOP4 : Hid (Stk w4 w8.heap.size (some ⟨g9, 0, none⟩) cy r) := Lib.hid (HPOP.out.below hGW)
        clear hb4 hg4 hGW HB3 HG3 HRB HPOP HSTK HBW HWr
        obtain ⟨nm, hnmx⟩ : ∃ nm, nm = x.name := ⟨_, rfl⟩
        have HNX := Lib.hid hnmx
        have hc0 : w4.cell? ⟨b10, 0, none⟩ = some (.int .i64 nm) := HB10.out.cell (by rw [hnmx]; rfl)
        obtain ⟨tl, htl⟩ : ∃ tl, tl = t.length := ⟨_, rfl⟩
        have HTL := Lib.hid htl
        rw [← htl]
        clear hnmx htl
        by_cases hneg : nm < 0
        · go_wp2_with ((with_reducible show wpList _ _ _ (Oper.mk _ (Op.slice _ _ _ _ _) _ _ _ _ :: _) _ _); refine wpList_sliceHi uSgns sSgn.info rfl _ _ rfl g9 0 (rl + 1) cy rl rfl rfl hcy ?_)
          cases t with
          | nil =>
            have htl0 : tl = 0 := HTL.out
            have QE : Hid (((tl : Int) == 0) = true) := Lib.hid (by rw [htl0]; rfl)
            clear htl0
            go_wp2_with fail
            refine region_vals [.slice Ax tl cx, .int .i64 (tl : Int), .bool true, .bool true, undef, undef, undef, undef, undef, undef, .bool true, .bool true, undef, undef, undef, undef, undef, undef, .bool true] [some 42, some 43, some 44, some 45, some 46, some 47, some 48, some 49, some 50, some 51, some 52, some 53, some 54, some 55, some 56, some 57, some 58, some 59, some 60] (fun _ w' => Below w4.heap.size w4 w') (by kernel_rfl) (by kernel_rfl) (by kernel_rfl) rfl rfl (Below.refl _ _).drew (fun ii hii => ?_) ?_
            · match ii, hii with
              | 0, _ => exact vstep_first rfl (vwant_none rfl) (fun _ _ h => h) 1 (Or.inl rfl) (by kernel_rfl) rfl
              | 1, _ => exact vstep_pure rfl (vwant_none rfl) (fun _ _ h => h) (fun LL aa ww cc => ⟨.int .i64 (tl : Int), by have e0 : aa.tmps.getD 42 undef = .slice Ax tl cx := cc.slot 0 42 (by kernel_rfl) rfl; simp only [execOp, Act.eval, e0]; go_simp, rfl⟩)
              | 2, _ => exact vstep_pure rfl (vwant_none rfl) (fun _ _ h => h) (fun LL aa ww cc => ⟨.bool true, by have e0 : aa.tmps.getD 43 undef = .int .i64 (tl : Int) := cc.slot 1 43 (by kernel_rfl) rfl; have q := QE.out; simp only [execOp, Act.eval, e0]; go_simp, rfl⟩)
              | 3, _ => exact vstep_copy rfl (vwant_none rfl) (fun _ _ h => h) 44 (Or.inl rfl) 2 (by kernel_rfl) rfl (fun _ h => h)
              | 4, _ => exact vstep_unwanted rfl 3 false 45 rfl (by kernel_rfl) rfl (fun _ h => Or.inl h) (by kernel_rfl) rfl (fun _ _ h => h)
              | 5, _ => exact vstep_unwanted rfl 3 false 45 rfl (by kernel_rfl) rfl (fun _ h => Or.inl h) (by kernel_rfl) rfl (fun _ _ h => h)
              | 6, _ => exact vstep_unwanted rfl 3 false 45 rfl (by kernel_rfl) rfl (fun _ h => Or.inl h) (by kernel_rfl) rfl (fun _ _ h => h)
              | 7, _ => exact vstep_unwanted rfl 3 false 45 rfl (by kernel_rfl) rfl (fun _ h => Or.inl h) (by kernel_rfl) rfl (fun _ _ h => h)
              | 8, _ => exact vstep_unwanted rfl 3 false 45 rfl (by kernel_rfl) rfl (fun _ h => Or.inl h) (by kernel_rfl) rfl (fun _ _ h => h)
              | 9, _ => exact vstep_unwanted rfl 3 false 45 rfl (by kernel_rfl) rfl (fun _ h => Or.inl h) (by kernel_rfl) rfl (fun _ _ h => h)
              | 10, _ => exact vstep_pure rfl (vwant_none rfl) (fun _ _ h => h) (fun LL aa ww cc => ⟨.bool true, by have e0 : aa.tmps.getD 45 undef = .bool true := cc.slot 3 45 (by kernel_rfl) rfl; simp only [execOp, Act.eval, e0]; go_simp, rfl⟩)
              | 11, _ => exact vstep_copy rfl (vwant_none rfl) (fun _ _ h => h) 52 (Or.inl rfl) 10 (by kernel_rfl) rfl (fun _ h => h)
              | 12, _ => exact vstep_unwanted rfl 11 false 53 rfl (by kernel_rfl) rfl (fun _ h => Or.inl h) (by kernel_rfl) rfl (fun _ _ h => h)
              | 13, _ => exact vstep_unwanted rfl 11 false 53 rfl (by kernel_rfl) rfl (fun _ h => Or.inl h) (by kernel_rfl) rfl (fun _ _ h => h)
              | 14, _ => exact vstep_unwanted rfl 11 false 53 rfl (by kernel_rfl) rfl (fun _ h => Or.inl h) (by kernel_rfl) rfl (fun _ _ h => h)
              | 15, _ => exact vstep_unwanted rfl 11 false 53 rfl (by kernel_rfl) rfl (fun _ h => Or.inl h) (by kernel_rfl) rfl (fun _ _ h => h)
              | 16, _ => exact vstep_unwanted rfl 11 false 53 rfl (by kernel_rfl) rfl (fun _ h => Or.inl h) (by kernel_rfl) rfl (fun _ _ h => h)
              | 17, _ => exact vstep_unwanted rfl 11 false 53 rfl (by kernel_rfl) rfl (fun _ h => Or.inl h) (by kernel_rfl) rfl (fun _ _ h => h)
              | 18, _ => exact vstep_pure rfl (vwant_none rfl) (fun _ _ h => h) (fun LL aa ww cc => ⟨.bool true, by have e0 : aa.tmps.getD 53 undef = .bool true := cc.slot 11 53 (by kernel_rfl) rfl; simp only [execOp, Act.eval, e0]; go_simp, rfl⟩)
              | n + 19, h => exact absurd h (by show ¬ (n + 19 < 19); omega)
            · intro L9 w6 _ hj6
              have HJ6 : Hid (Below w.heap.size w w6) := Lib.hid (below_trans HW4.out (hj6.mono HW4.out.size))
              clear hj6
              refine (by assumption : ∀ (a : Act) (w : World), Code.wp _ _ _ a w → _) _ _ ?_
              simp only [List.zip_cons_cons, List.zip_nil_right, putsL]
              go_simp
              go_wp2
              go_ret2
              exact ⟨⟨0, 0, rfl, fun e => by omega⟩, HJ6.out⟩
          | cons y t' =>
            obtain ⟨g1, o1, hA1, hg1, hcb⟩ := HRB4.out (by simp)
            subst hA1
            obtain ⟨ch, hch⟩ : ∃ ch, ch = y.toNat := ⟨_, rfl⟩
            obtain ⟨lo, hlo⟩ : ∃ lo, lo = x.low := ⟨_, rfl⟩
            obtain ⟨hi, hhi⟩ : ∃ hi, hi = x.high := ⟨_, rfl⟩
            have HCH : Hid (ch = y.toNat ∧ lo = x.low ∧ hi = x.high) := Lib.hid ⟨hch, hlo, hhi⟩
            have hcy0 : w4.cell? ⟨g1, o1, none⟩ = some (.int .u8 (ch : Int)) := by
              have := hcb 0 (by simp)
              simpa [hch] using this
            have NC : Hid (∀ w', Below w4.heap.size w4 w' → w'.cell? ⟨g1, o1, none⟩ = some (.int .u8 (ch : Int))) := Lib.hid fun w' hb => by
              rw [hb.cell (p := ⟨g1, o1, none⟩) (Nat.lt_of_lt_of_le hg1 HW4.out.size)]
              exact hcy0
            have ML : Hid (∀ w', Below w4.heap.size w4 w' → w'.cell? ⟨b10, 1, none⟩ = some (.int .u8 (lo : Int))) := Lib.hid fun w' hb => (HB10.out.below hb HB10.out.lt).cell (by rw [hlo]; rfl)
            have MH : Hid (∀ w', Below w4.heap.size w4 w' → w'.cell? ⟨b10, 2, none⟩ = some (.int .u8 (hi : Int))) := Lib.hid fun w' hb => (HB10.out.below hb HB10.out.lt).cell (by rw [hhi]; rfl)
            have htp : 0 < tl := by rw [HTL.out]; simp
            have QL : Hid (0 < tl) := Lib.hid htp
            have QE : Hid (((tl : Int) == 0) = false) := Lib.hid (by simp; omega)
            clear hch hlo hhi hcb hcy0 hg1 htp
            by_cases q1 : ch < lo
            · have Q1 : Hid (ch < lo) := Lib.hid q1
              clear q1
              go_wp2_with fail
              refine region_vals [.slice (some ⟨g1, o1, none⟩) tl cx, .int .i64 (tl : Int), .bool false, .bool false, .slice (some ⟨g1, o1, none⟩) tl cx, .pointer (some ⟨g1, o1, none⟩), .int .u8 (ch : Int), .pointer (some ⟨b10, 1, none⟩), .int .u8 (lo : Int), .bool true, .bool true, .bool true, undef, undef, undef, undef, undef, undef, .bool true] [some 42, some 43, some 44, some 45, some 46, some 47, some 48, some 49, some 50, some 51, some 52, some 53, some 54, some 55, some 56, some 57, some 58, some 59, some 60] (fun _ w' => Below w4.heap.size w4 w') (by kernel_rfl) (by kernel_rfl) (by kernel_rfl) rfl rfl (Below.refl _ _).drew (fun ii hii => ?_) ?_
              · match ii, hii with
                | 0, _ => exact vstep_first rfl (vwant_none rfl) (fun _ _ h => h) 1 (Or.inl rfl) (by kernel_rfl) rfl
                | 1, _ => exact vstep_pure rfl (vwant_none rfl) (fun _ _ h => h) (fun LL aa ww cc => ⟨.int .i64 (tl : Int), by have e0 : aa.tmps.getD 42 undef = .slice (some ⟨g1, o1, none⟩) tl cx := cc.slot 0 42 (by kernel_rfl) rfl; simp only [execOp, Act.eval, e0]; go_simp, rfl⟩)
                | 2, _ => exact vstep_pure rfl (vwant_none rfl) (fun _ _ h => h) (fun LL aa ww cc => ⟨.bool false, by have e0 : aa.tmps.getD 43 undef = .int .i64 (tl : Int) := cc.slot 1 43 (by kernel_rfl) rfl; have q := QE.out; simp only [execOp, Act.eval, e0]; go_simp, rfl⟩)
                | 3, _ => exact vstep_copy rfl (vwant_none rfl) (fun _ _ h => h) 44 (Or.inl rfl) 2 (by kernel_rfl) rfl (fun _ h => h)
                | 4, _ => exact vstep_first rfl (vwant 3 false 45 rfl (by kernel_rfl) rfl (fun _ h => h) (by kernel_rfl)) (fun _ _ h => h) 1 (Or.inl rfl) (by kernel_rfl) rfl
                | 5, _ => exact vstep_pure rfl (vwant 3 false 45 rfl (by kernel_rfl) rfl (fun _ h => h) (by kernel_rfl)) (fun _ _ h => h) (fun LL aa ww cc => ⟨.pointer (some ⟨g1, o1, none⟩), by have e0 : aa.tmps.getD 46 undef = .slice (some ⟨g1, o1, none⟩) tl cx := cc.slot 4 46 (by kernel_rfl) rfl; have q := QL.out; simp only [execOp, Act.eval, e0]; go_simp, rfl⟩)
                | 6, _ => exact vstep_pure rfl (vwant 3 false 45 rfl (by kernel_rfl) rfl (fun _ h => h) (by kernel_rfl)) (fun _ _ h => h) (fun LL aa ww cc => ⟨.int .u8 (ch : Int), by have e0 : aa.tmps.getD 47 undef = .pointer (some ⟨g1, o1, none⟩) := cc.slot 5 47 (by kernel_rfl) rfl; have q := NC.out _ cc.world; simp only [execOp, Act.eval, e0]; go_simp, rfl⟩)
                | 7, _ => exact vstep_pure rfl (vwant 3 false 45 rfl (by kernel_rfl) rfl (fun _ h => h) (by kernel_rfl)) (fun _ _ h => h) (fun LL aa ww cc => ⟨.pointer (some ⟨b10, 1, none⟩), by have e0 : aa.tmps.getD 10 undef = .pointer (some ⟨b10, 0, none⟩) := (cc.orig 10 (by kernel_rfl)).trans rfl; simp only [execOp, Act.eval, e0]; go_simp, rfl⟩)
                | 8, _ => exact vstep_pure rfl (vwant 3 false 45 rfl (by kernel_rfl) rfl (fun _ h => h) (by kernel_rfl)) (fun _ _ h => h) (fun LL aa ww cc => ⟨.int .u8 (lo : Int), by have e0 : aa.tmps.getD 49 undef = .pointer (some ⟨b10, 1, none⟩) := cc.slot 7 49 (by kernel_rfl) rfl; have q := ML.out _ cc.world; simp only [execOp, Act.eval, e0]; go_simp, rfl⟩)
                | 9, _ => exact vstep_pure rfl (vwant 3 false 45 rfl (by kernel_rfl) rfl (fun _ h => h) (by kernel_rfl)) (fun _ _ h => h) (fun LL aa ww cc => ⟨.bool true, by have e0 : aa.tmps.getD 48 undef = .int .u8 (ch : Int) := cc.slot 6 48 (by kernel_rfl) rfl; have e1 : aa.tmps.getD 50 undef = .int .u8 (lo : Int) := cc.slot 8 50 (by kernel_rfl) rfl; have q := Q1.out; simp only [execOp, Act.eval, e0, e1]; go_simp, rfl⟩)
                | 10, _ => exact vstep_pure rfl (vwant_none rfl) (fun _ _ h => h) (fun LL aa ww cc => ⟨.bool true, by have e0 : aa.tmps.getD 45 undef = .bool false := cc.slot 3 45 (by kernel_rfl) rfl; have e1 : aa.tmps.getD 51 undef = .bool true := cc.slot 9 51 (by kernel_rfl) rfl; simp only [execOp, Act.eval, e0, e1]; go_simp, rfl⟩)
                | 11, _ => exact vstep_copy rfl (vwant_none rfl) (fun _ _ h => h) 52 (Or.inl rfl) 10 (by kernel_rfl) rfl (fun _ h => h)
                | 12, _ => exact vstep_unwanted rfl 11 false 53 rfl (by kernel_rfl) rfl (fun _ h => Or.inl h) (by kernel_rfl) rfl (fun _ _ h => h)
                | 13, _ => exact vstep_unwanted rfl 11 false 53 rfl (by kernel_rfl) rfl (fun _ h => Or.inl h) (by kernel_rfl) rfl (fun _ _ h => h)
                | 14, _ => exact vstep_unwanted rfl 11 false 53 rfl (by kernel_rfl) rfl (fun _ h => Or.inl h) (by kernel_rfl) rfl (fun _ _ h => h)
                | 15, _ => exact vstep_unwanted rfl 11 false 53 rfl (by kernel_rfl) rfl (fun _ h => Or.inl h) (by kernel_rfl) rfl (fun _ _ h => h)
                | 16, _ => exact vstep_unwanted rfl 11 false 53 rfl (by kernel_rfl) rfl (fun _ h => Or.inl h) (by kernel_rfl) rfl (fun _ _ h => h)
                | 17, _ => exact vstep_unwanted rfl 11 false 53 rfl (by kernel_rfl) rfl (fun _ h => Or.inl h) (by kernel_rfl) rfl (fun _ _ h => h)
                | 18, _ => exact vstep_pure rfl (vwant_none rfl) (fun _ _ h => h) (fun LL aa ww cc => ⟨.bool true, by have e0 : aa.tmps.getD 53 undef = .bool true := cc.slot 11 53 (by kernel_rfl) rfl; simp only [execOp, Act.eval, e0]; go_simp, rfl⟩)
                | n + 19, h => exact absurd h (by show ¬ (n + 19 < 19); omega)
              · intro L9 w6 _ hj6
                have HJ6 : Hid (Below w.heap.size w w6) := Lib.hid (below_trans HW4.out (hj6.mono HW4.out.size))
                clear hj6
                refine (by assumption : ∀ (a : Act) (w : World), Code.wp _ _ _ a w → _) _ _ ?_
                simp only [List.zip_cons_cons, List.zip_nil_right, putsL]
                go_simp
                go_wp2
                go_ret2
                exact ⟨⟨0, 0, rfl, fun e => by omega⟩, HJ6.out⟩
            have Q1 : Hid (¬ ch < lo) := Lib.hid q1
            clear q1
            by_cases q2 : hi < ch
            · have Q2 : Hid (hi < ch) := Lib.hid q2
              clear q2
              go_wp2_with fail
              refine region_vals [.slice (some ⟨g1, o1, none⟩) tl cx, .int .i64 (tl : Int), .bool false, .bool false, .slice (some ⟨g1, o1, none⟩) tl cx, .pointer (some ⟨g1, o1, none⟩), .int .u8 (ch : Int), .pointer (some ⟨b10, 1, none⟩), .int .u8 (lo : Int), .bool false, .bool false, .bool false, .slice (some ⟨g1, o1, none⟩) tl cx, .pointer (some ⟨g1, o1, none⟩), .int .u8 (ch : Int), .pointer (some ⟨b10, 2, none⟩), .int .u8 (hi : Int), .bool true, .bool true] [some 42, some 43, some 44, some 45, some 46, some 47, some 48, some 49, some 50, some 51, some 52, some 53, some 54, some 55, some 56, some 57, some 58, some 59, some 60] (fun _ w' => Below w4.heap.size w4 w') (by kernel_rfl) (by kernel_rfl) (by kernel_rfl) rfl rfl (Below.refl _ _).drew (fun ii hii => ?_) ?_
              · match ii, hii with
                | 0, _ => exact vstep_first rfl (vwant_none rfl) (fun _ _ h => h) 1 (Or.inl rfl) (by kernel_rfl) rfl
                | 1, _ => exact vstep_pure rfl (vwant_none rfl) (fun _ _ h => h) (fun LL aa ww cc => ⟨.int .i64 (tl : Int), by have e0 : aa.tmps.getD 42 undef = .slice (some ⟨g1, o1, none⟩) tl cx := cc.slot 0 42 (by kernel_rfl) rfl; simp only [execOp, Act.eval, e0]; go_simp, rfl⟩)
                | 2, _ => exact vstep_pure rfl (vwant_none rfl) (fun _ _ h => h) (fun LL aa ww cc => ⟨.bool false, by have e0 : aa.tmps.getD 43 undef = .int .i64 (tl : Int) := cc.slot 1 43 (by kernel_rfl) rfl; have q := QE.out; simp only [execOp, Act.eval, e0]; go_simp, rfl⟩)
                | 3, _ => exact vstep_copy rfl (vwant_none rfl) (fun _ _ h => h) 44 (Or.inl rfl) 2 (by kernel_rfl) rfl (fun _ h => h)
                | 4, _ => exact vstep_first rfl (vwant 3 false 45 rfl (by kernel_rfl) rfl (fun _ h => h) (by kernel_rfl)) (fun _ _ h => h) 1 (Or.inl rfl) (by kernel_rfl) rfl
                | 5, _ => exact vstep_pure rfl (vwant 3 false 45 rfl (by kernel_rfl) rfl (fun _ h => h) (by kernel_rfl)) (fun _ _ h => h) (fun LL aa ww cc => ⟨.pointer (some ⟨g1, o1, none⟩), by have e0 : aa.tmps.getD 46 undef = .slice (some ⟨g1, o1, none⟩) tl cx := cc.slot 4 46 (by kernel_rfl) rfl; have q := QL.out; simp only [execOp, Act.eval, e0]; go_simp, rfl⟩)
                | 6, _ => exact vstep_pure rfl (vwant 3 false 45 rfl (by kernel_rfl) rfl (fun _ h => h) (by kernel_rfl)) (fun _ _ h => h) (fun LL aa ww cc => ⟨.int .u8 (ch : Int), by have e0 : aa.tmps.getD 47 undef = .pointer (some ⟨g1, o1, none⟩) := cc.slot 5 47 (by kernel_rfl) rfl; have q := NC.out _ cc.world; simp only [execOp, Act.eval, e0]; go_simp, rfl⟩)
                | 7, _ => exact vstep_pure rfl (vwant 3 false 45 rfl (by kernel_rfl) rfl (fun _ h => h) (by kernel_rfl)) (fun _ _ h => h) (fun LL aa ww cc => ⟨.pointer (some ⟨b10, 1, none⟩), by have e0 : aa.tmps.getD 10 undef = .pointer (some ⟨b10, 0, none⟩) := (cc.orig 10 (by kernel_rfl)).trans rfl; simp only [execOp, Act.eval, e0]; go_simp, rfl⟩)
                | 8, _ => exact vstep_pure rfl (vwant 3 false 45 rfl (by kernel_rfl) rfl (fun _ h => h) (by kernel_rfl)) (fun _ _ h => h) (fun LL aa ww cc => ⟨.int .u8 (lo : Int), by have e0 : aa.tmps.getD 49 undef = .pointer (some ⟨b10, 1, none⟩) := cc.slot 7 49 (by kernel_rfl) rfl; have q := ML.out _ cc.world; simp only [execOp, Act.eval, e0]; go_simp, rfl⟩)
                | 9, _ => exact vstep_pure rfl (vwant 3 false 45 rfl (by kernel_rfl) rfl (fun _ h => h) (by kernel_rfl)) (fun _ _ h => h) (fun LL aa ww cc => ⟨.bool false, by have e0 : aa.tmps.getD 48 undef = .int .u8 (ch : Int) := cc.slot 6 48 (by kernel_rfl) rfl; have e1 : aa.tmps.getD 50 undef = .int .u8 (lo : Int) := cc.slot 8 50 (by kernel_rfl) rfl; have q := Q1.out; simp only [execOp, Act.eval, e0, e1]; go_simp, rfl⟩)
                | 10, _ => exact vstep_pure rfl (vwant_none rfl) (fun _ _ h => h) (fun LL aa ww cc => ⟨.bool false, by have e0 : aa.tmps.getD 45 undef = .bool false := cc.slot 3 45 (by kernel_rfl) rfl; have e1 : aa.tmps.getD 51 undef = .bool false := cc.slot 9 51 (by kernel_rfl) rfl; simp only [execOp, Act.eval, e0, e1]; go_simp, rfl⟩)
                | 11, _ => exact vstep_copy rfl (vwant_none rfl) (fun _ _ h => h) 52 (Or.inl rfl) 10 (by kernel_rfl) rfl (fun _ h => h)
                | 12, _ => exact vstep_first rfl (vwant 11 false 53 rfl (by kernel_rfl) rfl (fun _ h => h) (by kernel_rfl)) (fun _ _ h => h) 1 (Or.inl rfl) (by kernel_rfl) rfl
                | 13, _ => exact vstep_pure rfl (vwant 11 false 53 rfl (by kernel_rfl) rfl (fun _ h => h) (by kernel_rfl)) (fun _ _ h => h) (fun LL aa ww cc => ⟨.pointer (some ⟨g1, o1, none⟩), by have e0 : aa.tmps.getD 54 undef = .slice (some ⟨g1, o1, none⟩) tl cx := cc.slot 12 54 (by kernel_rfl) rfl; have q := QL.out; simp only [execOp, Act.eval, e0]; go_simp, rfl⟩)
                | 14, _ => exact vstep_pure rfl (vwant 11 false 53 rfl (by kernel_rfl) rfl (fun _ h => h) (by kernel_rfl)) (fun _ _ h => h) (fun LL aa ww cc => ⟨.int .u8 (ch : Int), by have e0 : aa.tmps.getD 55 undef = .pointer (some ⟨g1, o1, none⟩) := cc.slot 13 55 (by kernel_rfl) rfl; have q := NC.out _ cc.world; simp only [execOp, Act.eval, e0]; go_simp, rfl⟩)
                | 15, _ => exact vstep_pure rfl (vwant 11 false 53 rfl (by kernel_rfl) rfl (fun _ h => h) (by kernel_rfl)) (fun _ _ h => h) (fun LL aa ww cc => ⟨.pointer (some ⟨b10, 2, none⟩), by have e0 : aa.tmps.getD 10 undef = .pointer (some ⟨b10, 0, none⟩) := (cc.orig 10 (by kernel_rfl)).trans rfl; simp only [execOp, Act.eval, e0]; go_simp, rfl⟩)
                | 16, _ => exact vstep_pure rfl (vwant 11 false 53 rfl (by kernel_rfl) rfl (fun _ h => h) (by kernel_rfl)) (fun _ _ h => h) (fun LL aa ww cc => ⟨.int .u8 (hi : Int), by have e0 : aa.tmps.getD 57 undef = .pointer (some ⟨b10, 2, none⟩) := cc.slot 15 57 (by kernel_rfl) rfl; have q := MH.out _ cc.world; simp only [execOp, Act.eval, e0]; go_simp, rfl⟩)
                | 17, _ => exact vstep_pure rfl (vwant 11 false 53 rfl (by kernel_rfl) rfl (fun _ h => h) (by kernel_rfl)) (fun _ _ h => h) (fun LL aa ww cc => ⟨.bool true, by have e0 : aa.tmps.getD 56 undef = .int .u8 (ch : Int) := cc.slot 14 56 (by kernel_rfl) rfl; have e1 : aa.tmps.getD 58 undef = .int .u8 (hi : Int) := cc.slot 16 58 (by kernel_rfl) rfl; have q := Q2.out; simp only [execOp, Act.eval, e0, e1]; go_simp, rfl⟩)
                | 18, _ => exact vstep_pure rfl (vwant_none rfl) (fun _ _ h => h) (fun LL aa ww cc => ⟨.bool true, by have e0 : aa.tmps.getD 53 undef = .bool false := cc.slot 11 53 (by kernel_rfl) rfl; have e1 : aa.tmps.getD 59 undef = .bool true := cc.slot 17 59 (by kernel_rfl) rfl; simp only [execOp, Act.eval, e0, e1]; go_simp, rfl⟩)
                | n + 19, h => exact absurd h (by show ¬ (n + 19 < 19); omega)
              · intro L9 w6 _ hj6
                have HJ6 : Hid (Below w.heap.size w w6) := Lib.hid (below_trans HW4.out (hj6.mono HW4.out.size))
                clear hj6
                refine (by assumption : ∀ (a : Act) (w : World), Code.wp _ _ _ a w → _) _ _ ?_
                simp only [List.zip_cons_cons, List.zip_nil_right, putsL]
                go_simp
                go_wp2
                go_ret2
                exact ⟨⟨0, 0, rfl, fun e => by omega⟩, HJ6.out⟩
            have Q2 : Hid (¬ hi < ch) := Lib.hid q2
            clear q2
            go_wp2_with fail
            refine region_vals [.slice (some ⟨g1, o1, none⟩) tl cx, .int .i64 (tl : Int), .bool false, .bool false, .slice (some ⟨g1, o1, none⟩) tl cx, .pointer (some ⟨g1, o1, none⟩), .int .u8 (ch : Int), .pointer (some ⟨b10, 1, none⟩), .int .u8 (lo : Int), .bool false, .bool false, .bool false, .slice (some ⟨g1, o1, none⟩) tl cx, .pointer (some ⟨g1, o1, none⟩), .int .u8 (ch : Int), .pointer (some ⟨b10, 2, none⟩), .int .u8 (hi : Int), .bool false, .bool false] [some 42, some 43, some 44, some 45, some 46, some 47, some 48, some 49, some 50, some 51, some 52, some 53, some 54, some 55, some 56, some 57, some 58, some 59, some 60] (fun _ w' => Below w4.heap.size w4 w') (by kernel_rfl) (by kernel_rfl) (by kernel_rfl) rfl rfl (Below.refl _ _).drew (fun ii hii => ?_) ?_
            · match ii, hii with
              | 0, _ => exact vstep_first rfl (vwant_none rfl) (fun _ _ h => h) 1 (Or.inl rfl) (by kernel_rfl) rfl
              | 1, _ => exact vstep_pure rfl (vwant_none rfl) (fun _ _ h => h) (fun LL aa ww cc => ⟨.int .i64 (tl : Int), by have e0 : aa.tmps.getD 42 undef = .slice (some ⟨g1, o1, none⟩) tl cx := cc.slot 0 42 (by kernel_rfl) rfl; simp only [execOp, Act.eval, e0]; go_simp, rfl⟩)
              | 2, _ => exact vstep_pure rfl (vwant_none rfl) (fun _ _ h => h) (fun LL aa ww cc => ⟨.bool false, by have e0 : aa.tmps.getD 43 undef = .int .i64 (tl : Int) := cc.slot 1 43 (by kernel_rfl) rfl; have q := QE.out; simp only [execOp, Act.eval, e0]; go_simp, rfl⟩)
              | 3, _ => exact vstep_copy rfl (vwant_none rfl) (fun _ _ h => h) 44 (Or.inl rfl) 2 (by kernel_rfl) rfl (fun _ h => h)
              | 4, _ => exact vstep_first rfl (vwant 3 false 45 rfl (by kernel_rfl) rfl (fun _ h => h) (by kernel_rfl)) (fun _ _ h => h) 1 (Or.inl rfl) (by kernel_rfl) rfl
              | 5, _ => exact vstep_pure rfl (vwant 3 false 45 rfl (by kernel_rfl) rfl (fun _ h => h) (by kernel_rfl)) (fun _ _ h => h) (fun LL aa ww cc => ⟨.pointer (some ⟨g1, o1, none⟩), by have e0 : aa.tmps.getD 46 undef = .slice (some ⟨g1, o1, none⟩) tl cx := cc.slot 4 46 (by kernel_rfl) rfl; have q := QL.out; simp only [execOp, Act.eval, e0]; go_simp, rfl⟩)
              | 6, _ => exact vstep_pure rfl (vwant 3 false 45 rfl (by kernel_rfl) rfl (fun _ h => h) (by kernel_rfl)) (fun _ _ h => h) (fun LL aa ww cc => ⟨.int .u8 (ch : Int), by have e0 : aa.tmps.getD 47 undef = .pointer (some ⟨g1, o1, none⟩) := cc.slot 5 47 (by kernel_rfl) rfl; have q := NC.out _ cc.world; simp only [execOp, Act.eval, e0]; go_simp, rfl⟩)
              | 7, _ => exact vstep_pure rfl (vwant 3 false 45 rfl (by kernel_rfl) rfl (fun _ h => h) (by kernel_rfl)) (fun _ _ h => h) (fun LL aa ww cc => ⟨.pointer (some ⟨b10, 1, none⟩), by have e0 : aa.tmps.getD 10 undef = .pointer (some ⟨b10, 0, none⟩) := (cc.orig 10 (by kernel_rfl)).trans rfl; simp only [execOp, Act.eval, e0]; go_simp, rfl⟩)
              | 8, _ => exact vstep_pure rfl (vwant 3 false 45 rfl (by kernel_rfl) rfl (fun _ h => h) (by kernel_rfl)) (fun _ _ h => h) (fun LL aa ww cc => ⟨.int .u8 (lo : Int), by have e0 : aa.tmps.getD 49 undef = .pointer (some ⟨b10, 1, none⟩) := cc.slot 7 49 (by kernel_rfl) rfl; have q := ML.out _ cc.world; simp only [execOp, Act.eval, e0]; go_simp, rfl⟩)
              | 9, _ => exact vstep_pure rfl (vwant 3 false 45 rfl (by kernel_rfl) rfl (fun _ h => h) (by kernel_rfl)) (fun _ _ h => h) (fun LL aa ww cc => ⟨.bool false, by have e0 : aa.tmps.getD 48 undef = .int .u8 (ch : Int) := cc.slot 6 48 (by kernel_rfl) rfl; have e1 : aa.tmps.getD 50 undef = .int .u8 (lo : Int) := cc.slot 8 50 (by kernel_rfl) rfl; have q := Q1.out; simp only [execOp, Act.eval, e0, e1]; go_simp, rfl⟩)
              | 10, _ => exact vstep_pure rfl (vwant_none rfl) (fun _ _ h => h) (fun LL aa ww cc => ⟨.bool false, by have e0 : aa.tmps.getD 45 undef = .bool false := cc.slot 3 45 (by kernel_rfl) rfl; have e1 : aa.tmps.getD 51 undef = .bool false := cc.slot 9 51 (by kernel_rfl) rfl; simp only [execOp, Act.eval, e0, e1]; go_simp, rfl⟩)
              | 11, _ => exact vstep_copy rfl (vwant_none rfl) (fun _ _ h => h) 52 (Or.inl rfl) 10 (by kernel_rfl) rfl (fun _ h => h)
              | 12, _ => exact vstep_first rfl (vwant 11 false 53 rfl (by kernel_rfl) rfl (fun _ h => h) (by kernel_rfl)) (fun _ _ h => h) 1 (Or.inl rfl) (by kernel_rfl) rfl
              | 13, _ => exact vstep_pure rfl (vwant 11 false 53 rfl (by kernel_rfl) rfl (fun _ h => h) (by kernel_rfl)) (fun _ _ h => h) (fun LL aa ww cc => ⟨.pointer (some ⟨g1, o1, none⟩), by have e0 : aa.tmps.getD 54 undef = .slice (some ⟨g1, o1, none⟩) tl cx := cc.slot 12 54 (by kernel_rfl) rfl; have q := QL.out; simp only [execOp, Act.eval, e0]; go_simp, rfl⟩)
              | 14, _ => exact vstep_pure rfl (vwant 11 false 53 rfl (by kernel_rfl) rfl (fun _ h => h) (by kernel_rfl)) (fun _ _ h => h) (fun LL aa ww cc => ⟨.int .u8 (ch : Int), by have e0 : aa.tmps.getD 55 undef = .pointer (some ⟨g1, o1, none⟩) := cc.slot 13 55 (by kernel_rfl) rfl; have q := NC.out _ cc.world; simp only [execOp, Act.eval, e0]; go_simp, rfl⟩)
              | 15, _ => exact vstep_pure rfl (vwant 11 false 53 rfl (by kernel_rfl) rfl (fun _ h => h) (by kernel_rfl)) (fun _ _ h => h) (fun LL aa ww cc => ⟨.pointer (some ⟨b10, 2, none⟩), by have e0 : aa.tmps.getD 10 undef = .pointer (some ⟨b10, 0, none⟩) := (cc.orig 10 (by kernel_rfl)).trans rfl; simp only [execOp, Act.eval, e0]; go_simp, rfl⟩)
              | 16, _ => exact vstep_pure rfl (vwant 11 false 53 rfl (by kernel_rfl) rfl (fun _ h => h) (by kernel_rfl)) (fun _ _ h => h) (fun LL aa ww cc => ⟨.int .u8 (hi : Int), by have e0 : aa.tmps.getD 57 undef = .pointer (some ⟨b10, 2, none⟩) := cc.slot 15 57 (by kernel_rfl) rfl; have q := MH.out _ cc.world; simp only [execOp, Act.eval, e0]; go_simp, rfl⟩)
              | 17, _ => exact vstep_pure rfl (vwant 11 false 53 rfl (by kernel_rfl) rfl (fun _ h => h) (by kernel_rfl)) (fun _ _ h => h) (fun LL aa ww cc => ⟨.bool false, by have e0 : aa.tmps.getD 56 undef = .int .u8 (ch : Int) := cc.slot 14 56 (by kernel_rfl) rfl; have e1 : aa.tmps.getD 58 undef = .int .u8 (hi : Int) := cc.slot 16 58 (by kernel_rfl) rfl; have q := Q2.out; simp only [execOp, Act.eval, e0, e1]; go_simp, rfl⟩)
              | 18, _ => exact vstep_pure rfl (vwant_none rfl) (fun _ _ h => h) (fun LL aa ww cc => ⟨.bool false, by have e0 : aa.tmps.getD 53 undef = .bool false := cc.slot 11 53 (by kernel_rfl) rfl; have e1 : aa.tmps.getD 59 undef = .bool false := cc.slot 17 59 (by kernel_rfl) rfl; simp only [execOp, Act.eval, e0, e1]; go_simp, rfl⟩)
              | n + 19, h => exact absurd h (by show ¬ (n + 19 < 19); omega)
            · intro L9 w6 _ hj6
              have HJ6 : Hid (Below w8.heap.size w8 w6) := Lib.hid (below_trans HBW4.out (hj6.mono HBW4.out.size))
              have HRB6 : Hid (RB w6 w.heap.size (some ⟨g1, o1, none⟩) (y :: t')) := Lib.hid (HRB4.out.below (hj6.mono HW4.out.size))
              have HP6 : Hid (Stk w6 w8.heap.size (some ⟨g9, 0, none⟩) cy r) := Lib.hid (HPOP4.out.below hj6)
              clear hj6 NC ML MH
              refine (by assumption : ∀ (a : Act) (w : World), Code.wp _ _ _ a w → _) _ _ ?_
              simp only [List.zip_cons_cons, List.zip_nil_right, putsL]
              go_simp
              have HSTEP : Hid (∃ k, k < gk ∧ Halts F (fms (gof R)) (fun i => hl.getD i 0) k (byts t', r)) := Lib.hid (by
                have hst : stepM F (fms (gof R)) (fun i => hl.getD i 0) (byts (y :: t'), x :: r) = some (byts t', r) := step_byte (by rw [← HNX.out]; exact hneg) (by
                  have h := HCH.out
                  have h1 := Q1.out
                  have h2 := Q2.out
                  rw [h.1, h.2.1] at h1
                  rw [h.1, h.2.2] at h2
                  exact ⟨by omega, by omega⟩)
                have hh := HHA.out
                cases hh with
                | stop h => rw [hst] at h; cases h
                | go h h2 =>
                  rw [hst] at h
                  injection h with h
                  subst h
                  exact ⟨_, Nat.lt_succ_self _, h2⟩)
              have HDB2 : Hid (DB (fms (gof R)) r (byts t') → DB (fms (gof R)) [⟨0, 0, 0⟩] (byts s)) := Lib.hid fun h => HDB.out (by
                have h0 := HCH.out
                have h1 := Q1.out
                have h2 := Q2.out
                rw [h0.1, h0.2.1] at h1
                rw [h0.1, h0.2.2] at h2
                exact .byte (by rw [← HNX.out]; exact hneg) (by omega) (by omega) h)
              obtain ⟨kz, hkz, hhz⟩ := HSTEP.out
              have HKZ := Lib.hid hkz
              have HHZ := Lib.hid hhz
              have htl1 : 1 ≤ tl := QL.out
              clear hkz hhz HSTEP
              go_wp2_with ((with_reducible show wpList _ _ _ (Oper.mk _ (Op.slice _ _ _ _ _) _ _ _ _ :: _) _ _); refine wpList_sliceLo uByts s1Byt rfl _ _ rfl (some ⟨g1, o1, none⟩) tl cx 1 rfl rfl htl1 ?_)
              intro A2 hA2
              have HR2 : Hid (RB w6 w.heap.size A2 t') := Lib.hid (by
                rw [hA2.out]
                unfold sliceAdr
                split
                · rename_i hc
                  have := HCX.out.1
                  rw [List.length_cons] at this
                  rw [List.eq_nil_of_length_eq_zero (by omega : t'.length = 0)]
                  exact RB.nil _ _ _
                · rw [Option.map_some, Addr.add_mid]
                  exact HRB6.out.drop 1)
              have HT2 : Hid (tl - 1 = t'.length ∧ t'.length ≤ cx - 1 ∧ t'.length ≤ L1) := Lib.hid (by have := HTL.out; have := HCX.out; rw [List.length_cons] at *; omega)
              clear hA2 HRB6
              go_wp2
              go_roundg kz
              case measure => exact HKZ.out
              case rel => exact ⟨A2, cx - 1, t', _, cy, r, by rw [HT2.out.1], by rw [HRL.out], HR2.out, HT2.out.2, HP6.out, HJ6.out, HHZ.out, HRN.out, by have := HRL.out; omega, HDB2.out⟩
        · obtain ⟨nn, rfl⟩ := Int.eq_ofNat_of_zero_le (show 0 ≤ nm by omega)
          have HNN : Hid (x.name.toNat = nn ∧ ¬ x.name < 0) := Lib.hid (by have := HNX.out; omega)
          have HNS : Hid (nn < 16) := Lib.hid (by have := HXN.out.1; have := HN1.out.2; have := HNX.out; omega)
          go_wp2_with (first
            | ((with_reducible show wpList _ _ _ (Oper.mk _ (Op.slice _ _ _ _ _) _ _ _ _ :: _) _ _); refine wpList_sliceHi uSgns sSgn.info rfl _ _ rfl g9 0 (rl + 1) cy rl rfl rfl hcy ?_)
            | ((with_reducible show wpList _ _ _ (Oper.mk (some 64) (Op.load 27 _) _ _ _ _ :: _) _ _); refine wpList_loadS sGrm rfl _ rfl b2 (grv (N : Int) A n c) rfl (HB28.out.below HBW4.out HB28.out.lt) rfl ?_)
            | fail)
          rw [HGL.out, HTL.out]
          refine (choose_calls w4 F b6 N A Ax c cx (gof R) N nn t HST.out.ok (HB68.out.below HBW4.out HB68.out.lt) HGS.out (mok_of HMO.out) ((HRG.out.below HW4.out (Nat.le_refl _)).mono' HW4.out.size) (HRB4.out.mono HW4.out.size) (by have := HCX.out; omega)).mono ?_
          rw [← HGL.out, ← HTL.out]
          rintro e w5 ⟨⟨p, hpm, rfl, hch⟩ | ⟨rfl, hch⟩, hb5⟩
          · have HPM := Lib.hid hpm
            have HCHO := Lib.hid hch
            have HPF : Hid (p.1 ∈ fms (gof R)) := Lib.hid (List.mem_map.2 ⟨p, hpm, rfl⟩)
            have HW5 : Hid (Below w.heap.size w w5) := Lib.hid (below_trans HW4.out (hb5.mono HW4.out.size))
            have HBW5 : Hid (Below w8.heap.size w8 w5) := Lib.hid (below_trans HBW4.out (hb5.mono HBW4.out.size))
            have HRB5 : Hid (RB w5 w.heap.size Ax t) := Lib.hid (HRB4.out.below (hb5.mono HW4.out.size))
            have HRB0 : Hid (RB w8 w.heap.size Ax t) := Lib.hid (HRB4.out.keep fun p hp => (HBW4.out.cell (Nat.lt_of_lt_of_le hp HW8.out.size)).symm)
            have HPOP5 : Hid (Stk w5 w8.heap.size (some ⟨g9, 0, none⟩) cy r) := Lib.hid (HPOP4.out.below hb5)
            obtain ⟨Ab, hAb⟩ : ∃ Ab, Ab = p.2.1 := ⟨_, rfl⟩
            obtain ⟨cb, hcb⟩ : ∃ cb, cb = p.2.2 := ⟨_, rfl⟩
            obtain ⟨bd, hbd⟩ : ∃ bd, bd = p.1.body := ⟨_, rfl⟩
            obtain ⟨bl, hbl⟩ : ∃ bl, bl = bd.length := ⟨_, rfl⟩
            have HBL := Lib.hid hbl
            have HBD := Lib.hid hbd
            have HRS : Hid (RS w8 w.heap.size Ab bd) := Lib.hid (by rw [hAb, hbd]; exact (HRG.out.body p hpm).below HW8.out (Nat.le_refl _))
            have HBN : Hid (∀ y ∈ bd, y.name < N ∧ y.low < 256 ∧ y.high < 256) := Lib.hid fun y hy => by
              rw [hbd] at hy
              exact ⟨HGS.out.sign _ HPF.out y hy, HGS.out.byte _ HPF.out y hy⟩
            rw [← hAb, ← hcb, ← hbd, ← hbl]
            have hbl8 : bl ≤ 8 := by rw [hbl, hbd]; exact HGS.out.body _ HPF.out
            clear hpm hch hb5 hAb hcb hbd hbl HRB4 HPOP4 HBW4 HW4 HB10 hc0
            go_wp2
            go_loopw [9, 13] (fun s9 s13 wr => ∃ (j : Nat) (q : Int) (Az : Option Addr) (cz z : Nat), j ≤ bl ∧ q = (j : Int) - 1 ∧ s9 = .slice Az z cz ∧ s13 = .int .i64 q ∧ z = bl - j + rl ∧ Stk wr w8.heap.size Az cz (bd.drop j ++ r) ∧ Below w8.heap.size w8 wr) (fun _ s13 _ => (intOf s13 + 1).toNat)
            case atStart => exact ⟨bl, (bl : Int) - 1, _, cy, rl, Nat.le_refl _, rfl, rfl, rfl, by omega, by rw [HBL.out, List.drop_length, List.nil_append]; exact HPOP5.out, HBW5.out⟩
            case round =>
              obtain ⟨j, q, Az, cz, z, hj, hq, rfl, rfl, hz, hstk, hbw⟩ := hrel
              have HSTK := Lib.hid hstk
              have HBW := Lib.hid hbw
              have HZ := Lib.hid hz
              have hz40 : z ≤ 40 := by omega
              clear hstk hbw hz HBW5 HPOP5 HRB5
              cases j with
              | zero =>
                have hq0 : q = -1 := by omega
                subst hq0
                clear hq
                have HW9 : Hid (Below w.heap.size w wr) := Lib.hid (below_trans HW8.out (HBW.out.mono HW8.out.size))
                have HLN : Hid ((bd ++ r).length = z) := Lib.hid (by have := HZ.out; have := HBL.out; have := HRL.out; rw [List.length_append]; omega)
                by_cases hz32 : 32 < z
                · go_wp2
                  go_ret2
                  exact ⟨⟨2, 0, rfl, fun e => by omega⟩, HW9.out⟩
                · have HS9 : Hid (Stk wr w8.heap.size Az cz (bd ++ r)) := Lib.hid (by have := HSTK.out; rwa [List.drop_zero] at this)
                  have HRB9 : Hid (RB wr w.heap.size Ax t) := Lib.hid ((HRB0.out.below (HBW.out.mono HW8.out.size)))
                  have HSTP : Hid (stepM F (fms (gof R)) (fun i => hl.getD i 0) (byts t, x :: r) = some (byts t, bd ++ r)) := Lib.hid (by
                    refine step_take (by have := HNN.out.2; omega) ?_ (by rw [HLN.out]; exact hz32)
                    rw [HNN.out.1, HCHO.out, ← HBD.out])
                  have HSTEP : Hid (∃ k, k < gk ∧ Halts F (fms (gof R)) (fun i => hl.getD i 0) k (byts t, bd ++ r)) := Lib.hid (by
                    have hh := HHA.out
                    cases hh with
                    | stop h => rw [HSTP.out] at h; cases h
                    | go h h2 =>
                      rw [HSTP.out] at h
                      injection h with h
                      subst h
                      exact ⟨_, Nat.lt_succ_self _, h2⟩)
                  have HDB2 : Hid (DB (fms (gof R)) (bd ++ r) (byts t) → DB (fms (gof R)) [⟨0, 0, 0⟩] (byts s)) := Lib.hid fun h => HDB.out (step_sound HST.out.sound HSTP.out h)
                  obtain ⟨kz, hkz, hhz⟩ := HSTEP.out
                  have HKZ := Lib.hid hkz
                  have HHZ := Lib.hid hhz
                  have HZ32 := Lib.hid hz32
                  clear hkz hhz HSTEP HSTP
                  go_wp2
                  go_roundg kz
                  case measure => exact HKZ.out
                  case rel => exact ⟨Ax, cx, t, Az, cz, bd ++ r, by rw [HTL.out], by rw [HLN.out], HRB9.out, HCX.out, HS9.out, HBW.out, HHZ.out, fun y hy => (List.mem_append.1 hy).elim (HBN.out y) (HRN.out y), by rw [HLN.out]; have := HZ32.out; omega, HDB2.out⟩
              | succ j =>
                have hqj : q = (j : Int) := by omega
                subst hqj
                have hjb : j < bd.length := by rw [← HBL.out]; exact hj
                obtain ⟨g3, k3, hA3, hg3, hg3s, hrow3⟩ := (HRS.out.below (HBW.out.mono HW8.out.size) (Nat.le_refl _)) (by rintro rfl; simp at hjb)
                subst hA3
                obtain ⟨x3, hx3⟩ : ∃ x3, x3 = bd[j] := ⟨_, rfl⟩
                have HROW : Hid (wr.rangeAt g3 (k3 + j * 3) (sgv x3)) := Lib.hid (by rw [hx3]; exact hrow3 j hjb)
                have HDJ : Hid (bd.drop j ++ r = x3 :: (bd.drop (j + 1) ++ r)) := Lib.hid (by rw [List.drop_eq_getElem_cons hjb, ← hx3, List.cons_append])
                have HAL : Hid (Below wr.heap.size wr (wr.alloc (.cells (sgv x3).toArray 88))) := Lib.hid ((Below.refl _ _).alloc (Nat.le_refl _) _)
                have HSA : Hid (Stk (wr.alloc (.cells (sgv x3).toArray 88)) w8.heap.size Az cz (bd.drop (j + 1) ++ r)) := Lib.hid (HSTK.out.below HAL.out)
                have HSZ : Hid (w8.heap.size ≤ (wr.alloc (.cells (sgv x3).toArray 88)).heap.size) := Lib.hid (Nat.le_trans HBW.out.size HAL.out.size)
                have HLN : Hid (z = (bd.drop (j + 1) ++ r).length) := Lib.hid (by have := HZ.out; have := HBL.out; have := HRL.out; rw [List.length_append, List.length_drop]; omega)
                have HJB : Hid (j < bl) := Lib.hid hj
                have hjb2 : j < bl := hj
                clear hq hx3 hrow3 hg3 hg3s hjb
                go_wp2_with (first
                  | ((with_reducible show wpList _ _ _ (Oper.mk _ (Op.load 88 _) _ _ _ _ :: _) _ _); refine wpList_loadM sSgn rfl _ rfl g3 (k3 + j * 3) (sgv x3) rfl HROW.out rfl ?_)
                  | ((with_reducible show wpList _ _ _ (Oper.mk _ (Op.buildSlice _ _ _) _ _ _ _ :: _) _ _); refine wpList_build1 rfl _ rfl x3 rfl ?_)
                  | ((with_reducible show wpList _ _ _ (Oper.mk (some 86) _ _ _ _ _ :: _) _ _); refine wpList_push rfl _ _ rfl w8.heap.size HSZ.out Az z cz (bd.drop (j + 1) ++ r) HLN.out rfl HSA.out wr.heap.size x3 rfl (Blk.new _ _ _) (by omega) ?_)
                  | fail)
                intro A' c' w9 hs9 hb9
                have HS9 : Hid (Stk w9 w8.heap.size A' c' (bd.drop j ++ r)) := Lib.hid (by rw [HDJ.out]; exact hs9)
                have HB9 : Hid (Below w8.heap.size w8 w9) := Lib.hid (below_trans (below_trans HBW.out (HAL.out.mono HBW.out.size)) hb9)
                clear hs9 hb9 HSA HAL HROW HSTK
                go_wp2
                go_roundw
                case rel => exact ⟨j, (j : Int) - 1, A', c', z + 1, Nat.le_of_lt HJB.out, rfl, rfl, rfl, by have := HZ.out; have := HJB.out; omega, HS9.out, HB9.out⟩
                case measure => simp [intOf]
          · have HCHO := Lib.hid hch
            have HW5 : Hid (Below w.heap.size w w5) := Lib.hid (below_trans HW4.out (hb5.mono HW4.out.size))
            have HBW5 : Hid (Below w8.heap.size w8 w5) := Lib.hid (below_trans HBW4.out (hb5.mono HBW4.out.size))
            have HRB5 : Hid (RB w5 w.heap.size Ax t) := Lib.hid (HRB4.out.below (hb5.mono HW4.out.size))
            have HPOP5 : Hid (Stk w5 w8.heap.size (some ⟨g9, 0, none⟩) cy r) := Lib.hid (HPOP4.out.below hb5)
            obtain ⟨vn, hvn⟩ : ∃ vn, vn = F.nul nn := ⟨_, rfl⟩
            have HVN := Lib.hid hvn
            obtain ⟨hx, hhx⟩ : ∃ hx, hx = hl.getD nn 0 := ⟨_, rfl⟩
            have HHX := Lib.hid hhx
            have hx6k : hx ≤ 6144 := by
              rw [hhx, List.getD_eq_getElem?_getD]
              cases hq : hl[nn]? with
              | none => simp
              | some v => exact HHO.out.le v (List.mem_of_getElem? hq)
            have hcn5 : w5.cell? ⟨b10, 0, none⟩ = some (.int .i64 (nn : Int)) := (HB10.out.below hb5 HB10.out.lt).cell (by show some (Value.int .i64 x.name) = _; rw [← HNX.out])
            have hcf5 : w5.cell? ⟨b6, 16 + nn, none⟩ = some (.bool vn) := (HB68.out.below HBW5.out HB68.out.lt).cell (by rw [hvn]; exact fc_null HST.out.ok HNS.out)
            have hch5 : w5.cell? ⟨b8, nn, none⟩ = some (.int .i64 (hx : Int)) := (HB8.out.below HBW5.out HB8.out.lt).cell (by
              have hlt : nn < hl.length := by rw [HHO.out.len]; exact HNS.out
              rw [hhx, hcs_get hlt, List.getD_eq_getElem?_getD, List.getElem?_eq_getElem hlt]; rfl)
            have hnn16 : (nn : Int) < 16 := by have := HNS.out; omega
            have hnn16n : nn < 16 := HNS.out
            have hrl33 : (rl : Int) < 32 := by omega
            clear hch hb5 hhx hvn HRB4 HPOP4 HBW4 HW4 HB10 hc0
            cases vn with
            | false =>
              go_wp2
              go_ret2
              exact ⟨⟨0, 0, rfl, fun e => by omega⟩, HW5.out⟩
            | true =>
              by_cases hdp : 32 < rl + hx
              · have hdpi : (32 : Int) < (rl : Int) + (hx : Int) := by omega
                go_wp2
                go_ret2
                exact ⟨⟨2, 0, rfl, fun e => by omega⟩, HW5.out⟩
              · have hdpi : ¬ (32 : Int) < (rl : Int) + (hx : Int) := by omega
                have HSTP : Hid (stepM F (fms (gof R)) (fun i => hl.getD i 0) (byts t, x :: r) = some (byts t, r)) := Lib.hid (by
                  refine step_pop (by have := HNN.out.2; omega) (by rw [HNN.out.1]; exact HCHO.out) (by rw [HNN.out.1]; exact HVN.out.symm) ?_
                  rw [HNN.out.1, ← HRL.out, ← HHX.out]
                  exact hdp)
                have HSTEP : Hid (∃ k, k < gk ∧ Halts F (fms (gof R)) (fun i => hl.getD i 0) k (byts t, r)) := Lib.hid (by
                  have hh := HHA.out
                  cases hh with
                  | stop h => rw [HSTP.out] at h; cases h
                  | go h h2 =>
                    rw [HSTP.out] at h
                    injection h with h
                    subst h
                    exact ⟨_, Nat.lt_succ_self _, h2⟩)
                have HDB2 : Hid (DB (fms (gof R)) r (byts t) → DB (fms (gof R)) [⟨0, 0, 0⟩] (byts s)) := Lib.hid fun h => HDB.out (step_sound HST.out.sound HSTP.out h)
                obtain ⟨kz, hkz, hhz⟩ := HSTEP.out
                have HKZ := Lib.hid hkz
                have HHZ := Lib.hid hhz
                have HRL32 := Lib.hid hrl32
                clear hkz hhz HSTEP HSTP
                go_wp2
                go_roundg kz
                case measure => exact HKZ.out
                case rel => exact ⟨Ax, cx, t, _, cy, r, by rw [HTL.out], by rw [HRL.out], HRB5.out, HCX.out, HPOP5.out, HBW5.out, HHZ.out, HRN.out, by have := HRL32.out; have := HRL.out; omega, HDB2.out⟩
  · have HFL := Lib.hid hfl
    have HW3 : Hid (Below w.heap.size w w3) := Lib.hid (below_trans HW2.out (hb3.mono HW2.out.size))
    clear hfl hb3 HB2 HW2
    go_wp2_with (first
      | ((with_reducible show wpList _ _ _ (Oper.mk (some 6) (Op.alloc 74) _ _ _ _ :: _) _ _); refine wpList_allocS _ zFx rfl rfl ?_)
      | fail)
    intro w4 hb4 hg4 hs4
    obtain ⟨b6, hb6e⟩ : ∃ b, b = w3.heap.size := ⟨_, rfl⟩
    rw [← hb6e] at hb4 ⊢
    have HB4 := Lib.hid hb4
    have HW4 : Hid (Below w.heap.size w w4 ∧ w.heap.size ≤ b6) := Lib.hid ⟨below_trans HW3.out (grown_below hg4 HW3.out.size (fun k e => by cases e)), by have := HW3.out.size; omega⟩
    clear hb4 hg4 hs4 hb6e
    go_wp2_with (first
      | ((with_reducible show wpList _ _ _ (Oper.mk _ (Op.store 74 _ _) _ _ _ _ :: _) _ _); refine wpList_storeS sFx rfl _ _ rfl b6 (fcells .zero) (fcells F) rfl rfl HB4.out rfl HFL.out (fcells_one _) ?_)
      | fail)
    intro w5 hb5 hg5
    have HW5 : Hid (Below w.heap.size w w5) := Lib.hid (below_trans HW4.out.1 (grown_below hg5 HW4.out.1.size fun k e => by injection e with e; have := HW4.out.2; omega))
    clear hb5 hg5
    go_wp2
    go_ret2
    exact ⟨⟨0, 3, rfl, fun e => by omega⟩, HW5.out⟩
end Go.Proofs.YtiebpmpjclnpeaaDoor
/- said: a message is as the rule asks, and of the language. -/
namespace Go.Proofs.YtiebpmpjclnpeaaDoor
open Go.RowKit Nac Nac.Gram
/-- a guard as it comes -/
structure Gd where
  kind : Int
  most : Int
  least : Int
  mo : Int
  AF : Option Addr
  fs : List Fld
  cF : Nat
  names : Int
  AG : Option Addr
  R : List FormI
  cG : Nat
  rate : Int
  burst : Int
  AL : Option Addr
  nL : Nat
  cL : Nat
def gdv (g : Gd) : List Value := [.int .i64 g.kind, .int .i64 g.most, .int .i64 g.least, .int .i64 g.mo, .slice g.AF g.fs.length g.cF, .int .i64 g.names, .slice g.AG g.R.length g.cG, .int .i64 g.rate, .int .i64 g.burst, .slice g.AL g.nL g.cL]
theorem sGd : SInfo 30 10 := ⟨by kernel_rfl, _, Tryd.underlying30, rfl⟩
theorem builtG (a : Int) (A : Option Addr) (n c : Nat) : Tryd.prog.built 27 [(0, .int .i64 a), (1, .slice A n c)] = some (grv a A n c).toArray := by kernel_rfl
/-- what a guard points to, below block B -/
structure GdIn (w : World) (B : Nat) (g : Gd) : Prop where
  rf : RF w B g.AF g.fs
  rg : RGI w B g.AG g.R
theorem GdIn.below {w w' : World} {B : Nat} {g : Gd} (h : GdIn w B g) (hb : Below B w w') : GdIn w' B g := ⟨h.rf.below hb (Nat.le_refl _), h.rg.below hb⟩
section
variable {w : World} {ops : Array Oper} {rest : List Oper} {o : Oper} {a : Act} {Q : Exit → Act → World → Prop}
theorem wpList_loadMw {T : TypeId} {n : Nat} (hS : SInfo T n) (hw : Region.wanted o (yielded ops a.tmps) = true) (x : Operand) (hop : o.op = .load T x) (b k : Nat) (cs : List Value) (hx : a.eval x = .pointer (some ⟨b, k, none⟩)) (hb : w.rangeAt b k cs) (hl : cs.length = n)
    (h : wpList Tryd.prog ops Q rest (a.put o.dst (.agg cs.toArray)) w) : wpList Tryd.prog ops Q (o :: rest) a w := by
  obtain ⟨d, hu, hd⟩ := hS.row
  unfold wpList
  rw [if_pos hw]
  refine Or.inl ?_
  unfold Oper.wp
  have e : (execOp a.eval o).run Tryd.prog w = .ok (.value (.agg cs.toArray)) w := by
    unfold execOp
    simp only [hop, hx, Instr.loadAt, Instr.sureAddr, Sem.run_bind, Sem.run_pure, Result.andThen_ok, run_loadVar_mid w b k T cs d hb hu hd (by rw [hS.info, hl])]
  rw [e]
  exact h
end
theorem gdv_rule {w : World} {b : Nat} {g : Gd} (h : Blk w b (gdv g)) : w.rangeAt b 2 (rlv g.least g.mo g.AF g.fs.length g.cF) := h.range 2 _ ⟨[.int .i64 g.kind, .int .i64 g.most], [.int .i64 g.names, .slice g.AG g.R.length g.cG, .int .i64 g.rate, .int .i64 g.burst, .slice g.AL g.nL g.cL], rfl, rfl⟩
theorem gdv_gram {w : World} {b : Nat} {g : Gd} (h : Blk w b (gdv g)) : w.rangeAt b 5 (grv g.names g.AG g.R.length g.cG) := h.range 5 _ ⟨[.int .i64 g.kind, .int .i64 g.most, .int .i64 g.least, .int .i64 g.mo, .slice g.AF g.fs.length g.cF], [.int .i64 g.rate, .int .i64 g.burst, .slice g.AL g.nL g.cL], rfl, rfl⟩
/-- a message that the guard lets through -/
structure Good (g : Gd) (l : List UInt8) : Prop where
  sat : SatR g.least g.mo g.fs l
  der : DB (fms (gof g.R)) [⟨0, 0, 0⟩] (byts l)
set_option maxRecDepth 100000 in
set_option maxHeartbeats 4000000 in
theorem said_calls (w : World) (g : Gd) (A : Option Addr) (c : Nat) (l : List UInt8) (hg : GdIn w w.heap.size g) (hR : ROk g.R) (hsh : ShapeI g.names g.R) (hru : RuleOk g.least g.mo g.fs) (hby : ∀ r ∈ g.R, ∀ x ∈ r.body, x.low < 256 ∧ x.high < 256)
    (hl : RB w w.heap.size A l) (hc : l.length ≤ c) (h64 : l.length ≤ 64) (hgood : Good g l) :
    Calls Tryd.prog 12 #[.agg (gdv g).toArray, .slice A l.length c] w (RetG w (.bool true)) := by
  have HG := Lib.hid hg
  have HRO := Lib.hid hR
  have HSH := Lib.hid hsh
  have HRU := Lib.hid hru
  have HBY := Lib.hid hby
  have HLB := Lib.hid hl
  have HCC := Lib.hid hc
  have HGD := Lib.hid hgood
  obtain ⟨L, hL⟩ : ∃ L, L = l.length := ⟨_, rfl⟩
  have HL := Lib.hid hL
  obtain ⟨N, hN⟩ := Int.eq_ofNat_of_zero_le (show 0 ≤ g.names by have := hsh.lo; omega)
  have HN := Lib.hid hN
  obtain ⟨ng, hng⟩ : ∃ ng, ng = g.R.length := ⟨_, rfl⟩
  have HNG := Lib.hid hng
  rw [← hL] at h64 ⊢
  obtain ⟨AG, hAG⟩ : ∃ AG, AG = g.AG := ⟨_, rfl⟩
  obtain ⟨cG, hcG⟩ : ∃ cG, cG = g.cG := ⟨_, rfl⟩
  have HAG : Hid (AG = g.AG ∧ cG = g.cG) := Lib.hid ⟨hAG, hcG⟩
  have hbd : ∀ w, (Instr.build 27 #[(0, .int .i64 (N : Int)), (1, .slice AG ng cG)]).run Tryd.prog w = .ok (.agg (grv (N : Int) AG ng cG).toArray) w := fun w => run_build w _ _ _ (builtG _ _ _ _)
  clear hg hR hsh hru hby hl hc hgood hL hN hng hAG hcG
  go_enter Tryd.func12, Tryd.ntmps12
  go_wp2_with (first | ((with_reducible show wpList _ _ _ (Oper.mk (some 2) (Op.box 30 _) _ _ _ _ :: _) _ _); refine wpList_boxS (T := 30) rfl _ rfl (gdv g) rfl ?_) | fail)
  intro w2 hb1 hg1 hs1
  obtain ⟨b2, hb2e⟩ : ∃ b, b = w.heap.size := ⟨_, rfl⟩
  rw [← hb2e] at hb1 ⊢
  have HB2 := Lib.hid hb1
  have HW2 : Hid (Below w.heap.size w w2) := Lib.hid (grown_below hg1 (Nat.le_refl _) (fun k e => by cases e))
  clear hb1 hg1 hs1 hb2e
  go_wp2_with (first
    | ((with_reducible show wpList _ _ _ (Oper.mk (some 9) (Op.load 24 _) _ _ _ _ :: _) _ _); refine wpList_loadM sRul rfl _ rfl b2 2 (rlv g.least g.mo g.AF g.fs.length g.cF) rfl (gdv_rule HB2.out) rfl ?_)
    | fail)
  rw [HL.out]
  refine (rpass_calls w2 g.least g.mo g.AF A g.cF c g.fs l ((HG.out.rf.below HW2.out (Nat.le_refl _)).mono HW2.out.size) HRU.out HGD.out.sat ((HLB.out.below HW2.out).mono HW2.out.size) HCC.out (by rw [← HL.out]; omega)).mono ?_
  rw [← HL.out]
  rintro e w3 ⟨rfl, hb3⟩
  have HB3 : Hid (Blk w3 b2 (gdv g)) := Lib.hid (HB2.out.below hb3 HB2.out.lt)
  have HW3 : Hid (Below w.heap.size w w3) := Lib.hid (below_trans HW2.out (hb3.mono HW2.out.size))
  have hc0 : w3.cell? ⟨b2, 5, none⟩ = some (.int .i64 (N : Int)) := HB3.out.cell (by rw [← HN.out]; rfl)
  have hc1 : w3.cell? ⟨b2, 6, none⟩ = some (.slice AG ng cG) := HB3.out.cell (by rw [HAG.out.1, HAG.out.2, HNG.out]; rfl)
  clear hb3 HB2 HW2
  by_cases h10 : 10 < L
  · clear hc0 hc1
    go_wp2
    go_ret
    exact ⟨rfl, HW3.out⟩
  · have HL10 : Hid (L ≤ 10) := Lib.hid (by omega)
    go_wp2_with fail
    have hgl : ng = (gof g.R).length := by have := HNG.out; simpa [gof] using this
    rw [HL.out, hgl, HAG.out.1, HAG.out.2]
    have HGS : Hid (Shaped (fms (gof g.R)) N) := Lib.hid (by
      have h := HSH.out
      rw [HN.out] at h
      exact shaped_of h HBY.out)
    have hrg : RG w w.heap.size g.AG (gof g.R) := HG.out.rg.rg fun r hr => (HSH.out.name r hr).1
    refine (rderives_calls w3 N g.AG A g.cG c (gof g.R) l HGS.out (by have := HSH.out.lo; have := HN.out; omega) (by rw [← hgl, HNG.out]; exact HSH.out.few) ((hrg.below HW3.out (Nat.le_refl _)).mono' HW3.out.size) ((HLB.out.below HW3.out).mono HW3.out.size) (by rw [← HL.out]; exact HL10.out) HGD.out.der).mono ?_
    rw [← HL.out, ← hgl, ← HAG.out.1, ← HAG.out.2]
    rintro e w4 ⟨rfl, hb4⟩
    have HW4 : Hid (Below w.heap.size w w4) := Lib.hid (below_trans HW3.out (hb4.mono HW3.out.size))
    clear hb4 hc0 hc1
    go_wp2
    go_ret
    exact ⟨rfl, HW4.out⟩
end Go.Proofs.YtiebpmpjclnpeaaDoor
/- A channel as a list of cells: 6 of its own, and 16 messages of 66. Over whatever program. -/
namespace Nac
open Go Go.RowKit
structure Msg where
  b : List UInt8
  at_ : Nat
  deriving DecidableEq
def pad (l : List UInt8) : List UInt8 := l ++ List.replicate (64 - l.length) 0
def mcells (m : Msg) : List Value := (pad m.b).map bv ++ [.int .i64 m.b.length, .int .u64 m.at_]
def zmsg : Msg := ⟨[], 0⟩
/-- a channel, as far as the document tells -/
structure Ch where
  kind : Nat
  most : Nat
  size : Nat
  lost : Nat
  q : List Msg
  deriving DecidableEq
structure Ch.ok (C : Ch) : Prop where
  kind : C.kind ≤ 2
  most1 : 1 ≤ C.most
  most : C.most ≤ 16
  one : C.kind = 0 → C.most = 1
  size : C.size ≤ 64
  lost : C.lost ≤ 18446744073709551615
  len : C.q.length ≤ C.most
  fit : ∀ m ∈ C.q, m.b.length ≤ 64 ∧ m.at_ ≤ 18446744073709551615
def slotMsg (f : Nat) (q : List Msg) (s : Nat) : Msg := q.getD ((s + 16 - f) % 16) zmsg
def ringL (f : Nat) (q : List Msg) : List (List Value) := (List.range 16).map fun s => mcells (slotMsg f q s)
def hd (C : Ch) (f n : Nat) : List Value := [.int .i64 C.kind, .int .i64 C.most, .int .i64 C.size, .int .i64 f, .int .i64 n, .int .u64 C.lost]
def ccells (C : Ch) (f : Nat) : List Value := hd C f C.q.length ++ (ringL f C.q).flatten
theorem mcells_len (m : Msg) (h : m.b.length ≤ 64) : (mcells m).length = 66 := by simp [mcells, pad]; omega
theorem mcells_one (m : Msg) : ∀ v ∈ mcells m, v.oneCell' = true := by
  intro v hv
  simp only [mcells, List.mem_append, List.mem_map, List.mem_cons, List.not_mem_nil, or_false] at hv
  rcases hv with ⟨x, _, rfl⟩ | rfl | rfl <;> rfl
theorem slotMsg_fit (f : Nat) (q : List Msg) (s : Nat) (h : ∀ m ∈ q, m.b.length ≤ 64) : (slotMsg f q s).b.length ≤ 64 := by
  unfold slotMsg
  rw [List.getD_eq_getElem?_getD]
  cases e : q[(s + 16 - f) % 16]? with
  | none => simp [zmsg]
  | some m => exact h m (List.mem_of_getElem? e)
theorem ringL_len (f : Nat) (q : List Msg) : (ringL f q).length = 16 := by simp [ringL]
theorem ringL_each (f : Nat) (q : List Msg) (h : ∀ m ∈ q, m.b.length ≤ 64) : ∀ x ∈ ringL f q, x.length = 66 := by
  intro x hx
  simp only [ringL, List.mem_map] at hx
  obtain ⟨s, _, rfl⟩ := hx
  exact mcells_len _ (slotMsg_fit f q s h)
theorem ringL_get (f : Nat) (q : List Msg) (s : Nat) (h : s < (ringL f q).length) : (ringL f q)[s] = mcells (slotMsg f q s) := by simp [ringL]
theorem hd_len (C : Ch) (f n : Nat) : (hd C f n).length = 6 := rfl
/-- the cells of slot s -/
theorem ccells_slot (C : Ch) (hC : C.ok) (f s : Nat) (hs : s < 16) : ∃ pre post, ccells C f = pre ++ mcells (slotMsg f C.q s) ++ post ∧ pre.length = 6 + 66 * s := by
  obtain ⟨pre, post, h1, h2⟩ := flatten_at 66 (ringL f C.q) (ringL_each f C.q fun m hm => (hC.fit m hm).1) s (by rw [ringL_len]; exact hs)
  rw [ringL_get] at h1
  refine ⟨hd C f C.q.length ++ pre, post, ?_, by simp [hd_len, h2]⟩
  unfold ccells
  rw [h1]
  simp
theorem ccells_len (C : Ch) (hC : C.ok) (f : Nat) : (ccells C f).length = 1062 := by
  unfold ccells
  rw [List.length_append, hd_len, flatten_len 66 _ (ringL_each f C.q fun m hm => (hC.fit m hm).1), ringL_len]
/-- a message stored into slot s -/
theorem ccells_store (C : Ch) (hC : C.ok) (f s : Nat) (hs : s < 16) (m : Msg) (hm : m.b.length ≤ 64) :
    (ccells C f).take (6 + 66 * s) ++ mcells m ++ (ccells C f).drop (6 + 66 * s + (mcells m).length) = hd C f C.q.length ++ ((ringL f C.q).set s (mcells m)).flatten := by
  have hl := mcells_len m hm
  rw [hl]
  rw [← flatten_set 66 (ringL f C.q) (ringL_each f C.q fun m hm => (hC.fit m hm).1) s (by rw [ringL_len]; exact hs) (mcells m) hl]
  unfold ccells
  rw [List.take_append, List.drop_append, hd_len, List.take_of_length_le (by rw [hd_len]; omega), List.drop_of_length_le (by rw [hd_len]; omega)]
  rw [show 6 + 66 * s - 6 = 66 * s by omega, show 6 + 66 * s + 66 - 6 = 66 * s + 66 by omega]
  simp
theorem ring_push (f : Nat) (q : List Msg) (hf : f < 16) (hq : q.length < 16) (m : Msg) : (ringL f q).set ((f + q.length) % 16) (mcells m) = ringL f (q ++ [m]) := by
  apply List.ext_getElem (by simp [ringL_len])
  intro i h1 h2
  have hi : i < 16 := by simpa [ringL_len] using h2
  rw [List.getElem_set, ringL_get (f := f) (q := q ++ [m])]
  split
  · rename_i e
    congr 1
    unfold slotMsg
    have : (i + 16 - f) % 16 = q.length := by omega
    rw [this]
    simp
  · rename_i e
    rw [ringL_get]
    congr 1
    unfold slotMsg
    have hne : (i + 16 - f) % 16 ≠ q.length := by omega
    rw [List.getD_eq_getElem?_getD, List.getD_eq_getElem?_getD]
    rcases Nat.lt_or_ge ((i + 16 - f) % 16) q.length with c | c
    · rw [List.getElem?_append_left c]
    · rw [List.getElem?_eq_none c, List.getElem?_eq_none (by simp; omega)]
theorem ring_drop (f : Nat) (q : List Msg) (hf : f < 16) (hq : q.length ≤ 16) (hn : q ≠ []) : (ringL f q).set f (mcells zmsg) = ringL ((f + 1) % 16) q.tail := by
  apply List.ext_getElem (by simp [ringL_len])
  intro i h1 h2
  have hi : i < 16 := by simpa [ringL_len] using h2
  obtain ⟨a, r, rfl⟩ : ∃ a r, q = a :: r := by cases q with | nil => exact absurd rfl hn | cons a r => exact ⟨a, r, rfl⟩
  have hr : r.length ≤ 15 := by simpa using hq
  rw [List.getElem_set, ringL_get (f := (f + 1) % 16)]
  split
  · rename_i e
    subst e
    congr 1
    unfold slotMsg
    have : (f + 16 - (f + 1) % 16) % 16 = 15 := by omega
    rw [this, List.getD_eq_getElem?_getD, List.tail_cons, List.getElem?_eq_none (by omega)]
    rfl
  · rename_i e
    rw [ringL_get]
    congr 1
    unfold slotMsg
    have h3 : (i + 16 - f) % 16 = (i + 16 - (f + 1) % 16) % 16 + 1 := by omega
    rw [h3, List.getD_eq_getElem?_getD, List.getD_eq_getElem?_getD, List.getElem?_cons_succ, List.tail_cons]
theorem slot_front (f : Nat) (q : List Msg) (hf : f < 16) (m : Msg) (r : List Msg) (hq : q = m :: r) : slotMsg f q f = m := by
  subst hq
  unfold slotMsg
  have : (f + 16 - f) % 16 = 0 := by omega
  rw [this]
  rfl
theorem slot_nth (f : Nat) (q : List Msg) (hf : f < 16) (hq : q.length ≤ 16) (i : Nat) (hi : i < q.length) : slotMsg f q ((f + i) % 16) = q[i] := by
  unfold slotMsg
  have : ((f + i) % 16 + 16 - f) % 16 = i := by omega
  rw [this, List.getD_eq_getElem?_getD, List.getElem?_eq_getElem hi]
  rfl
/-! what the calls do, plainly -/
def Ch.send (C : Ch) (l : List UInt8) (now : Nat) : Ch × Int :=
  if C.size < l.length then (C, 1)
  else if C.q.length = C.most then
    if C.kind = 1 then (C, 5)
    else if C.kind = 2 then ({ C with lost := if C.lost < 18446744073709551615 then C.lost + 1 else C.lost }, 0)
    else ({ C with q := C.q.tail ++ [⟨l, now⟩] }, 0)
  else ({ C with q := C.q ++ [⟨l, now⟩] }, 0)
def Ch.recv (C : Ch) (now : Nat) : Ch × List UInt8 × Nat × Int :=
  match C.q with
  | [] => (C, [], 0, 6)
  | m :: r => (if C.kind = 0 then C else { C with q := r }, m.b, now - m.at_, 0)
theorem Ch.send_ok (C : Ch) (h : C.ok) (l : List UInt8) (now : Nat) (hn : now ≤ 18446744073709551615) : (C.send l now).1.ok := by
  unfold Ch.send
  split
  · exact h
  rename_i hl
  have hl64 : l.length ≤ 64 := by have := h.size; omega
  split
  · rename_i hm
    split
    · exact h
    split
    · refine ⟨h.kind, h.most1, h.most, h.one, h.size, ?_, h.len, h.fit⟩
      show (if C.lost < 18446744073709551615 then C.lost + 1 else C.lost) ≤ _
      have := h.lost
      split <;> omega
    · refine ⟨h.kind, h.most1, h.most, h.one, h.size, h.lost, ?_, ?_⟩
      · show (C.q.tail ++ [_]).length ≤ C.most
        have := h.len
        have := h.most1
        simp; omega
      · intro m hm'
        rcases List.mem_append.1 hm' with hm' | hm'
        · exact h.fit m (List.mem_of_mem_tail hm')
        · simp at hm'; subst hm'; exact ⟨hl64, hn⟩
  · rename_i hm
    refine ⟨h.kind, h.most1, h.most, h.one, h.size, h.lost, ?_, ?_⟩
    · show (C.q ++ [_]).length ≤ C.most
      have := h.len
      simp; omega
    · intro m hm'
      rcases List.mem_append.1 hm' with hm' | hm'
      · exact h.fit m hm'
      · simp at hm'; subst hm'; exact ⟨hl64, hn⟩
theorem Ch.recv_ok (C : Ch) (h : C.ok) (now : Nat) : (C.recv now).1.ok := by
  unfold Ch.recv
  split
  · exact h
  rename_i m r hq
  show (if C.kind = 0 then C else { C with q := r }).ok
  split
  · exact h
  · refine ⟨h.kind, h.most1, h.most, h.one, h.size, h.lost, ?_, ?_⟩
    · have := h.len; rw [hq] at this; show r.length ≤ C.most; simp at this; omega
    · intro m' hm'; exact h.fit m' (by rw [hq]; exact List.mem_cons_of_mem _ hm')
end Nac
/- The channel's small functions: at, Kind, Waiting, Lost. -/
namespace Go.Proofs.YtiebpmpjclnpeaaDoor
open Go.RowKit Nac
theorem at_calls (w : World) (b f i : Nat) (hf : f < 16) (hi : i ≤ 16) (hc : w.cell? ⟨b, 3, none⟩ = some (.int .i64 f)) :
    Calls Tryd.prog 18 #[.pointer (some ⟨b, 0, none⟩), .int .i64 i] w fun e w' => e = .returned (.pointer (some ⟨b, 6 + 66 * ((f + i) % 16), none⟩)) ∧ w.drew = w' := by
  go_enter Tryd.func18, Tryd.ntmps18
  go_wp2
  go_region
  all_goals
    go_wp2
    go_ret
    refine ⟨?_, rfl⟩
    rw [Nat.mul_comm 66]
    rfl
theorem kind_calls (w : World) (b : Nat) (v : Value) (hc : w.cell? ⟨b, 0, none⟩ = some v) :
    Calls Tryd.prog 74 #[.pointer (some ⟨b, 0, none⟩)] w fun e w' => e = .returned v ∧ w = w' := by
  go_enter Tryd.func74, Tryd.ntmps74
  go_wp2
  go_ret
  exact ⟨rfl, rfl⟩
theorem waiting_calls (w : World) (b : Nat) (v : Value) (hc : w.cell? ⟨b, 4, none⟩ = some v) :
    Calls Tryd.prog 7 #[.pointer (some ⟨b, 0, none⟩)] w fun e w' => e = .returned v ∧ w = w' := by
  go_enter Tryd.func7, Tryd.ntmps7
  go_wp2
  go_ret
  exact ⟨rfl, rfl⟩
end Go.Proofs.YtiebpmpjclnpeaaDoor
/- A message as one value: laid, loaded, stored, copied into. -/
namespace Go.Proofs.YtiebpmpjclnpeaaDoor
open Go.RowKit Nac
theorem infoMsg : (Tryd.prog.info? 62).map (·.size) = some 66 := by kernel_rfl
theorem zeroMsg : ((Tryd.prog.info? 62).bind (·.zero)) = some (.agg (mcells zmsg).toArray) := by kernel_rfl
theorem builtZ : Tryd.prog.built 62 [] = some (mcells zmsg).toArray := by kernel_rfl
def ncells (n now : Int) : List Value := (List.replicate 64 (0 : UInt8)).map bv ++ [.int .i64 n, .int .u64 now]
theorem builtN (n now : Int) : Tryd.prog.built 62 [(1, .int .i64 n), (2, .int .u64 now)] = some (ncells n now).toArray := by kernel_rfl
section
variable {w : World} {ops : Array Oper} {rest : List Oper} {o : Oper} {a : Act} {Q : Exit → Act → World → Prop}
theorem wpList_allocMsg (hg : o.guard = none) (hop : o.op = .alloc 62)
    (h : ∀ w', Blk w' w.heap.size (mcells zmsg) → w.grownBy w' none → wpList Tryd.prog ops Q rest (a.put o.dst (.pointer (some ⟨w.heap.size, 0, none⟩))) w') : wpList Tryd.prog ops Q (o :: rest) a w := by
  refine wpList_plain hg fun K hK => ?_
  have hz : (zeroValue 62).run Tryd.prog w = .ok (.agg (mcells zmsg).toArray) w := by
    have := zeroMsg
    cases hi : Tryd.prog.info? 62 with
    | none => simp [hi] at this
    | some i =>
      simp [hi] at this
      simp [zeroValue, typeInfo, hi, this]
  have hr : (Instr.alloc 62 true (.tuple #[])).run Tryd.prog w = .ok (.pointer (some ⟨w.heap.size, 0, none⟩)) (w.alloc (.cells (mcells zmsg).toArray 62)) := by
    simp [Instr.alloc, hz, newVar, newRow, Value.cells]
  unfold Oper.wp execOp
  simp only [hop, Sem.run_bind, hr, Result.andThen_ok]
  exact hK _ _ (h _ (Blk.new w _ _) (World.grownBy_alloc w _ none))
theorem wpList_zmsg (hg : o.guard = none) (hop : o.op = .build 62 #[]) (h : wpList Tryd.prog ops Q rest (a.put o.dst (.agg (mcells zmsg).toArray)) w) : wpList Tryd.prog ops Q (o :: rest) a w := by
  have hf : Tryd.prog.built 62 ((#[] : Array (Nat × Operand)).map fun (i, x) => (i, a.eval x)).toList = some (mcells zmsg).toArray := by simpa using builtZ
  refine wpList_build hg 62 #[] hop (by rw [hf]; rfl) ?_
  rw [hf]
  exact h
theorem wpList_nmsg (hg : o.guard = none) (x y : Operand) (hop : o.op = .build 62 #[(1, x), (2, y)]) (n now : Int) (hx : a.eval x = .int .i64 n) (hy : a.eval y = .int .u64 now)
    (h : wpList Tryd.prog ops Q rest (a.put o.dst (.agg (ncells n now).toArray)) w) : wpList Tryd.prog ops Q (o :: rest) a w := by
  have hf : Tryd.prog.built 62 ((#[(1, x), (2, y)] : Array (Nat × Operand)).map fun (i, x) => (i, a.eval x)).toList = some (ncells n now).toArray := by simpa [hx, hy] using builtN n now
  refine wpList_build hg 62 #[(1, x), (2, y)] hop (by rw [hf]; rfl) ?_
  rw [hf]
  exact h
theorem wpList_loadMsg (hg : o.guard = none) (x : Operand) (hop : o.op = .load 62 x) (b off : Nat) (cs vs : List Value) (hx : a.eval x = .pointer (some ⟨b, off, none⟩)) (hb : Blk w b cs) (hv : ∃ pre post, cs = pre ++ vs ++ post ∧ pre.length = off) (hl : vs.length = 66)
    (h : wpList Tryd.prog ops Q rest (a.put o.dst (.agg vs.toArray)) w) : wpList Tryd.prog ops Q (o :: rest) a w :=
  wpList_load_mid hg 62 x hop b off hx vs _ (hb.range off vs hv) Tryd.underlying62 rfl (by rw [infoMsg, hl]) h
theorem wpList_storeMsg (hg : o.guard = none) (x y : Operand) (hop : o.op = .store 62 x y) (b off : Nat) (cs vs : List Value) (hx : a.eval x = .pointer (some ⟨b, off, none⟩)) (hy : a.eval y = .agg vs.toArray) (hb : Blk w b cs) (hl : vs.length = 66) (hfit : off + 66 ≤ cs.length) (h1 : ∀ v ∈ vs, v.oneCell' = true) (L : List Value) (hL : cs.take off ++ vs ++ cs.drop (off + vs.length) = L)
    (h : ∀ w', Blk w' b L → w.grownBy w' (some b) → wpList Tryd.prog ops Q rest (a.put o.dst undef) w') : wpList Tryd.prog ops Q (o :: rest) a w :=
  wpList_store_mid hg 62 x y hop b off vs.toArray hx hy (hb.there off _ (by simp; omega)) (by rw [infoMsg]; simp [hl]) (all_oneCell_toArray h1)
    (h _ (by have := hb.setCells vs off (by omega); rw [hL] at this; exact this) (by simpa using grown_setCells b vs off w))
theorem ncells_copy (l : List UInt8) (now : Nat) (hl : l.length ≤ 64) : (ncells l.length now).take 0 ++ l.map bv ++ (ncells l.length now).drop (0 + (l.map bv).length) = mcells ⟨l, now⟩ := by
  have e : (ncells (l.length : Int) (now : Int)).drop (0 + (l.map bv).length) = (List.replicate (64 - l.length) (0 : UInt8)).map bv ++ [.int .i64 l.length, .int .u64 now] := by
    unfold ncells
    rw [Nat.zero_add, List.length_map, List.drop_append, List.length_map, List.length_replicate, Nat.sub_eq_zero_of_le hl, List.drop_zero, ← List.map_drop, List.drop_replicate]
  rw [e]
  simp [mcells, pad]
/-- copy(m.data[:], b) -/
theorem wpList_copyMsg (hg : o.guard = none) (d s : Operand) (hop : o.op = .call { callee := .builtin .copy, args := #[d, s], argTypes := #[40, 40] })
    (g dc : Nat) (hd : a.eval d = .slice (some ⟨g, 0, none⟩) 64 dc) (A : Option Addr) (n c : Nat) (l : List UInt8) (hn : n = l.length) (hs : a.eval s = .slice A n c) (B : Nat) (hr : RB w B A l) (hl : l.length ≤ 64) (now : Nat) (hb : Blk w g (ncells l.length now))
    (h : ∀ w', Blk w' g (mcells ⟨l, now⟩) → w.grownBy w' (some g) → wpList Tryd.prog ops Q rest (a.put o.dst (goInt l.length)) w') : wpList Tryd.prog ops Q (o :: rest) a w := by
  subst hn
  have hlen : (ncells (l.length : Int) (now : Int)).length = 66 := by simp [ncells]
  have hi1 : (Tryd.prog.info? 5).map (·.size) = some 1 := by kernel_rfl
  have hK : ∀ w', w' = w.setCells g 0 (l.map bv) → Blk w' g (mcells ⟨l, now⟩) ∧ w.grownBy w' (some g) := by
    rintro w' rfl
    refine ⟨?_, grown_setCells _ _ _ _⟩
    have := hb.setCells (l.map bv) 0 (by rw [hlen]; simp; omega)
    rw [ncells_copy l now hl] at this
    exact this
  have hmin : Nat.min l.length 64 = l.length := Nat.min_eq_left hl
  have hrun : (Builtin.copy_ #[40, 40] o.type #[.slice (some ⟨g, 0, none⟩) 64 dc, .slice A l.length c]).run Tryd.prog w = .ok (goInt l.length) (w.setCells g 0 (l.map bv)) := by
    by_cases hne : l = []
    · subst hne
      exact run_copy_none w _ _ _ 5 _ A 64 dc 0 c Tryd.underlying40 hi1 (by rfl)
    · obtain ⟨b', o', rfl, _, hc⟩ := hr hne
      have := run_copy_cells (P := Tryd.prog) w 40 40 o.type 5 g 0 64 dc ⟨b', o', none⟩ l.length c (l.map bv) Tryd.underlying40 hi1 (by rw [List.length_map, hmin])
        (fun j v hv => by
          have hj : j < l.length := by simpa using (List.getElem?_eq_some_iff.1 hv).1
          rw [Addr.add_mid, hc j hj]
          simp [hj] at hv
          rw [← hv]; rfl)
        (fun j hj => (hb.there 0 66 (by omega) j (by simp at hj; omega)).1) (fun j hj => (hb.there 0 66 (by omega) j (by simp at hj; omega)).2) (bv_oneCell l)
      rw [List.length_map] at this
      exact this
  refine wpList_plain hg fun K hKK => ?_
  obtain ⟨h1, h2⟩ := hK _ rfl
  unfold Oper.wp
  simp [execOp, hop, resolve, invoke, builtin, hd, hs, hrun, Result.andThen]
  exact hKK _ _ (h _ h1 h2)
end
end Go.Proofs.YtiebpmpjclnpeaaDoor
/- remove: the first message goes. -/
namespace Go.Proofs.YtiebpmpjclnpeaaDoor
open Go.RowKit Nac
set_option maxHeartbeats 2000000 in
theorem remove_calls (w : World) (b : Nat) (C : Ch) (f : Nat) (hC : C.ok) (hf : f < 16) (hq : C.q ≠ []) (h : Blk w b (ccells C f)) :
    Calls Tryd.prog 17 #[.pointer (some ⟨b, 0, none⟩)] w fun e w' => e = .returned (.tuple #[]) ∧ Blk w' b (ccells { C with q := C.q.tail } ((f + 1) % 16)) ∧ w.grownBy w' (some b) := by
  have h3 : w.cell? ⟨b, 3, none⟩ = some (.int .i64 f) := h.cell rfl
  have hlen := ccells_len C hC f
  have hq16 : C.q.length ≤ 16 := Nat.le_trans hC.len hC.most
  have hq1 : 1 ≤ C.q.length := by cases hh : C.q with | nil => exact absurd hh hq | cons => simp
  obtain ⟨n, hn⟩ : ∃ n, n = C.q.length := ⟨_, rfl⟩
  have hst := ccells_store C hC f f hf zmsg (by simp [zmsg])
  rw [ring_drop f C.q hf hq16 hq, ← hn] at hst
  obtain ⟨R, hR⟩ : ∃ R, R = (ringL ((f + 1) % 16) C.q.tail).flatten := ⟨_, rfl⟩
  rw [← hR] at hst
  have hfin : ccells { C with q := C.q.tail } ((f + 1) % 16) = hd C ((f + 1) % 16) (n - 1) ++ R := by
    unfold ccells
    rw [hR]
    simp [hd, hn]
  rw [hfin]
  have hn16 : n ≤ 16 := by omega
  have hn1 : 1 ≤ n := by omega
  have HST := Lib.hid hst; clear hst
  have HN := Lib.hid hn; clear hn
  clear hR hfin hq hq16 hq1
  go_enter Tryd.func17, Tryd.ntmps17
  go_wp2_with fail
  refine (at_calls w b f 0 hf (by omega) h3).mono ?_
  rintro e w' ⟨rfl, rfl⟩
  rw [Nat.add_zero, Nat.mod_eq_of_lt hf]
  have hd0 : Blk w.drew b (ccells C f) := h
  go_wp2_with (first
    | ((with_reducible show wpList _ _ _ (Oper.mk _ (Op.build _ _) _ _ _ _ :: _) _ _); refine wpList_zmsg rfl rfl ?_)
    | ((with_reducible show wpList _ _ _ (Oper.mk _ (Op.store 62 _ _) _ _ _ _ :: _) _ _); refine wpList_storeMsg rfl _ _ rfl b (6 + 66 * f) (ccells C f) (mcells zmsg) rfl rfl hd0 (mcells_len _ (by simp [zmsg])) (by omega) (mcells_one _) (hd C f n ++ R) HST.out ?_))
  intro w1 hb1 hg1
  have c3 : w1.cell? ⟨b, 3, none⟩ = some (.int .i64 f) := hb1.cell rfl
  have c4 : w1.cell? ⟨b, 4, none⟩ = some (.int .i64 n) := hb1.cell rfl
  have f3 := hb1.free 3
  have f4 := hb1.free 4
  have G := Lib.hid (grown_of_drew hg1); clear hg1
  have HB := Lib.hid hb1; clear hb1 h hd0 h3
  go_wp2
  go_end0
  refine ⟨rfl, ?_, (G.out.trans (grown_setCell _ _ _)).trans (grown_setCell _ _ _)⟩
  have := (HB.out.setCell 3 (.int .i64 (((f : Int) + 1) % 16))).setCell 4 (.int .i64 ((n : Int) - 1))
  have e : ((hd C f n ++ R).set 3 (.int .i64 (((f : Int) + 1) % 16))).set 4 (.int .i64 ((n : Int) - 1)) = hd C ((f + 1) % 16) (n - 1) ++ R := by
    rw [show ((f : Int) + 1) % 16 = (((f + 1) % 16 : Nat) : Int) by omega, show (n : Int) - 1 = ((n - 1 : Nat) : Int) by omega]
    rfl
  rw [e] at this
  exact this
end Go.Proofs.YtiebpmpjclnpeaaDoor
