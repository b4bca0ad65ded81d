/- PvmConfined: the walk. -/
import Derived.Test.YtogbhbajnegfeaaDoorPvmChecked
namespace Go.Proofs.YtogbhbajnegfeaaDoor
open Go.RowKit Nac Nac.Pvm
theorem RIn.take {w : World} {B : Nat} {A : Option Addr} {l : List Ins} (h : RIn w B A l) (k : Nat) : RIn w B A (l.take k) := fun hn => by
  obtain ⟨b, o, hA, hb, hc⟩ := h (by rintro rfl; simp at hn)
  refine ⟨b, o, hA, hb, fun j hj => ?_⟩
  have := hc j (by simp at hj; omega)
  rw [List.getElem_take]
  exact this
/-- the machine's cell, before the shortened one is stored -/
structure FJ (w0 : World) (B3 : Nat) (m : Mach) (A : Option Addr) (c : Nat) (w : World) : Prop where
  bel : Below w0.heap.size w0 w
  blk : Blk w B3 (mcs m A c)
theorem FJ.below {w0 w w' : World} {B3 : Nat} {m : Mach} {A : Option Addr} {c : Nat} (h : FJ w0 B3 m A c w) (hb : Below w.heap.size w w') : FJ w0 B3 m A c w' :=
  ⟨h.bel.trans (hb.mono h.bel.size), h.blk.below hb h.blk.lt⟩
theorem _root_.Go.Proofs.YtogbhbajnegfeaaDoor.Hdl.drewN {w : World} (h : Hdl w) (n : Nat) : Hdl (w.drewN n) := h
theorem take_len (l : List Ins) (n : Nat) (hn : n = l.length) : (l.take 130).length = min 130 n := by rw [List.length_take, hn]
def RNe (A : Option Addr) (n : Nat) : Prop := n ≠ 0 → A ≠ none
theorem rwd_ne {w : World} {B : Nat} {A : Option Addr} {l : List Int} (h : RWd w B A l) : l.length ≠ 0 → A ≠ none := fun hn => by
  obtain ⟨b, o, rfl, _⟩ := h (by rintro rfl; simp at hn)
  simp
theorem rin_ne {w : World} {B : Nat} {A : Option Addr} {l : List Ins} (h : RIn w B A l) : l.length ≠ 0 → A ≠ none := fun hn => by
  obtain ⟨b, o, rfl, _⟩ := h (by rintro rfl; simp at hn)
  simp
def ConfRel (w0 : World) (a b : List Int) (base : Nat) (top : Nat) (s7 s8 : Value) (wr : World) : Prop :=
  ∃ i : Nat, i ≤ top ∧ s8 = .int .i64 i ∧ s7 = .int .i64 (base + diff a b i : Nat) ∧ ∃ N, wr = w0.drewN N
theorem diff_le (a b : List Int) : ∀ k, diff a b k ≤ k
  | 0 => Nat.le_refl _
  | k + 1 => by have := diff_le a b k; rw [diff]; split <;> omega
set_option maxRecDepth 100000 in
set_option maxHeartbeats 2000000 in
theorem PvmConfined_calls (w : World) (hd : Hdl w) (Ac : Option Addr) (cc : Nat) (l : List Ins) (hR : RIn w w.heap.size Ac l) (hlc : l.length ≤ cc) (hl8 : l.length ≤ 140737488351232)
    (A : Option Addr) (c : Nat) (m : Mach) (hl : m.r.length = 8) (hmem : RWd w w.heap.size A m.mem) (hmc : m.mem.length ≤ c) (hm8 : m.mem.length ≤ 17592186044415) :
    Calls Tryd.prog 4 #[.slice Ac l.length cc, mv m A c] w (RetTrue w) := by
  have HD := Lib.hid hd
  have HR := Lib.hid hR
  have HL := Lib.hid hl
  have HMM := Lib.hid hmem
  have HMC := Lib.hid hmc
  have HLC := Lib.hid hlc
  have hsl := short_calls (A := Ac) (n := l.length) (c := cc) (hA := rin_ne hR) (hc := hlc) (hn8 := hl8)
  have hsf := few_calls (A := A) (c := c) (m := m) (hl := hl) (hA := rwd_ne hmem) (hc := hmc) (hm8 := by omega)
  obtain ⟨n, hn⟩ : ∃ n, n = l.length := ⟨_, rfl⟩
  have htl := take_len l n hn
  obtain ⟨ls, hls⟩ : ∃ ls, ls = l.take 130 := ⟨_, rfl⟩
  have HLS : Hid (ls.length ≤ 130) := Lib.hid (by rw [hls]; simp; omega)
  have HRS : Hid (RIn w w.heap.size Ac ls) := Lib.hid (by rw [hls]; exact hR.take 130)
  rw [← hn] at hsl hl8 ⊢
  rw [← hls] at htl
  have HSL := Lib.hid hsl
  have HSF := Lib.hid hsf
  have HTL := Lib.hid htl
  clear hd hR hl hmem hmc hlc hsl hsf hn hls htl
  go_enter Tryd.func4, Tryd.ntmps4
  go_wp2_with ((with_reducible show wpList _ _ _ (Oper.mk _ (Op.box _ _) _ _ _ _ :: _) _ _); refine wpList_boxS rfl _ rfl (mcs m A c) rfl ?_)
  intro w1 hb1 hg1 hs1
  obtain ⟨B3, hB3⟩ : ∃ B3, B3 = w.heap.size := ⟨_, rfl⟩
  rw [← hB3] at hb1 hs1 ⊢
  have HFJ : Hid (FJ w B3 m A c w1.drew) := Lib.hid ⟨(gbelow hg1).drew, hb1⟩
  have HE3 := Lib.hid hB3
  clear hb1 hg1 hs1 hB3
  go_wp2_with fail
  have CS : Hid (∀ (ww : World), FJ w B3 m A c ww → Calls Tryd.prog 11 #[.slice Ac n cc] ww fun e w' => ∃ v, e = .returned v ∧ v = .slice Ac ls.length cc ∧ FJ w B3 m A c w') := Lib.hid fun ww hj => (HSL.out ww).mono (by
    rintro e w' ⟨rfl, rfl⟩
    exact ⟨_, rfl, by rw [HTL.out], hj⟩)
  have CF : Hid (∀ (ww : World), FJ w B3 m A c ww → Calls Tryd.prog 12 #[mv m A c] ww fun e w' => ∃ v, e = .returned v ∧ v = mv (fewM m) A c ∧ FJ w B3 m A c w') := Lib.hid fun ww hj => (HSF.out ww).mono (by
    rintro e w' ⟨rfl, hb⟩
    exact ⟨_, rfl, rfl, hj.below hb⟩)
  have HLF : Hid ((fewM m).r.length = 8) := Lib.hid HL.out
  have HM66 : Hid ((fewM m).mem.length ≤ 66) := Lib.hid (by show (m.mem.take 66).length ≤ 66; simp; omega)
  have HRF : Hid (RWd w w.heap.size A (fewM m).mem) := Lib.hid (HMM.out.take 66)
  refine region_tail 5 [.slice Ac n cc, .slice Ac ls.length cc, mv m A c, mv (fewM m) A c, .slice Ac ls.length cc] [some 12, some 13, some 14, some 15, some 0] (fun _ w' => FJ w B3 m A c w') (by kernel_rfl) (by kernel_rfl) (by kernel_rfl) (by kernel_rfl) rfl rfl HFJ.out (fun ii hii => ?_) ?_
  · match ii, hii with
    | 0, _ => exact vstep_first rfl (vwant_none rfl) (fun _ _ h => h) 0 (Or.inl rfl) (by kernel_rfl) rfl
    | 1, _ => exact vstep_call rfl (vwant_none rfl) _ _ _ rfl (enters_of Tryd.func11 (by kernel_rfl) rfl) (fun LL aa ww cc9 => by have e0 : aa.tmps.getD 12 undef = .slice Ac n cc := cc9.slot 0 12 (by kernel_rfl) rfl; simp only [List.map_toArray, List.map_cons, List.map_nil, Act.eval, e0]; exact CS.out ww cc9.world)
    | 2, _ => exact vstep_loadS sMach rfl (vwant_none rfl) (fun _ _ h => h) 3 rfl B3 (mcs m A c) (mcs_len HL.out) (fun L a w c => (c.orig 3 (by kernel_rfl)).trans rfl) (fun _ _ j => j.blk) rfl
    | 3, _ => exact vstep_call rfl (vwant_none rfl) _ _ _ rfl (enters_of Tryd.func12 (by kernel_rfl) rfl) (fun LL aa ww cc9 => by have e0 : aa.tmps.getD 14 undef = mv m A c := cc9.slot 2 14 (by kernel_rfl) rfl; simp only [List.map_toArray, List.map_cons, List.map_nil, Act.eval, e0]; exact CF.out ww cc9.world)
    | 4, _ => exact vstep_copy rfl (vwant_none rfl) (fun _ _ h => h) 13 (Or.inr rfl) 1 (by kernel_rfl) rfl (fun _ h => h)
    | n + 5, h => exact absurd h (by show ¬ (n + 5 < 5); omega)
  · intro L9 w2 hall hJ
    have HJ := Lib.hid hJ
    have HMW : Hid (∀ w', Below w.heap.size w w' → RWd w' w'.heap.size A (fewM m).mem) := Lib.hid fun w' hb => (HRF.out.below hb).mono hb.size
    clear hJ hall CS CF HFJ HSL HSF HTL HMM HRF HL HR HMC HLC
    simp only [List.zip_cons_cons, List.zip_nil_right, putsL]
    go_simp
    go_wp2_with ((with_reducible show wpList _ _ _ (Oper.mk _ (Op.store 27 _ _) _ _ _ _ :: _) _ _); refine wpList_storeS sMach rfl _ _ rfl B3 (mcs m A c) (mcs (fewM m) A c) rfl rfl HJ.out.blk (mcs_len HLF.out) (mcs_len HLF.out) (mcs_one _ _ _) ?_)
    intro w3 hb3 hg3
    have HB3 := Lib.hid hb3
    have HW3 : Hid (Below w.heap.size w w3) := Lib.hid (HJ.out.bel.grown hg3 HJ.out.bel.size (fun j e => by injection e with e; have := HE3.out; omega))
    obtain ⟨m1, hm1⟩ : ∃ m1, m1 = fewM m := ⟨_, rfl⟩
    rw [← hm1] at HB3 HLF HM66 HMW
    have HLF' := HLF
    clear hb3 hg3 HJ hm1
    go_wp2_with ((with_reducible show wpList _ _ _ (Oper.mk _ (Op.load 27 _) _ _ _ _ :: _) _ _); refine wpList_loadS sMach rfl _ rfl B3 _ rfl HB3.out (mcs_len HLF.out) ?_)
    refine (Step_calls w3 (HD.out.below HW3.out HD.out.lt) A c m1 HLF.out (HMW.out _ HW3.out) (by have := HM66.out; omega) Ac cc ls ((HRS.out.below HW3.out).mono HW3.out.size) (by have := HLS.out; omega)).mono ?_
    rintro e w5 ⟨A5, c5, rfl, hl5, ho5, hb5⟩
    have hsw := step_ways ls m1
    have hdf := step_diff ls m1 8 m1.mem.length
    have hml := (stepM_len ls m1).2
    obtain ⟨m', k', z', hx⟩ : ∃ m' k' z', stepM ls m1 = (m', k', z') := ⟨_, _, _, rfl⟩
    rw [hx] at hsw hdf hml hl5 ho5 ⊢
    simp only at hsw hdf hml hl5 ho5 ⊢
    have HO5 := Lib.hid ho5
    have HL5 := Lib.hid hl5
    have HML := Lib.hid hml
    have HB5 := Lib.hid (HB3.out.below hb5 HB3.out.lt)
    have HW5 : Hid (Below w.heap.size w w5) := Lib.hid (HW3.out.trans (hb5.mono HW3.out.size))
    have H53 : Hid (B3 < w5.heap.size) := Lib.hid HB5.out.lt
    have HSW := Lib.hid hsw
    have HDF := Lib.hid hdf
    clear hx hsw hdf hml hl5 ho5 hb5 HB3 HW3 HLS HRS HLF
    go_wp2_with ((with_reducible show wpList _ _ _ (Oper.mk _ (Op.alloc 27) _ _ _ _ :: _) _ _); refine wpList_allocS _ zMach rfl rfl ?_)
    intro w6 hb6 hg6 hs6
    obtain ⟨B9, hB9⟩ : ∃ B9, B9 = w5.heap.size := ⟨_, rfl⟩
    rw [← hB9] at hb6 hs6 ⊢
    have HB6 := Lib.hid hb6
    have HG6 := Lib.hid (gbelow hg6)
    have HE9 := Lib.hid (And.intro hB9 hs6)
    clear hb6 hg6 hs6 hB9
    go_wp2_with ((with_reducible show wpList _ _ _ (Oper.mk _ (Op.alloc 38) _ _ _ _ :: _) _ _); refine wpList_allocS _ zEv rfl rfl ?_)
    intro w7 hb7 hg7 hs7
    obtain ⟨B10, hB10⟩ : ∃ B10, B10 = w6.heap.size := ⟨_, rfl⟩
    rw [← hB10] at hb7 hs7 ⊢
    have HB7' := Lib.hid hb7
    have HG7 := Lib.hid (gbelow hg7)
    have HB67 := Lib.hid (HB6.out.gn hg7)
    have HE10 := Lib.hid (And.intro hB10 hs7)
    clear hb7 hg7 hs7 hB10
    go_wp2_with ((with_reducible show wpList _ _ _ (Oper.mk _ (Op.store 27 _ _) _ _ _ _ :: _) _ _); refine wpList_storeS sMach rfl _ _ rfl B9 (mcs zM none 0) (mcs m' A5 c5) rfl rfl HB67.out rfl (mcs_len HL5.out) (mcs_one _ _ _) ?_)
    intro w8 hb8 hg8
    have HB8 := Lib.hid hb8
    have HG8 := Lib.hid hg8
    clear hb8 hg8
    have HB78 : Hid (Blk w8 B10 (ecs 0 0)) := Lib.hid (HB7'.out.grown HG8.out (fun e => by injection e with e; have := HE9.out; have := HE10.out; omega))
    go_wp2_with ((with_reducible show wpList _ _ _ (Oper.mk _ (Op.store 38 _ _) _ _ _ _ :: _) _ _); refine wpList_storeS sEv rfl _ _ rfl B10 (ecs 0 0) (ecs k' z') rfl rfl HB78.out rfl rfl (ecs_one _ _) ?_)
    intro w9 hb9 hg9
    obtain ⟨e1, e2⟩ := HE9.out
    obtain ⟨e3, e4⟩ := HE10.out
    have e5 := H53.out
    have HM9 : Hid (Blk w9 B9 (mcs m' A5 c5)) := Lib.hid (HB8.out.grown hg9 (fun e => by injection e; omega))
    have HE9' := Lib.hid hb9
    have b57 : Below w5.heap.size w5 w7 := HG6.out.trans (HG7.out.mono HG6.out.size)
    have b59 : Below w5.heap.size w5 w9 := (b57.grown HG8.out b57.size (fun j e => by injection e; omega)).grown hg9 (Nat.le_trans b57.size HG8.out.size) (fun j e => by injection e; omega)
    have HQ9 : Hid (Blk w9 B3 (mcs m1 A c)) := Lib.hid (HB5.out.below b59 HB5.out.lt)
    have HO9 := Lib.hid (HO5.out.rw.below b59)
    have HW9 : Hid (Below w.heap.size w w9) := Lib.hid (HW5.out.trans (b59.mono HW5.out.size))
    have HA9 : Hid (RWd w9 w9.heap.size A m1.mem) := Lib.hid (HMW.out _ HW9.out)
    clear hb9 hg9 b57 b59 e1 e2 e3 e4 e5 HB8 HG8 HB78 HB7' HG7 HB67 HE10 HE9 HB6 HG6 HB5 HO5 HW5 H53 HMW
    obtain ⟨nm, hnm⟩ : ∃ nm, nm = m1.mem.length := ⟨_, rfl⟩
    have c9x : w9.cell? ⟨B9, 9, none⟩ = some (.slice A5 nm c5) := by rw [hnm, ← HML.out]; exact HM9.out.cell (mcs_mem HL5.out)
    have c9m : w9.cell? ⟨B3, 9, none⟩ = some (.slice A nm c) := by rw [hnm]; exact HQ9.out.cell (mcs_mem HLF'.out)
    have HN := Lib.hid hnm
    have h66 : nm ≤ 66 := by rw [hnm]; exact HM66.out
    clear hnm HM66
    go_wp2
    go_loopw [7, 8] (fun s7 s8 wr => ConfRel w9 m'.r m1.r 0 8 s7 s8 wr) (fun _ s8 _ => 8 - (intOf s8).toNat)
    case atStart => exact ⟨0, by omega, rfl, rfl, 0, rfl⟩
    case round =>
      obtain ⟨i, hi, rfl, rfl, N, rfl⟩ := hrel
      have hdle := diff_le m'.r m1.r i
      by_cases hlt : i < 8
      · have r1 : w9.cell? ⟨B9, 1 + i, none⟩ = some (.int .i64 (m'.reg i)) := HM9.out.cell (mcs_reg HL5.out hlt)
        have r2 : w9.cell? ⟨B3, 1 + i, none⟩ = some (.int .i64 (m1.reg i)) := HQ9.out.cell (mcs_reg HLF'.out hlt)
        obtain ⟨ra, hra⟩ : ∃ ra, ra = m'.reg i := ⟨_, rfl⟩
        obtain ⟨rb, hrb⟩ : ∃ rb, rb = m1.reg i := ⟨_, rfl⟩
        have hds : diff m'.r m1.r (i + 1) = diff m'.r m1.r i + if ra = rb then 0 else 1 := by rw [hra, hrb]; rfl
        rw [← hra] at r1
        rw [← hrb] at r2
        obtain ⟨dd, hdd⟩ : ∃ dd, dd = diff m'.r m1.r i := ⟨_, rfl⟩
        rw [← hdd] at hds hdle ⊢
        have HDS := Lib.hid hds
        have hi2 : (i : Int) < 8 := by omega
        clear hra hrb hds hdd
        by_cases heq : ra = rb
        · have HDS' : Hid (diff m'.r m1.r (i + 1) = dd) := Lib.hid (by rw [HDS.out, if_pos heq]; rfl)
          subst heq
          clear HDS
          go_wp2
          go_quiet (fail)
          go_wp2
          go_roundw
          case rel => exact ⟨i + 1, by omega, by go_num, by rw [HDS'.out], _, rfl⟩
          case measure => simp [intOf]; omega
        · have HDS' : Hid (diff m'.r m1.r (i + 1) = dd + 1) := Lib.hid (by rw [HDS.out, if_neg heq])
          have hb1 : (ra == rb) = false := by simpa using heq
          have hb2 : (ra != rb) = true := by simpa using heq
          clear HDS heq
          go_wp2
          go_quiet (fail)
          go_wp2
          go_roundw
          case rel => exact ⟨i + 1, by omega, by go_num, by rw [HDS'.out]; go_num, _, rfl⟩
          case measure => simp [intOf]; omega
      · have hi8 : i = 8 := by omega
        subst hi8
        clear hlt hi
        obtain ⟨d8, hd8⟩ : ∃ d8, d8 = diff m'.r m1.r 8 := ⟨_, rfl⟩
        rw [← hd8] at hdle ⊢
        have HD8 := Lib.hid hd8
        clear hd8
        go_wp2
        obtain ⟨wb, hwb⟩ : ∃ wb : World, wb = w9.drewN N := ⟨_, rfl⟩
        rw [← hwb]
        have c9x' : wb.cell? ⟨B9, 9, none⟩ = some (.slice A5 nm c5) := by rw [hwb]; exact c9x
        have c9m' : wb.cell? ⟨B3, 9, none⟩ = some (.slice A nm c) := by rw [hwb]; exact c9m
        have HMB : Hid (Blk wb B9 (mcs m' A5 c5)) := Lib.hid (by rw [hwb]; exact HM9.out)
        have HQB : Hid (Blk wb B3 (mcs m1 A c)) := Lib.hid (by rw [hwb]; exact HQ9.out)
        have HEB : Hid (Blk wb B10 (ecs k' z')) := Lib.hid (by rw [hwb]; exact HE9'.out)
        have HXB : Hid (RWd wb w5.heap.size A5 m'.mem) := Lib.hid (by rw [hwb]; exact HO9.out)
        have HYB : Hid (RWd wb w9.heap.size A m1.mem) := Lib.hid (by rw [hwb]; exact HA9.out)
        have HWB : Hid (Below w.heap.size w wb) := Lib.hid (by rw [hwb]; exact below_drewN' HW9.out N)
        clear hwb
        go_loopw [7, 9] (fun s7 s9 wr => ConfRel wb m'.mem m1.mem d8 nm s7 s9 wr) (fun _ s9 _ => nm - (intOf s9).toNat)
        case atStart => exact ⟨0, by omega, rfl, by simp [diff], 0, rfl⟩
        case round =>
          obtain ⟨i, hi, rfl, rfl, N2, rfl⟩ := hrel
          have hdle2 := diff_le m'.mem m1.mem i
          by_cases hlt : i < nm
          · have him : i < m'.mem.length := by rw [HML.out, ← HN.out]; exact hlt
            have him2 : i < m1.mem.length := by rw [← HN.out]; exact hlt
            obtain ⟨ba, oa, hA, _, hc1⟩ := HXB.out.get him
            obtain ⟨bb, ob, hA', _, hc2⟩ := HYB.out.get him2
            subst hA
            subst hA'
            obtain ⟨ra, hra⟩ : ∃ ra, ra = m'.mem[i] := ⟨_, rfl⟩
            obtain ⟨rb, hrb⟩ : ∃ rb, rb = m1.mem[i] := ⟨_, rfl⟩
            have hds : diff m'.mem m1.mem (i + 1) = diff m'.mem m1.mem i + if ra = rb then 0 else 1 := by
              rw [hra, hrb, diff]
              simp [List.getD, him, him2]
            rw [← hra] at hc1
            rw [← hrb] at hc2
            obtain ⟨dd, hdd⟩ : ∃ dd, dd = diff m'.mem m1.mem i := ⟨_, rfl⟩
            rw [← hdd] at hds hdle2 ⊢
            have HDS := Lib.hid hds
            clear hra hrb hds hdd him him2 HXB HYB
            by_cases heq : ra = rb
            · have HDS' : Hid (diff m'.mem m1.mem (i + 1) = dd) := Lib.hid (by rw [HDS.out, if_pos heq]; rfl)
              subst heq
              clear HDS
              go_wp2
              go_quiet (fail)
              go_wp2
              go_roundw
              case rel => exact ⟨i + 1, by omega, by go_num, by rw [HDS'.out], _, rfl⟩
              case measure => simp [intOf]; omega
            · have HDS' : Hid (diff m'.mem m1.mem (i + 1) = dd + 1) := Lib.hid (by rw [HDS.out, if_neg heq])
              have hb1 : (ra == rb) = false := by simpa using heq
              have hb2 : (ra != rb) = true := by simpa using heq
              clear HDS heq
              go_wp2
              go_quiet (fail)
              go_wp2
              go_roundw
              case rel => exact ⟨i + 1, by omega, by go_num, by rw [HDS'.out]; go_num, _, rfl⟩
              case measure => simp [intOf]; omega
          · have hin : i = nm := by omega
            subst hin
            obtain ⟨dn, hdn⟩ : ∃ dn, dn = d8 + diff m'.mem m1.mem i := ⟨_, rfl⟩
            have hd1 : dn ≤ 1 := by rw [hdn, HD8.out, HN.out]; exact HDF.out
            have hdz : m'.r = m1.r → m'.mem = m1.mem → dn = 0 := fun h1 h2 => by rw [hdn, HD8.out, h1, h2, diff_self, diff_self]
            rw [← hdn]
            have HDZ := Lib.hid hdz
            clear hdn hdz hdle2 hlt HD8 HDF HXB HYB
            have t0 : wb.cell? ⟨B10, 0, none⟩ = some (.int .i64 k') := HEB.out.cell rfl
            have t1 : wb.cell? ⟨B10, 1, none⟩ = some (.int .i64 z') := HEB.out.cell rfl
            have u0 : wb.cell? ⟨B9, 10, none⟩ = some (.int .i64 m'.state) := HMB.out.cell (mcs_state HL5.out)
            have u1 : wb.cell? ⟨B9, 11, none⟩ = some (.int .i64 m'.trap) := HMB.out.cell (mcs_trap HL5.out)
            have u2 : wb.cell? ⟨B9, 0, none⟩ = some (.int .i64 m'.place) := HMB.out.cell rfl
            have v0 : wb.cell? ⟨B3, 10, none⟩ = some (.int .i64 m1.state) := HQB.out.cell (mcs_state HLF'.out)
            have v2 : wb.cell? ⟨B3, 0, none⟩ = some (.int .i64 m1.place) := HQB.out.cell rfl
            obtain ⟨kq, hkq⟩ : ∃ kq, kq = k' := ⟨_, rfl⟩
            obtain ⟨sx, hsx⟩ : ∃ sx, sx = m'.state := ⟨_, rfl⟩
            obtain ⟨sm, hsm⟩ : ∃ sm, sm = m1.state := ⟨_, rfl⟩
            obtain ⟨tx, htx⟩ : ∃ tx, tx = m'.trap := ⟨_, rfl⟩
            obtain ⟨px, hpx⟩ : ∃ px, px = m'.place := ⟨_, rfl⟩
            obtain ⟨pm, hpm⟩ : ∃ pm, pm = m1.place := ⟨_, rfl⟩
            have hway : (sx = sm ∧ kq = 0) ∨ (sx = sm ∧ (kq == 0) = false ∧ dn = 0) ∨ (sm = 0 ∧ kq = 2 ∧ sx = 1 ∧ dn = 0) ∨ (sm = 0 ∧ kq = 3 ∧ sx = 2 ∧ tx = z' ∧ px = pm ∧ dn = 0) := by
              rw [hsx, hsm, htx, hpx, hpm, hkq]
              rcases HSW.out with ⟨h1, h2⟩ | ⟨h1, h2, h3, h4, h5⟩ | ⟨h1, h2, h3, h4, h5, h6, h7⟩
              · by_cases h0 : k' = 0
                · exact .inl ⟨h1, h0⟩
                · rcases h2 with h2 | ⟨h2, h3⟩
                  · exact absurd h2 h0
                  · exact .inr (.inl ⟨h1, by simpa using h0, HDZ.out h2 h3⟩)
              · exact .inr (.inr (.inl ⟨h1, h2, h3, HDZ.out h4 h5⟩))
              · exact .inr (.inr (.inr ⟨h1, h2, h3, h4, h5, HDZ.out h6 h7⟩))
            rw [← hkq] at t0
            rw [← hsx] at u0
            rw [← hsm] at v0
            rw [← htx] at u1
            rw [← hpx] at u2
            rw [← hpm] at v2
            clear hkq hsx hsm htx hpx hpm HSW HDZ
            rcases hway with ⟨rfl, rfl⟩ | ⟨rfl, hk0, rfl⟩ | ⟨rfl, rfl, rfl, rfl⟩ | ⟨rfl, rfl, rfl, rfl, rfl, rfl⟩
            all_goals
              go_wp2_with fail
              refine (awake_calls _ ((HD.out.below HWB.out HD.out.lt).drewN N2)).mono ?_
              rintro e w4 ⟨rfl, hb4⟩
              have HB4 : Hid (Below w.heap.size w w4) := Lib.hid ((below_drewN' HWB.out N2).trans (hb4.mono (below_drewN' HWB.out N2).size))
              clear hb4
              go_wp2
              go_ret
              exact ⟨rfl, HB4.out⟩
end Go.Proofs.YtogbhbajnegfeaaDoor
