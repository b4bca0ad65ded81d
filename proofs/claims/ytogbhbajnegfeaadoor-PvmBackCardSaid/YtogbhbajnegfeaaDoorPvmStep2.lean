/- pvm: Step. -/
import Derived.Test.YtogbhbajnegfeaaDoorPvmVal
namespace Go.Proofs.YtogbhbajnegfeaaDoor
open Go.RowKit Nac Nac.Pvm
def RetStep (w : World) (x : Mach × Int × Int) (e : Ending) (w' : World) : Prop :=
  ∃ A c, e = .returned (.tuple #[mv x.1 A c, evv x.2.1 x.2.2]) ∧ x.1.r.length = 8 ∧ OW w' w.heap.size A c x.1.mem ∧ Below w.heap.size w w'
theorem gbelow {w w' : World} (h : w.grownBy w' none) : Below w.heap.size w w' := (Below.refl _ _).grown h (Nat.le_refl _) (fun j e => by cases e)
theorem _root_.Nac.Blk.gn {w w' : World} {b : Nat} {cs : List Value} (h : Blk w b cs) (hg : w.grownBy w' none) : Blk w' b cs := h.grown hg (by simp)
set_option maxHeartbeats 1000000 in
theorem Step_calls (w : World) (hd : Hdl w) (A : Option Addr) (c : Nat) (m : Mach) (hl : m.r.length = 8) (hmem : RWd w w.heap.size A m.mem) (hm8 : m.mem.length ≤ 17592186044415) (Ac : Option Addr) (cc : Nat) (l : List Ins) (hR : RIn w w.heap.size Ac l) (hl8 : l.length ≤ 140737488351232) :
    Calls Tryd.prog 13 #[.slice Ac l.length cc, mv m A c] w (RetStep w (stepM l m)) := by
  have HR := Lib.hid hR
  have HD := Lib.hid hd
  have HMW := Lib.hid hmem
  have HL := Lib.hid hl
  clear hR hd hmem hl
  go_enter Tryd.func13, Tryd.ntmps13
  go_wp2_with ((with_reducible show wpList _ _ _ (Oper.mk _ (Op.box _ _) _ _ _ _ :: _) _ _); refine wpList_boxS rfl _ rfl (mcs m A c) rfl ?_)
  intro w1 hb1 hg1 hs1
  have HB1 := Lib.hid hb1
  have HG1 := Lib.hid hg1
  have HS1 := Lib.hid hs1
  clear hb1 hg1 hs1
  go_wp2_with ((with_reducible show wpList _ _ _ (Oper.mk _ (Op.alloc 27) _ _ _ _ :: _) _ _); refine wpList_allocS _ zMach rfl rfl ?_)
  intro w2 hb2 hg2 hs2
  have HB2 := Lib.hid hb2
  have HG2 := Lib.hid hg2
  have HS2 := Lib.hid hs2
  clear hb2 hg2 hs2
  go_wp2_with ((with_reducible show wpList _ _ _ (Oper.mk _ (Op.alloc 38) _ _ _ _ :: _) _ _); refine wpList_allocS _ zEv rfl rfl ?_)
  intro w3 hb3 hg3 hs3
  obtain ⟨B0, hB0⟩ : ∃ B0, B0 = w.heap.size := ⟨_, rfl⟩
  obtain ⟨r1, hr1⟩ : ∃ r1, r1 = w1.heap.size := ⟨_, rfl⟩
  obtain ⟨r2, hr2⟩ : ∃ r2, r2 = w2.heap.size := ⟨_, rfl⟩
  have k1 : r1 = B0 + 1 := by rw [hr1, HS1.out, hB0]
  have k2 : r2 = B0 + 2 := by rw [hr2, HS2.out, ← hr1, k1]
  have k3 : w3.heap.size = B0 + 3 := by rw [hs3, ← hr2, k2]
  have g03 : w.grownBy w3 none := (HG1.out.trans HG2.out).trans hg3
  have HBW : Hid (Below w.heap.size w w3) := Lib.hid (gbelow g03)
  have M3 : Blk w3 B0 (mcs m A c) := by rw [hB0]; exact (HB1.out.gn HG2.out).gn hg3
  have P3 : Blk w3 r1 (mcs zM none 0) := by rw [hr1]; exact HB2.out.gn hg3
  have Q3 : Blk w3 r2 (ecs 0 0) := by rw [hr2]; exact hb3
  rw [← hB0, ← hr1, ← hr2]
  have HB0 := Lib.hid hB0
  clear hb3 hg3 hs3 HB1 HG1 HS1 HB2 HG2 HS2 g03 hr1 hr2 hB0
  have c9 : w3.cell? ⟨B0, 9, none⟩ = some (.slice A m.mem.length c) := M3.cell (mcs_mem HL.out)
  have HM3 := Lib.hid M3
  have HP3 := Lib.hid P3
  have HQ3 := Lib.hid Q3
  have HK := Lib.hid (And.intro k1 (And.intro k2 k3))
  clear M3 P3 Q3 k1 k2 k3
  go_wp2_with fail
  have HRW : Hid (RWd w3 w3.heap.size A m.mem) := Lib.hid ((HMW.out.below HBW.out).mono HBW.out.size)
  refine (clone_calls w3 A c m.mem HRW.out hm8).mono ?_
  rintro e w4 ⟨A', c', rfl, hown, hb4⟩
  obtain ⟨k1, k2, k3⟩ := HK.out
  have hA' : ∀ g, A'.map (·.block) = some g → B0 + 3 ≤ g := fun g hg => by have := (hown.lt g hg).1; omega
  have h0 := HM3.out.below hb4 HM3.out.lt
  have hP4 := HP3.out.below hb4 HP3.out.lt
  have hQ4 := HQ3.out.below hb4 HQ3.out.lt
  have hown' : OW w4 B0 A' c' m.mem := hown.base (by omega)
  have hbw : Below w.heap.size w w4 := HBW.out.trans (hb4.mono HBW.out.size)
  have c9' : w4.cell? ⟨B0, 9, none⟩ = some (.slice A m.mem.length c) := h0.cell (mcs_mem HL.out)
  have f9 := h0.free 9
  have hm5 : MM (w4.setCell ⟨B0, 9, none⟩ (.slice A' m.mem.length c')) B0 B0 A' c' m := by
    refine ⟨?_, HL.out, hown'.other _ _ (fun g hg e => by have := hA' g hg; have e' : g = B0 := e; omega), fun e => by have := hA' _ e; omega⟩
    have := h0.setCell 9 (.slice A' m.mem.length c')
    have e : (mcs m A c).set 9 (.slice A' m.mem.length c') = mcs m A' c' := by
      unfold mcs
      rw [List.set_cons_succ, List.set_append_right _ _ (by simp [HL.out])]
      simp [HL.out]
    rw [e] at this
    exact this
  have hb5 : Below w.heap.size w (w4.setCell ⟨B0, 9, none⟩ (.slice A' m.mem.length c')) := hbw.setCell (by rw [HB0.out]; exact Nat.le_refl _) _
  have hP5 := hP4.grown (grown_setCell w4 ⟨B0, 9, none⟩ (.slice A' m.mem.length c')) (fun e => by injection e with e; have e' : B0 = r1 := e; omega)
  have hQ5 := hQ4.grown (grown_setCell w4 ⟨B0, 9, none⟩ (.slice A' m.mem.length c')) (fun e => by injection e with e; have e' : B0 = r2 := e; omega)
  obtain ⟨w5, hw5⟩ : ∃ w5, w5 = w4.setCell ⟨B0, 9, none⟩ (.slice A' m.mem.length c') := ⟨_, rfl⟩
  rw [← hw5] at hm5 hb5 hP5 hQ5
  clear hown hown' hb4 hbw h0 hP4 hQ4 HRW HBW HM3 HP3 HQ3 c9 k1 k2 k3
  have HM5 := Lib.hid hm5
  have HB5 := Lib.hid hb5
  have HP5 := Lib.hid hP5
  have HQ5 := Lib.hid hQ5
  have HA := Lib.hid hA'
  clear hm5 hb5 hP5 hQ5 hA'
  go_wp2_with fail
  rw [← hw5]
  clear hw5 c9' f9
  obtain ⟨k1, k2, k3⟩ := HK.out
  have hB0' := HB0.out
  refine (step_calls w5 (HD.out.below HB5.out HD.out.lt) B0 B0 A' c' m HM5.out (by omega) Ac cc l ((HR.out.below HB5.out).mono HB5.out.size) hl8).mono ?_
  rintro e w6 ⟨rfl, hm6, hf6⟩
  have HB6 : Hid (Below w.heap.size w w6) := Lib.hid (hf6.toBelow HB5.out HB5.out.size (by omega) (fun g hg => by have := HA.out g hg; omega))
  have HP6 := Lib.hid (blk_fr2 HP5.out hf6 (by omega) (fun g hg e => by have := HA.out g hg; omega))
  have HQ6 := Lib.hid (blk_fr2 HQ5.out hf6 (by omega) (fun g hg e => by have := HA.out g hg; omega))
  have hs6 : r2 < w6.heap.size := HQ6.out.lt
  obtain ⟨m', k', z', hx⟩ : ∃ m' k' z', stepM l m = (m', k', z') := ⟨_, _, _, rfl⟩
  rw [hx] at hm6 ⊢
  simp only at hm6 ⊢
  have HM6 := Lib.hid hm6
  have HS6 := Lib.hid hs6
  have HX := Lib.hid hx
  clear hf6 hm6 HM5 HB5 HP5 HQ5 hx k1 k2 k3 hB0' hs6
  go_wp2_with ((with_reducible show wpList _ _ _ (Oper.mk _ (Op.alloc 38) _ _ _ _ :: _) _ _); refine wpList_allocS _ zEv rfl rfl ?_)
  intro w7 hb7 hg7 hs7
  have HB7 := Lib.hid hb7
  have HG7 := Lib.hid hg7
  have HS7 := Lib.hid hs7
  clear hb7 hg7 hs7
  go_wp2_with ((with_reducible show wpList _ _ _ (Oper.mk _ (Op.store 38 _ _) _ _ _ _ :: _) _ _); refine wpList_storeS sEv rfl _ _ rfl w6.heap.size (ecs 0 0) (ecs k' z') rfl rfl HB7.out rfl rfl (ecs_one _ _) ?_)
  intro w8 hb8 hg8
  have HB8 := Lib.hid hb8
  have HG8 := Lib.hid hg8
  clear hb8 hg8
  go_wp2
  obtain ⟨ev, hev⟩ : ∃ ev, ev = w6.heap.size := ⟨_, rfl⟩
  obtain ⟨k1, k2, k3⟩ := HK.out
  have hB0' := HB0.out
  have hs6 := HS6.out
  have g68 : w6.grownBy w8 (some ev) := by rw [hev]; exact (grown_none HG7.out).trans HG8.out
  have b68 : Below w6.heap.size w6 w8 := (gbelow HG7.out).grown HG8.out HG7.out.size (fun j e => by injection e with e; omega)
  have h0 : SJ w w.heap.size w.heap.size m' A' c' k' z' B0 ev r1 r2 false false w8 := by
    refine ⟨HM6.out.blk.below b68 HM6.out.blk.lt, by rw [hev]; exact HB8.out, ⟨_, rfl, HP6.out.below b68 HP6.out.lt, fun e => by cases e⟩, ⟨_, rfl, HQ6.out.below b68 HQ6.out.lt, fun e => by cases e⟩, ?_, HB6.out.trans (b68.mono HB6.out.size)⟩
    exact (HM6.out.own.below b68 (Nat.le_refl _)).base (by omega)
  have hn : SN A' w.heap.size B0 ev r1 r2 := ⟨by omega, by omega, by omega, by omega, by omega, by omega, by omega, fun e => by have := HA.out _ e; omega, fun e => by have := HA.out _ e; omega⟩
  rw [← hev]
  have H0 := Lib.hid h0
  have HN := Lib.hid hn
  have HL' : Hid (m'.r.length = 8) := Lib.hid HM6.out.len
  clear h0 hn g68 b68 HB8 HG8 HB7 HG7 HS7 HM6 HP6 HQ6 HB6 HS6 hs6 hev HA HK k1 k2 k3 hB0' HB0
  refine region_vals [mv m' A' c', evv k' z', undef, undef] [some 13, some 14, none, none] (fun L w' => SJ w w.heap.size w.heap.size m' A' c' k' z' B0 ev r1 r2 (L 2) (L 3) w') (by kernel_rfl) (by kernel_rfl) (by kernel_rfl) rfl rfl ⟨H0.out.mb, H0.out.eb, H0.out.rb, H0.out.sb, H0.out.own, H0.out.bel.drew⟩ (fun ii hii => ?_) ?_
  · match ii, hii with
    | 0, _ => exact vstep_loadS sMach rfl (vwant_none rfl) (fun _ _ h => h) 3 rfl B0 (mcs m' A' c') (mcs_len HL'.out) (fun L a w c => (c.orig 3 (by kernel_rfl)).trans rfl) (fun _ _ j => j.mb) rfl
    | 1, _ => exact vstep_loadS sEv rfl (vwant_none rfl) (fun _ _ h => h) 6 rfl ev (ecs k' z') rfl (fun L a w c => (c.orig 6 (by kernel_rfl)).trans rfl) (fun _ _ j => j.eb) rfl
    | 2, _ => exact vstep_storeS sMach rfl (vwant_none rfl) 4 13 rfl r1 (mcs m' A' c') (mcs_len HL'.out) (mcs_one _ _ _) (fun L a w c => (c.orig 4 (by kernel_rfl)).trans rfl) (fun L a w c => c.slot 0 13 (by kernel_rfl) rfl) (fun _ _ j => by obtain ⟨cs, h1, h2, _⟩ := j.rb; exact ⟨cs, h1, h2⟩) rfl (fun _ _ _ j hb hg => j.store1 HN.out HL'.out (j.size HN.out) hb hg)
    | 3, _ => exact vstep_storeS sEv rfl (vwant_none rfl) 5 14 rfl r2 (ecs k' z') rfl (ecs_one _ _) (fun L a w c => (c.orig 5 (by kernel_rfl)).trans rfl) (fun L a w c => c.slot 1 14 (by kernel_rfl) rfl) (fun _ _ j => by obtain ⟨cs, h1, h2, _⟩ := j.sb; exact ⟨cs, h1, h2⟩) rfl (fun _ _ _ j hb hg => j.store2 HN.out (j.size HN.out) hb hg)
    | n + 4, h => exact absurd h (by show ¬ (n + 4 < 4); omega)
  · intro L9 w9 hall hJ
    obtain ⟨cs1, q1, q2, q3⟩ := hJ.rb
    obtain ⟨cs2, p1, p2, p3⟩ := hJ.sb
    obtain rfl := q3 (hall 2 (by decide))
    obtain rfl := p3 (hall 3 (by decide))
    have HJ := Lib.hid hJ
    have l1 : Hid ((loadVar 27 ⟨r1, 0, none⟩).run Tryd.prog w9 = .ok (mv m' A' c') w9) := Lib.hid (run_loadS sMach r1 _ q2 q1)
    have l2 : Hid ((loadVar 38 ⟨r2, 0, none⟩).run Tryd.prog w9 = .ok (evv k' z') w9) := Lib.hid (run_loadS sEv r2 _ p2 p1)
    clear q1 q2 q3 p1 p2 p3 hJ
    refine (by assumption : ∀ (a : Act) (w : World), Code.wp _ _ _ a w → _) _ _ ?_
    simp only [List.zip_cons_cons, List.zip_nil_right, putsL]
    go_simp
    go_wp2
    exact bodyPost_ret (v := .tuple #[mv m' A' c', evv k' z']) (by simp [results, Tryd.results13, asAddr, Sem.run_bind, Sem.run_pure, l1.out, l2.out]) rfl ⟨A', c', by rw [HX.out], by rw [HX.out]; exact HL'.out, by rw [HX.out]; exact HJ.out.own, HJ.out.bel⟩
end Go.Proofs.YtogbhbajnegfeaaDoor
