/- pvm's laws: Told. -/
import Derived.Test.YtogbhbajnegfeaaDoorPvmIs
import Derived.Test.YtogbhbajnegfeaaDoorTailM
namespace Nac
open Go Go.RowKit
section
variable {P : Program} {ops : Array Oper} {Q : Exit → Act → World → Prop} {D : Nat → VD} {a0 : Act} {W0 : World} {i : Nat} {o : Oper}
theorem mstep_run (ho : ops[i]? = some o) (hw : ∀ a w, MCtx ops D a0 W0 i a w → Region.wanted o (yielded ops a.tmps) = true)
    (h : ∀ a w, MCtx ops D a0 W0 i a w → ∃ v w', (execOp a.eval o).run P w = .ok (.value v) w' ∧ (D i).ok v w' ∧ Below w.heap.size w w') : MStep P ops Q D a0 W0 i := by
  intro o' ho' a w c
  rw [ho] at ho'
  obtain rfl := Option.some.inj ho'
  rw [if_pos (hw a w c)]
  obtain ⟨v, w', hr, hv, hb⟩ := h a w c
  unfold Oper.wp
  rw [hr]
  exact ⟨v, rfl, hv, hb⟩
def emptyVD : VD := .pr (fun v _ => ∃ g : Nat, v = .slice (some ⟨g, 0, none⟩) 0 0) (fun _ _ _ h _ => h)
end
end Nac
namespace Go.Proofs.YtogbhbajnegfeaaDoor
open Go.RowKit Nac Nac.Pvm
def wordsVD (B : Nat) (l : List Int) : VD := .pr (fun v w => ∃ A c, v = .slice A l.length c ∧ RWd w w.heap.size A l ∧ (l ≠ [] → ∀ g, A.map (·.block) = some g → B ≤ g)) (fun _ _ _ ⟨A, c, h1, h2, h3⟩ hb => ⟨A, c, h1, (h2.below hb).mono hb.size, h3⟩)
theorem RWd.kept {w w' : World} {B r : Nat} {A : Option Addr} {l : List Int} (h : RWd w B A l) (hg : w.grownBy w' (some r)) (hne : l ≠ [] → ∀ g, A.map (·.block) = some g → g ≠ r) : RWd w' B A l := fun hn => by
  obtain ⟨b, o, rfl, hb, hc⟩ := h hn
  exact ⟨b, o, rfl, hb, fun j hj => hg.cell (hc j hj) (fun e => hne hn b rfl (by injection e))⟩
set_option maxRecDepth 100000 in
theorem run_app0 (w : World) (g : Nat) {B : Nat} {A2 : Option Addr} {l : List Int} (h : RWd w B A2 l) (c2 : Nat) (h8 : l.length ≤ 17592186044415) :
    ∃ A' c' w', (Builtin.append_ #[24, 24] 24 #[.slice (some ⟨g, 0, none⟩) 0 0, .slice A2 l.length c2]).run Tryd.prog w = .ok (.slice A' l.length c') w' ∧ RWd w' w'.heap.size A' l ∧ (l ≠ [] → ∀ g, A'.map (·.block) = some g → w.heap.size ≤ g) ∧ Below w.heap.size w w' := by
  obtain ⟨i, hi, hz, hs1, hb1⟩ := info_parts Tryd.infoWord
  have ht := Tryd.underlying24
  by_cases hl : l = []
  · subst hl
    refine ⟨some ⟨g, 0, none⟩, 0, w, ?_, fun hne => absurd rfl hne, fun hne => absurd rfl hne, Below.refl _ _⟩
    cases A2 <;> simp [Builtin.append_, run_underlying ht, sizeOf, typeInfo, hi, Builtin.lenOf, Builtin.firstCells, storeCells, loadCells, loadCellsFrom]
  · obtain ⟨b, o, rfl, hb, hc⟩ := h hl
    obtain ⟨v', w', hr, h2, h3⟩ := run_append_arg_grows (P := Tryd.prog) w 24 24 2 i (.int .i64 0) 1 8 ht hi hz hs1 hb1 rfl (by decide) ⟨g, 0, none⟩ 0 0 [] rfl (fun j u hj => by simp at hj) ⟨b, o, none⟩ l.length c2 (l.map (Value.int .i64)) (by simp)
      (fun j u hj => by
        obtain ⟨x, hx, rfl⟩ : ∃ x, l[j]? = some x ∧ Value.int .i64 x = u := by simpa using hj
        have hj' : j < l.length := (List.getElem?_eq_some_iff.1 hx).1
        have := hc j hj'
        rw [Addr.add_mid, this]
        rw [List.getElem?_eq_getElem hj'] at hx
        injection hx with hx
        rw [hx])
      (by have := List.length_pos_iff.2 hl; omega) (by unfold maxLen; omega) (by omega)
    obtain ⟨A', c', rfl⟩ := own_form w' h2
    rw [Nat.zero_add] at h2 hr
    have ho : OW w' w.heap.size A' c' l := h2
    exact ⟨A', c', w', hr, ho.rw, fun _ g hg => (ho.lt g hg).1, gbelow h3⟩
def RetTold (w : World) (m : Mach) (e : Ending) (w' : World) : Prop := ∃ A c, e = .returned (mv m A c) ∧ RWd w' w'.heap.size A m.mem ∧ Below w.heap.size w w'
theorem sRef : SInfo 30 12 := ⟨by kernel_rfl, _, Tryd.underlying30, rfl⟩
theorem zRef : ((Tryd.prog.info? 30).bind (·.zero)) = some (.agg (mcs zM none 0).toArray) := by kernel_rfl
set_option maxRecDepth 100000 in
set_option maxHeartbeats 1000000 in
theorem Told_calls (w : World) (A : Option Addr) (c : Nat) (m : Mach) (hl : m.r.length = 8) (hA : RWd w w.heap.size A m.mem) (hm8 : m.mem.length ≤ 17592186044415) :
    Calls Tryd.prog 18 #[mv m A c] w (RetTold w m) := by
  have HA := Lib.hid hA
  have HL := Lib.hid hl
  have H8 := Lib.hid hm8
  clear hA hl hm8
  go_enter Tryd.func18, Tryd.ntmps18
  go_wp2_with ((with_reducible show wpList _ _ _ (Oper.mk _ (Op.box _ _) _ _ _ _ :: _) _ _); refine wpList_boxS rfl _ rfl (mcs m A c) rfl ?_)
  intro w1 hb1 hg1 hs1
  have HB1 := Lib.hid hb1
  have HG1 := Lib.hid hg1
  have HS1 := Lib.hid hs1
  clear hb1 hg1 hs1
  go_wp2_with ((with_reducible show wpList _ _ _ (Oper.mk _ (Op.alloc _) _ _ _ _ :: _) _ _); refine wpList_allocS _ zRef rfl rfl ?_)
  intro w2 hb2 hg2 hs2
  obtain ⟨B0, hB0⟩ : ∃ B0, B0 = w.heap.size := ⟨_, rfl⟩
  obtain ⟨B1, hB1⟩ : ∃ B1, B1 = w1.heap.size := ⟨_, rfl⟩
  have k1 : B1 = B0 + 1 := by rw [hB1, HS1.out, hB0]
  have hb12 := HB1.out.gn hg2
  rw [← hB0] at hb12
  rw [← hB1] at hb2
  rw [← hB0, ← hB1]
  have HBW : Hid (Below w.heap.size w w2) := Lib.hid (gbelow (HG1.out.trans hg2))
  have HW2 : Hid (B1 < w2.heap.size) := Lib.hid hb2.lt
  have HK := Lib.hid (And.intro hB0 k1)
  have HB0 := Lib.hid hb12
  have HB1' := Lib.hid hb2
  clear hg2 hs2 HB1 HG1 HS1 hB0 hB1 hb12 hb2 k1
  obtain ⟨r0, r1, r2, r3, r4, r5, r6, r7, hr⟩ : ∃ r0 r1 r2 r3 r4 r5 r6 r7, m.r = [r0, r1, r2, r3, r4, r5, r6, r7] := by
    obtain ⟨p, r, me, s, t⟩ := m
    have hl := HL.out
    simp only at hl
    match r, hl with
    | [r0, r1, r2, r3, r4, r5, r6, r7], _ => exact ⟨r0, r1, r2, r3, r4, r5, r6, r7, rfl⟩
  obtain ⟨n, hn⟩ : ∃ n, n = m.mem.length := ⟨_, rfl⟩
  have MB : Hid (∀ w', Below w2.drew.heap.size w2.drew w' → w'.cell? ⟨B0, 0, none⟩ = some (.int .i64 m.place) ∧ w'.cell? ⟨B0, 1, none⟩ = some (.int .i64 r0) ∧ w'.cell? ⟨B0, 2, none⟩ = some (.int .i64 r1) ∧ w'.cell? ⟨B0, 3, none⟩ = some (.int .i64 r2) ∧ w'.cell? ⟨B0, 4, none⟩ = some (.int .i64 r3) ∧ w'.cell? ⟨B0, 5, none⟩ = some (.int .i64 r4) ∧ w'.cell? ⟨B0, 6, none⟩ = some (.int .i64 r5) ∧ w'.cell? ⟨B0, 7, none⟩ = some (.int .i64 r6) ∧ w'.cell? ⟨B0, 8, none⟩ = some (.int .i64 r7) ∧ w'.cell? ⟨B0, 9, none⟩ = some (.slice A n c) ∧ w'.cell? ⟨B0, 10, none⟩ = some (.int .i64 m.state) ∧ w'.cell? ⟨B0, 11, none⟩ = some (.int .i64 m.trap)) := Lib.hid fun w' hb' => by
    have h := HB0.out.drew.below hb' HB0.out.lt
    have e := h
    unfold mcs at e
    rw [hr] at e
    exact ⟨e.cell rfl, e.cell rfl, e.cell rfl, e.cell rfl, e.cell rfl, e.cell rfl, e.cell rfl, e.cell rfl, e.cell rfl, by rw [hn]; exact h.cell (mcs_mem HL.out), h.cell (mcs_state HL.out), h.cell (mcs_trap HL.out)⟩
  have WB : Hid (∀ w', Below w2.drew.heap.size w2.drew w' → RWd w' w2.heap.size A m.mem) := Lib.hid fun w' hb' => RWd.below (w := w2.drew) ((HA.out.below HBW.out).mono HBW.out.size) hb'
  have HN := Lib.hid hn
  have HR := Lib.hid hr
  clear hn hr HA
  go_wp2_with fail
  refine region_tails 12 (fun ix9 => ([.is (.pointer (some ⟨B0, 0, none⟩)), .is (.int .i64 m.place), .is (.pointer (some ⟨B0, 1, none⟩)), .is (.agg #[.int .i64 r0, .int .i64 r1, .int .i64 r2, .int .i64 r3, .int .i64 r4, .int .i64 r5, .int .i64 r6, .int .i64 r7]), emptyVD, .is (.pointer (some ⟨B0, 9, none⟩)), .is (.slice A n c), (wordsVD w2.heap.size m.mem), .is (.pointer (some ⟨B0, 10, none⟩)), .is (.int .i64 m.state), .is (.pointer (some ⟨B0, 11, none⟩)), .is (.int .i64 m.trap)] : List VD).getD ix9 (.is undef)) [some 3, some 4, some 5, some 6, some 7, some 8, some 9, some 10, some 11, some 12, some 13, some 14] (by kernel_rfl) (by kernel_rfl) (by kernel_rfl) (by kernel_rfl) rfl (fun ii hii => ?_) ?_
  · match ii, hii with
    | 0, _ => exact mstep_pure rfl (mwant_none rfl) (fun aa ww cc => ⟨.pointer (some ⟨B0, 0, none⟩), by have e0 : aa.tmps.getD 1 undef = .pointer (some ⟨B0, 0, none⟩) := (cc.orig 1 (by kernel_rfl)).trans rfl; simp only [execOp, Act.eval, e0]; go_simp, rfl⟩)
    | 1, _ => exact mstep_pure rfl (mwant_none rfl) (fun aa ww cc => ⟨.int .i64 m.place, by have e0 : aa.tmps.getD 3 undef = .pointer (some ⟨B0, 0, none⟩) := cc.slot 0 3 (by kernel_rfl) rfl; obtain ⟨m0, m1, m2, m3, m4, m5, m6, m7, m8, m9, m10, m11⟩ := MB.out _ cc.below; simp only [execOp, Act.eval, e0]; go_simp, rfl⟩)
    | 2, _ => exact mstep_pure rfl (mwant_none rfl) (fun aa ww cc => ⟨.pointer (some ⟨B0, 1, none⟩), by have e0 : aa.tmps.getD 1 undef = .pointer (some ⟨B0, 0, none⟩) := (cc.orig 1 (by kernel_rfl)).trans rfl; simp only [execOp, Act.eval, e0]; go_simp, rfl⟩)
    | 3, _ => exact mstep_pure rfl (mwant_none rfl) (fun aa ww cc => ⟨.agg #[.int .i64 r0, .int .i64 r1, .int .i64 r2, .int .i64 r3, .int .i64 r4, .int .i64 r5, .int .i64 r6, .int .i64 r7], by have e0 : aa.tmps.getD 5 undef = .pointer (some ⟨B0, 1, none⟩) := cc.slot 2 5 (by kernel_rfl) rfl; obtain ⟨m0, m1, m2, m3, m4, m5, m6, m7, m8, m9, m10, m11⟩ := MB.out _ cc.below; simp only [execOp, Act.eval, e0]; go_simp, rfl⟩)
    | 4, _ => exact mstep_run rfl (mwant_none rfl) (fun aa ww cc => ⟨.slice (some ⟨ww.heap.size, 0, none⟩) 0 0, ww.alloc (.cells #[] 2), by simp only [execOp]; go_simp, ⟨_, rfl⟩, (Below.refl _ _).alloc (Nat.le_refl _) _⟩)
    | 5, _ => exact mstep_pure rfl (mwant_none rfl) (fun aa ww cc => ⟨.pointer (some ⟨B0, 9, none⟩), by have e0 : aa.tmps.getD 1 undef = .pointer (some ⟨B0, 0, none⟩) := (cc.orig 1 (by kernel_rfl)).trans rfl; simp only [execOp, Act.eval, e0]; go_simp, rfl⟩)
    | 6, _ => exact mstep_pure rfl (mwant_none rfl) (fun aa ww cc => ⟨.slice A n c, by have e0 : aa.tmps.getD 8 undef = .pointer (some ⟨B0, 9, none⟩) := cc.slot 5 8 (by kernel_rfl) rfl; obtain ⟨m0, m1, m2, m3, m4, m5, m6, m7, m8, m9, m10, m11⟩ := MB.out _ cc.below; simp only [execOp, Act.eval, e0]; go_simp, rfl⟩)
    | 7, _ => exact mstep_run rfl (mwant_none rfl) (fun aa ww cc => by obtain ⟨g, e0⟩ := cc.slot 4 7 (by kernel_rfl) rfl; have e1 : aa.tmps.getD 9 undef = .slice A n c := cc.slot 6 9 (by kernel_rfl) rfl; obtain ⟨A9, c9, w9, hr, h9, h9b, hb9⟩ := run_app0 ww g (WB.out _ cc.below) c H8.out; exact ⟨_, w9, by (rw [HN.out] at e1; have f0 : aa.eval (.tmp 7) = .slice (some ⟨g, 0, none⟩) 0 0 := e0; have f1 : aa.eval (.tmp 9) = .slice A m.mem.length c := e1; simp [execOp, resolve, invoke, builtin, f0, f1, hr]), ⟨A9, c9, rfl, h9, fun hn g hg => Nat.le_trans cc.below.size (h9b hn g hg)⟩, hb9⟩)
    | 8, _ => exact mstep_pure rfl (mwant_none rfl) (fun aa ww cc => ⟨.pointer (some ⟨B0, 10, none⟩), by have e0 : aa.tmps.getD 1 undef = .pointer (some ⟨B0, 0, none⟩) := (cc.orig 1 (by kernel_rfl)).trans rfl; simp only [execOp, Act.eval, e0]; go_simp, rfl⟩)
    | 9, _ => exact mstep_pure rfl (mwant_none rfl) (fun aa ww cc => ⟨.int .i64 m.state, by have e0 : aa.tmps.getD 11 undef = .pointer (some ⟨B0, 10, none⟩) := cc.slot 8 11 (by kernel_rfl) rfl; obtain ⟨m0, m1, m2, m3, m4, m5, m6, m7, m8, m9, m10, m11⟩ := MB.out _ cc.below; simp only [execOp, Act.eval, e0]; go_simp, rfl⟩)
    | 10, _ => exact mstep_pure rfl (mwant_none rfl) (fun aa ww cc => ⟨.pointer (some ⟨B0, 11, none⟩), by have e0 : aa.tmps.getD 1 undef = .pointer (some ⟨B0, 0, none⟩) := (cc.orig 1 (by kernel_rfl)).trans rfl; simp only [execOp, Act.eval, e0]; go_simp, rfl⟩)
    | 11, _ => exact mstep_pure rfl (mwant_none rfl) (fun aa ww cc => ⟨.int .i64 m.trap, by have e0 : aa.tmps.getD 13 undef = .pointer (some ⟨B0, 11, none⟩) := cc.slot 10 13 (by kernel_rfl) rfl; obtain ⟨m0, m1, m2, m3, m4, m5, m6, m7, m8, m9, m10, m11⟩ := MB.out _ cc.below; simp only [execOp, Act.eval, e0]; go_simp, rfl⟩)
    | n + 12, h => exact absurd h (by show ¬ (n + 12 < 12); omega)
  · intro VV w5 hlen hb5 hok
    match VV, hlen with
    | [v0, v1, v2, v3, v4, v5, v6, v7, v8, v9, v10, v11], _ =>
      obtain rfl : v0 = .pointer (some ⟨B0, 0, none⟩) := hok 0 3 rfl
      obtain rfl : v1 = .int .i64 m.place := hok 1 4 rfl
      obtain rfl : v2 = .pointer (some ⟨B0, 1, none⟩) := hok 2 5 rfl
      obtain rfl : v3 = .agg #[.int .i64 r0, .int .i64 r1, .int .i64 r2, .int .i64 r3, .int .i64 r4, .int .i64 r5, .int .i64 r6, .int .i64 r7] := hok 3 6 rfl
      have p4 := hok 4 7 rfl
      obtain rfl : v5 = .pointer (some ⟨B0, 9, none⟩) := hok 5 8 rfl
      obtain rfl : v6 = .slice A n c := hok 6 9 rfl
      have p7 := hok 7 10 rfl
      obtain rfl : v8 = .pointer (some ⟨B0, 10, none⟩) := hok 8 11 rfl
      obtain rfl : v9 = .int .i64 m.state := hok 9 12 rfl
      obtain rfl : v10 = .pointer (some ⟨B0, 11, none⟩) := hok 10 13 rfl
      obtain rfl : v11 = .int .i64 m.trap := hok 11 14 rfl
      obtain ⟨A9, c9, rfl, h9, h9b⟩ := p7
      have HR9 := Lib.hid h9
      have HRB := Lib.hid h9b
      have HB5 : Hid (Below w.heap.size w w5) := Lib.hid (HBW.out.trans (hb5.mono HBW.out.size))
      have HB15 := Lib.hid (HB1'.out.below hb5 HB1'.out.lt)
      have hmv : mcs m A9 c9 = [.int .i64 m.place, .int .i64 r0, .int .i64 r1, .int .i64 r2, .int .i64 r3, .int .i64 r4, .int .i64 r5, .int .i64 r6, .int .i64 r7, .slice A9 m.mem.length c9, .int .i64 m.state, .int .i64 m.trap] := by unfold mcs; rw [HR.out]; rfl
      have HMV := Lib.hid hmv
      clear hok hb5 hlen MB WB h9 h9b p4 hmv
      simp only [List.zip_cons_cons, List.zip_nil_right, putsL]
      go_simp
      go_wp2_with ((with_reducible show wpList _ _ _ (Oper.mk _ (Op.store _ _ _) _ _ _ _ :: _) _ _); refine wpList_storeS sRef rfl _ _ rfl B1 (mcs zM none 0) (mcs m A9 c9) rfl (by rw [HMV.out]; rfl) HB15.out rfl (mcs_len HL.out) (mcs_one _ _ _) ?_)
      intro w6 hb6 hg6
      have l1 : Hid ((loadVar 30 ⟨B1, 0, none⟩).run Tryd.prog w6 = .ok (mv m A9 c9) w6) := Lib.hid (run_loadS sRef _ _ hb6 (mcs_len HL.out))
      have HG6 := Lib.hid hg6
      clear hb6 hg6
      go_wp2
      obtain ⟨k0, k1⟩ := HK.out
      refine bodyPost_ret (v := mv m A9 c9) (by simp [results, Tryd.results18, asAddr, Sem.run_bind, Sem.run_pure, l1.out]) rfl ⟨A9, c9, rfl, ?_, HB5.out.grown HG6.out HB5.out.size (fun j e => by injection e with e; omega)⟩
      exact (HR9.out.kept HG6.out (fun hn g hg => by have := HRB.out hn g hg; have := HW2.out; omega)).mono HG6.out.size
end Go.Proofs.YtogbhbajnegfeaaDoor
