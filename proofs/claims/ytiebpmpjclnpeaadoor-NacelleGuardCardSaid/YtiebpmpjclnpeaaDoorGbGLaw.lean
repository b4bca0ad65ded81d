/- NacelleGuard, walked. -/
import Derived.Test.YtiebpmpjclnpeaaDoorGb12
import Derived.Deep.DeepCutAuto
namespace Go.Proofs.YtiebpmpjclnpeaaDoor
open Go.RowKit Nac Nac.Gram
set_option maxRecDepth 100000 in
set_option maxHeartbeats 8000000 in
theorem guard_calls (w : World) (g : Gd) (ms : List MsgI) (hg : GdIn w w.heap.size g) (hR : ROk g.R) (hby : ∀ r ∈ g.R, ∀ x ∈ r.body, x.low < 256 ∧ x.high < 256) (hfm : g.fs.length ≤ 140737488355328) (hnl : g.nL = ms.length) (hms : RM w w.heap.size g.AL ms) (hml : ms.length ≤ 140737488355328) :
    Calls Tryd.prog 3 #[.agg (gdv g).toArray] w fun e w' => e = .returned (.bool true) ∧ Below w.heap.size w w' := by
  have HG := Lib.hid hg
  have HRO := Lib.hid hR
  have HBY := Lib.hid hby
  have HMS := Lib.hid hms
  have HNL := Lib.hid hnl
  obtain ⟨kd, hkd⟩ : ∃ kd, kd = g.kind := ⟨_, rfl⟩
  obtain ⟨mo, hmo⟩ : ∃ mo, mo = g.most := ⟨_, rfl⟩
  obtain ⟨rt, hrt⟩ : ∃ rt, rt = g.rate := ⟨_, rfl⟩
  obtain ⟨bu, hbu⟩ : ∃ bu, bu = g.burst := ⟨_, rfl⟩
  obtain ⟨nf, hnf⟩ : ∃ nf, nf = g.fs.length := ⟨_, rfl⟩
  obtain ⟨ng, hng⟩ : ∃ ng, ng = g.R.length := ⟨_, rfl⟩
  have HKD : Hid (kd = g.kind ∧ mo = g.most ∧ rt = g.rate ∧ bu = g.burst ∧ nf = g.fs.length ∧ ng = g.R.length) := Lib.hid ⟨hkd, hmo, hrt, hbu, hnf, hng⟩
  have hngm : ng ≤ 9223372036854775807 := by rw [hng]; exact hR.len
  have hnfm : nf ≤ 140737488355328 := by rw [hnf]; exact hfm
  obtain ⟨nl, hnl2⟩ : ∃ nl, nl = ms.length := ⟨_, rfl⟩
  have HNM : Hid (nl = ms.length ∧ nl = g.nL) := Lib.hid ⟨hnl2, by rw [hnl, hnl2]⟩
  have hnlm : nl ≤ 140737488355328 := by rw [hnl2]; exact hml
  have kc := fun (w : World) (C : Array Value) (n c : Nat) => Lib.run_convert_bytes_const (P := Tryd.prog) w 40 5 C n c Tryd.underlying40 Tryd.underlying5
  have KC := Lib.hid kc; clear kc
  clear hg hR hby hms hnl hkd hmo hrt hbu hnf hng hnl2 hfm hml
  go_enter Tryd.func3, Tryd.ntmps3
  go_wp2_with (first | ((with_reducible show wpList _ _ _ (Oper.mk (some 1) (Op.box 30 _) _ _ _ _ :: _) _ _); refine wpList_boxS (T := 30) rfl _ rfl (gdv g) rfl ?_) | fail)
  intro w1 hb1 hg1 hs1
  obtain ⟨b1, hb1e⟩ : ∃ b, b = w.heap.size := ⟨_, rfl⟩
  rw [← hb1e] at hb1 ⊢
  have HB1 := Lib.hid hb1
  have HW1 : Hid (Below w.heap.size w w1 ∧ b1 = w.heap.size) := Lib.hid ⟨grown_below hg1 (Nat.le_refl _) (fun k e => by cases e), hb1e⟩
  have hc0 : w1.cell? ⟨b1, 0, none⟩ = some (.int .i64 kd) := hb1.cell (by rw [HKD.out.1]; rfl)
  have hc1 : w1.cell? ⟨b1, 1, none⟩ = some (.int .i64 mo) := hb1.cell (by rw [HKD.out.2.1]; rfl)
  clear hb1 hg1 hs1 hb1e
  go_wp2_with fail
  clear hc0 hc1
  refine (new_calls w1 kd mo 64).mono ?_
  rintro e w2 ⟨pv, en, rfl, hnew, hb2⟩
  obtain ⟨cb, hcbe⟩ : ∃ cb, cb = w1.heap.size := ⟨_, rfl⟩
  rw [← hcbe] at hnew
  have HB12 : Hid (Blk w2 b1 (gdv g)) := Lib.hid (HB1.out.below hb2 HB1.out.lt)
  have HW2 : Hid (Below w.heap.size w w2 ∧ b1 < cb ∧ cb = w1.heap.size) := Lib.hid ⟨below_trans HW1.out.1 (hb2.mono HW1.out.1.size), by rw [hcbe]; exact HB1.out.lt, hcbe⟩
  have HNEW : Hid ((en = 0 ∧ pv = some ⟨cb, 0, none⟩ ∧ NewOk kd mo 64 ∧ Blk w2 cb (ccells ⟨kd.toNat, mo.toNat, 64, 0, []⟩ 0)) ∨ (en = 1 ∧ pv = none)) := Lib.hid hnew
  have hc7 : w2.cell? ⟨b1, 7, none⟩ = some (.int .i64 rt) := HB12.out.cell (by rw [HKD.out.2.2.1]; rfl)
  have hc8 : w2.cell? ⟨b1, 8, none⟩ = some (.int .i64 bu) := HB12.out.cell (by rw [HKD.out.2.2.2.1]; rfl)
  clear hnew hcbe hb2 HB1
  go_wp2_with fail
  clear hc7 hc8
  refine (beg_calls w2 rt bu).mono ?_
  rintro e w3 ⟨cp, fn, rfl, hbeg, hb3⟩
  have HBEG := Lib.hid hbeg
  have HB13 : Hid (Blk w3 b1 (gdv g)) := Lib.hid (HB12.out.below hb3 HB12.out.lt)
  have HW3 : Hid (Below w.heap.size w w3) := Lib.hid (below_trans HW2.out.1 (hb3.mono HW2.out.1.size))
  have HC23 : Hid (Below w2.heap.size w2 w3) := Lib.hid hb3
  clear hbeg hb3 HB12
  go_wp2_with (first | ((with_reducible show wpList _ _ _ (Oper.mk (some 5) (Op.alloc 36) _ _ _ _ :: _) _ _); refine wpList_allocS _ zCap rfl rfl ?_) | fail)
  intro w4 hb4 hg4 hs4
  obtain ⟨b5, hb5e⟩ : ∃ b, b = w3.heap.size := ⟨_, rfl⟩
  rw [← hb5e] at hb4 ⊢
  have HB4 := Lib.hid hb4
  have HG4 : Hid (Below w3.heap.size w3 w4 ∧ w3.heap.size = b5) := Lib.hid ⟨grown_below hg4 (Nat.le_refl _) (fun k e => by cases e), hb5e.symm⟩
  clear hb4 hg4 hs4 hb5e
  go_wp2_with (first
    | ((with_reducible show wpList _ _ _ (Oper.mk _ (Op.store 36 _ _) _ _ _ _ :: _) _ _); refine wpList_storeS sCap rfl _ _ rfl b5 (cpv ⟨0, 0, 0⟩) (cpv cp) rfl rfl HB4.out rfl rfl (cpv_one _) ?_)
    | fail)
  intro w5 hb5 hg5
  have HB55 := Lib.hid hb5
  have HC35 : Hid (Below w3.heap.size w3 w5) := Lib.hid (below_trans HG4.out.1 (grown_below hg5 HG4.out.1.size fun k e => by injection e with e; have := HG4.out.2; omega))
  have HB5E : Hid (b5 = w3.heap.size) := Lib.hid HG4.out.2.symm
  clear hb5 hg5 HB4 HG4
  go_wp2_with fail
  refine (new_ok w5 1 1 8 (by unfold NewOk; omega)).mono ?_
  rintro e w6 ⟨rfl, hq6, hg6⟩
  obtain ⟨cq, hcq⟩ : ∃ cq, cq = w5.heap.size := ⟨_, rfl⟩
  rw [← hcq] at hq6 ⊢
  have HQ6 : Hid (Blk w6 cq (ccells ⟨1, 1, 8, 0, []⟩ 0)) := Lib.hid hq6
  have HC56 : Hid (Below w5.heap.size w5 w6 ∧ cq = w5.heap.size) := Lib.hid ⟨grown_below hg6 (Nat.le_refl _) (fun k e => by cases e), hcq⟩
  clear hq6 hg6 hcq
  have kc := KC.out
  go_wp2_with fail
  clear kc
  refine (send_lit w6 cq ⟨1, 1, 8, 0, []⟩ 0 97 97 rfl 0 (by constructor <;> simp) (by decide) HQ6.out).mono ?_
  rintro e w7 ⟨rfl, ⟨f7, hf7, hq7⟩, hg7⟩
  have hse : (⟨1, 1, 8, 0, []⟩ : Ch).send [97] 0 = (⟨1, 1, 8, 0, [⟨[97], 0⟩]⟩, 0) := by decide
  rw [hse] at hq7 ⊢
  have hc4 : w7.cell? ⟨cq, 4, none⟩ = some (.int .i64 1) := hq7.cell rfl
  have HC57 : Hid (Below w5.heap.size w5 w7) := Lib.hid (below_trans HC56.out.1 (grown_below hg7 HC56.out.1.size fun k e => by injection e with e; have := HC56.out.2; omega))
  have HC37 : Hid (Below w3.heap.size w3 w7) := Lib.hid (below_trans HC35.out (HC57.out.mono HC35.out.size))
  have HW7 : Hid (Below w.heap.size w w7) := Lib.hid (below_trans HW3.out (HC37.out.mono HW3.out.size))
  have HB17 : Hid (Blk w7 b1 (gdv g)) := Lib.hid (HB13.out.below HC37.out HB13.out.lt)
  have HB57 : Hid (Blk w7 b5 (cpv cp)) := Lib.hid (HB55.out.below HC57.out HB55.out.lt)
  clear hse hq7 hg7 HQ6 HB13 HB55
  go_wp2_with fail
  refine (waiting_calls _ _ _ hc4).mono ?_
  rintro e w' ⟨rfl, rfl⟩
  clear hc4
  obtain ⟨AG, hAG⟩ : ∃ AG, AG = g.AG := ⟨_, rfl⟩
  obtain ⟨cG, hcG⟩ : ∃ cG, cG = g.cG := ⟨_, rfl⟩
  obtain ⟨AF, hAF⟩ : ∃ AF, AF = g.AF := ⟨_, rfl⟩
  obtain ⟨cF, hcF⟩ : ∃ cF, cF = g.cF := ⟨_, rfl⟩
  have HAG : Hid (AG = g.AG ∧ cG = g.cG ∧ AF = g.AF ∧ cF = g.cF) := Lib.hid ⟨hAG, hcG, hAF, hcF⟩
  obtain ⟨nms, hnms⟩ : ∃ nms, nms = g.names := ⟨_, rfl⟩
  obtain ⟨les, hles⟩ : ∃ les, les = g.least := ⟨_, rfl⟩
  obtain ⟨mos, hmos⟩ : ∃ mos, mos = g.mo := ⟨_, rfl⟩
  have HNMS : Hid (nms = g.names ∧ les = g.least ∧ mos = g.mo) := Lib.hid ⟨hnms, hles, hmos⟩
  have hcn5 : w7.cell? ⟨b1, 5, none⟩ = some (.int .i64 nms) := HB17.out.cell (by rw [hnms]; rfl)
  have hcg : w7.cell? ⟨b1, 6, none⟩ = some (.slice AG ng cG) := HB17.out.cell (by rw [hAG, hcG, HKD.out.2.2.2.2.2]; rfl)
  have hcf : w7.cell? ⟨b1, 4, none⟩ = some (.slice AF nf cF) := HB17.out.cell (by rw [hAF, hcF, HKD.out.2.2.2.2.1]; rfl)
  clear hAG hcG hAF hcF hnms hles hmos
  by_cases h1 : 50 < ng
  · clear hcf hcn5
    as_aux_lemma =>
      rcases HNEW.out with ⟨rfl, rfl, _⟩ | ⟨rfl, rfl⟩
      · go_wp2
        go_ret
        exact ⟨rfl, HW7.out⟩
      · go_wp2
        go_ret
        exact ⟨rfl, HW7.out⟩
  by_cases h2 : 20 < nf
  · clear hcn5
    as_aux_lemma =>
      rcases HNEW.out with ⟨rfl, rfl, _⟩ | ⟨rfl, rfl⟩
      · go_wp2
        go_ret
        exact ⟨rfl, HW7.out⟩
      · go_wp2
        go_ret
        exact ⟨rfl, HW7.out⟩
  by_cases h3 : en = 0
  case neg =>
    as_aux_lemma =>
      have h3b : (en != 0) = true := by simpa using h3
      rcases HNEW.out with ⟨rfl, _⟩ | ⟨rfl, rfl⟩
      · exact absurd rfl h3
      · go_wp2
        go_ret
        exact ⟨rfl, HW7.out⟩
  subst h3
  obtain ⟨hpv, hnok, hbc⟩ : pv = some ⟨cb, 0, none⟩ ∧ NewOk kd mo 64 ∧ Blk w2 cb (ccells ⟨kd.toNat, mo.toNat, 64, 0, []⟩ 0) := by
    rcases HNEW.out with ⟨_, h1, h2, h3⟩ | ⟨h, _⟩
    · exact ⟨h1, h2, h3⟩
    · cases h
  subst hpv
  have HNOK := Lib.hid hnok
  have HBC2 := Lib.hid hbc
  have HC27 : Hid (Below w2.heap.size w2 w7) := Lib.hid (below_trans HC23.out (HC37.out.mono HC23.out.size))
  have HBC7 : Hid (Blk w7 cb (ccells ⟨kd.toNat, mo.toNat, 64, 0, []⟩ 0)) := Lib.hid (HBC2.out.below HC27.out HBC2.out.lt)
  have HCB5 : Hid (cb < b5) := Lib.hid (by have := HBC2.out.lt; have := HC23.out.size; have := HB5E.out; omega)
  clear hnok hbc HBC2
  by_cases h4 : fn = 0
  case neg =>
    as_aux_lemma =>
      have h4b : (fn != 0) = true := by simpa using h4
      go_wp2
      go_ret
      exact ⟨rfl, HW7.out⟩
  subst h4
  have HCP : Hid (cp = ⟨rt, bu, bu⟩ ∧ cp.Ok) := Lib.hid (by
    rcases HBEG.out with ⟨_, h1, h2⟩ | h
    · exact ⟨h1, h2⟩
    · cases h)
  clear HBEG HNEW
  go_wp2_with fail
  clear hcn5 hcg hcf
  rw [HKD.out.2.2.2.2.2]
  refine (check_calls w7 nms AG cG g.R HRO.out (by rw [HAG.out.1]; exact (HG.out.rg.below HW7.out).mono HW7.out.size) HBY.out).mono ?_
  rw [← HKD.out.2.2.2.2.2]
  rintro e w8 ⟨⟨rfl, hsh, _⟩ | ⟨gv, rfl⟩, hb8⟩
  case inr =>
    have HW8 : Hid (Below w.heap.size w w8) := Lib.hid (below_trans HW7.out (hb8.mono HW7.out.size))
    as_aux_lemma =>
      clear hb8
      go_wp2
      go_ret
      exact ⟨rfl, HW8.out⟩
  have HSH : Hid (ShapeI g.names g.R) := Lib.hid (by rw [← HNMS.out.1]; exact hsh)
  have HW8 : Hid (Below w.heap.size w w8) := Lib.hid (below_trans HW7.out (hb8.mono HW7.out.size))
  have HB18 : Hid (Blk w8 b1 (gdv g)) := Lib.hid (HB17.out.below hb8 HB17.out.lt)
  have HB58 : Hid (Blk w8 b5 (cpv cp)) := Lib.hid (HB57.out.below hb8 HB57.out.lt)
  have HBC8 : Hid (Blk w8 cb (ccells ⟨kd.toNat, mo.toNat, 64, 0, []⟩ 0)) := Lib.hid (HBC7.out.below hb8 HBC7.out.lt)
  clear hsh hb8 HB17 HB57 HBC7
  have hr2 : w8.cell? ⟨b1, 2, none⟩ = some (.int .i64 les) := HB18.out.cell (by rw [HNMS.out.2.1]; rfl)
  have hr3 : w8.cell? ⟨b1, 3, none⟩ = some (.int .i64 mos) := HB18.out.cell (by rw [HNMS.out.2.2]; rfl)
  have hr4 : w8.cell? ⟨b1, 4, none⟩ = some (.slice AF nf cF) := HB18.out.cell (by rw [HAG.out.2.2.1, HAG.out.2.2.2, HKD.out.2.2.2.2.1]; rfl)
  go_wp2_with fail
  clear hr2 hr3 hr4
  rw [HKD.out.2.2.2.2.1]
  refine (fcheck_calls w8 les mos AF cF g.fs (by rw [HAG.out.2.2.1]; exact (HG.out.rf.below HW8.out (Nat.le_refl _)).mono HW8.out.size) (by rw [← HKD.out.2.2.2.2.1]; omega)).mono ?_
  rw [← HKD.out.2.2.2.2.1]
  rintro e w9 ⟨⟨rfl, hru⟩ | ⟨gv, rfl, _⟩, hb9⟩
  case inr =>
    have HW9 : Hid (Below w.heap.size w w9) := Lib.hid (below_trans HW8.out (hb9.mono HW8.out.size))
    as_aux_lemma =>
      clear hb9
      go_wp2
      go_ret
      exact ⟨rfl, HW9.out⟩
  have HRU : Hid (RuleOk g.least g.mo g.fs) := Lib.hid (by rw [← HNMS.out.2.1, ← HNMS.out.2.2]; exact hru)
  have HW9 : Hid (Below w.heap.size w w9) := Lib.hid (below_trans HW8.out (hb9.mono HW8.out.size))
  have HB19 : Hid (Blk w9 b1 (gdv g)) := Lib.hid (HB18.out.below hb9 HB18.out.lt)
  have HB59 : Hid (Blk w9 b5 (cpv cp)) := Lib.hid (HB58.out.below hb9 HB58.out.lt)
  have HBC9 : Hid (Blk w9 cb (ccells ⟨kd.toNat, mo.toNat, 64, 0, []⟩ 0)) := Lib.hid (HBC8.out.below hb9 HBC8.out.lt)
  have hck : w9.cell? ⟨b1, 0, none⟩ = some (.int .i64 kd) := HB19.out.cell (by rw [HKD.out.1]; rfl)
  clear hru hb9 HB18 HB58 HBC8
  by_cases hk0 : kd = 0
  ·
    as_aux_lemma =>
      subst hk0
      go_wp2
      go_ret
      exact ⟨rfl, HW9.out⟩
  have hk0b : (kd == 0) = false := by simpa using hk0
  have HNB : Hid (GNb w w9.heap.size b1 cb b5) := Lib.hid (by
    have h1 := HW1.out.2
    have h2 := HW2.out.2.1
    have h3 := HCB5.out
    have h4 := HB19.out.lt
    have h5 := HBC9.out.lt
    have h6 := HB59.out.lt
    exact ⟨by omega, by omega, by omega, h4, h5, h6, by omega, by omega, by omega⟩)
  have HPH : Hid (GPh w w9 w9.heap.size b1 cb b5 g ⟨kd.toNat, mo.toNat, 64, 0, []⟩ 0 cp none 0 []) := Lib.hid ⟨HW9.out, HB19.out, by decide, HBC9.out, HB59.out, OS.nil _ _, Nat.le_refl _⟩
  have HLG : Hid (GLg g ⟨kd.toNat, mo.toNat, 64, 0, []⟩ cp [] 0 0 0 0) := Lib.hid (by
    have hn := HNOK.out
    have hc := HCP.out
    unfold NewOk at hn
    have hk : kd = 1 ∨ kd = 2 := by omega
    refine ⟨⟨?_, ?_, ?_, ?_, Nat.le_refl _, Nat.zero_le _, ?_, fun m hm => by cases hm⟩, ?_, rfl, hc.2, by rw [hc.1]; exact HKD.out.2.2.1, by rw [hc.1]; exact HKD.out.2.2.2.1, Nat.le_refl _, rfl, fun l hl => (by cases hl), ?_, Nat.le_refl _, Nat.le_refl _, Nat.le_refl _⟩
    · show kd.toNat ≤ 2; omega
    · show 1 ≤ mo.toNat; omega
    · show mo.toNat ≤ 16; omega
    · intro h; have h : kd.toNat = 0 := h; omega
    · show 0 ≤ mo.toNat; omega
    · show kd.toNat = 1 ∨ kd.toNat = 2; omega
    · rw [hc.1, ← HKD.out.2.2.2.1]; simp)
  clear HB19 HB59 HBC9 HCB5 HNOK HCP HC23 HC35 HC37 HC57 HC27 HC56 HB5E HW1 HW2 HW3 HW7 HW8
  go_wp2
  clear hck
  go_loopw [9, 10, 11, 12, 13] (fun s9 s10 s11 s12 s13 wr => ∃ (i : Nat) (C : Ch) (f : Nat) (cap : Cp) (A9 : Option Addr) (c9 : Nat) (ins : List (List UInt8)) (out pa fr : Nat), i ≤ nl ∧ i ≤ 60 ∧ s13 = .int .i64 (i : Int) ∧ s9 = .slice A9 ins.length c9 ∧ s10 = .int .i64 (out : Int) ∧ s11 = .int .i64 (pa : Int) ∧ s12 = .int .i64 (fr : Int) ∧ GPh w wr w9.heap.size b1 cb b5 g C f cap A9 c9 ins ∧ GLg g C cap ins out pa fr i) (fun _ _ _ _ s13 _ => 60 - (intOf s13).toNat)
  case atStart => exact ⟨0, _, 0, cp, none, 0, [], 0, 0, 0, Nat.zero_le _, Nat.zero_le _, rfl, rfl, rfl, rfl, rfl, HPH.out, HLG.out⟩
  case round =>
    obtain ⟨i, C, f, cap, A9, c9, ins, out, pa, fr, hil, hi60, rfl, rfl, rfl, rfl, rfl, hph, hlg⟩ := hrel
    clear HPH HLG
    have HPH := Lib.hid hph
    have HLG := Lib.hid hlg
    obtain ⟨ni, hni⟩ : ∃ ni, ni = ins.length := ⟨_, rfl⟩
    have HNI := Lib.hid hni
    have hni60 : ni ≤ 60 := by have := hlg.lei; omega
    have hou60 : out ≤ 60 := by have := hlg.ole; omega
    have hpa60 : pa ≤ 60 := by have := hlg.pai; omega
    have hfr60 : fr ≤ 60 := by have := hlg.fri; omega
    rw [← hni]
    obtain ⟨AL, hAL⟩ : ∃ AL, AL = g.AL := ⟨_, rfl⟩
    obtain ⟨cL, hcL⟩ : ∃ cL, cL = g.cL := ⟨_, rfl⟩
    have hcl : wr.cell? ⟨b1, 9, none⟩ = some (.slice AL nl cL) := hph.box.cell (by rw [hAL, hcL, HNM.out.2]; rfl)
    have HAL := Lib.hid hAL
    clear hph hlg hni hAL hcL
    by_cases hin : i < nl
    case neg =>
      go_wp2
      go_ret
      exact ⟨rfl, HPH.out.bel⟩
    by_cases hi6 : i < 60
    case neg =>
      have hi6e : i = 60 := by omega
      subst hi6e
      go_wp2
      go_ret
      exact ⟨rfl, HPH.out.bel⟩
    have hil2 : i < ms.length := by rw [← HNM.out.1]; exact hin
    obtain ⟨gl, kl, hA3, hglB, hgls, hrow⟩ := HMS.out.rows (by rintro rfl; simp at hil2)
    rw [← HAL.out] at hA3
    subst hA3
    obtain ⟨m, hm⟩ : ∃ m, m = ms[i] := ⟨_, rfl⟩
    have HMO : Hid (m.Ok w w.heap.size) := Lib.hid (by rw [hm]; exact HMS.out.ok _ (List.getElem_mem hil2))
    have HROW : Hid (wr.rangeAt gl (kl + i * 3) (msv m)) := Lib.hid (by rw [hm]; exact range_below (hrow i hil2) HPH.out.bel hglB)
    have HIN : Hid (i < nl ∧ i < 60) := Lib.hid ⟨hin, hi6⟩
    clear hil2 hm hglB hgls hrow
    go_wp2_with (first
      | ((with_reducible show wpList _ _ _ (Oper.mk _ (Op.load 49 _) _ _ _ _ :: _) _ _); refine wpList_loadM sMs rfl _ rfl gl (kl + i * 3) (msv m) rfl HROW.out rfl ?_)
      | ((with_reducible show wpList _ _ _ (Oper.mk _ (Op.alloc 49) _ _ _ _ :: _) _ _); refine wpList_allocS _ zMs rfl rfl ?_)
      | fail)
    intro wa hba hga hsa
    obtain ⟨b14, hb14e⟩ : ∃ b, b = wr.heap.size := ⟨_, rfl⟩
    rw [← hb14e] at hba ⊢
    have HBA := Lib.hid hba
    have HGA : Hid (Below wr.heap.size wr wa ∧ wr.heap.size = b14) := Lib.hid ⟨grown_below hga (Nat.le_refl _) (fun k e => by cases e), hb14e.symm⟩
    clear hba hga hsa hb14e HROW hcl
    go_wp2_with (first
      | ((with_reducible show wpList _ _ _ (Oper.mk _ (Op.store 49 _ _) _ _ _ _ :: _) _ _); refine wpList_storeS sMs rfl _ _ rfl b14 _ (msv m) rfl rfl HBA.out rfl rfl (msv_one _) ?_)
      | fail)
    intro wb hbb hgb
    have HCB : Hid (Below wr.heap.size wr wb) := Lib.hid (below_trans HGA.out.1 (grown_below hgb HGA.out.1.size fun k e => by injection e with e; have := HGA.out.2; omega))
    have HBB := Lib.hid hbb
    have HPB : Hid (GPh w wb w9.heap.size b1 cb b5 g C f cap A9 c9 ins) := Lib.hid (HPH.out.below HCB.out)
    have HA14 : Hid (A9 = none ∨ A9.map (·.block) ≠ some b14) := Lib.hid (by
      cases hA : A9.map (·.block) with
      | none => exact .inr (by simp)
      | some x => exact .inr fun e => by have := (HPH.out.os.lt x hA).2; have := HGA.out.2; injection e with e; omega)
    have HB14 : Hid (w9.heap.size ≤ b14) := Lib.hid (by have := HPH.out.sz; have := HGA.out.2; omega)
    obtain ⟨ml, hml⟩ : ∃ ml, ml = m.b.length := ⟨_, rfl⟩
    obtain ⟨Am, hAm⟩ : ∃ Am, Am = m.A := ⟨_, rfl⟩
    obtain ⟨cm, hcm⟩ : ∃ cm, cm = m.c := ⟨_, rfl⟩
    have HML : Hid (ml = m.b.length ∧ Am = m.A ∧ cm = m.c) := Lib.hid ⟨hml, hAm, hcm⟩
    have hcm0 : wb.cell? ⟨b14, 0, none⟩ = some (.slice Am ml cm) := hbb.cell (by rw [hml, hAm, hcm]; rfl)
    have hml47 : ml ≤ 140737488351232 := by rw [hml]; exact HMO.out.len
    clear hbb hgb hml hAm hcm HBA HGA HCB
    go_upto_if 127 with (fail)
    go_cut [14] (fun s14 wx => ∃ (Ax : Option Addr) (cx : Nat) (l : List UInt8), s14 = .pointer (some ⟨b14, 0, none⟩) ∧ Hid (l.length ≤ 60 ∧ l.length ≤ cx ∧ RB wx w.heap.size Ax l) ∧ Hid (Blk wx b14 [.slice Ax l.length cx, .bool m.recv, .bool m.frame]) ∧ Hid (GPh w wx w9.heap.size b1 cb b5 g C f cap A9 c9 ins))
    case first =>
      have HRBm : Hid (RB wb w.heap.size Am m.b) := Lib.hid (by rw [HML.out.2.1]; exact HMO.out.rb.below HPB.out.bel)
      have HCM : Hid (m.b.length ≤ cm) := Lib.hid (by rw [HML.out.2.2]; exact HMO.out.cap)
      by_cases hlt : 60 < ml
      ·
        as_aux_lemma =>
          have hlt2 : (60 : Int) < ml := by omega
          go_wp2_with (first
            | ((with_reducible show wpList _ _ _ (Oper.mk (some 130) _ _ _ _ _ :: _) _ _); refine wpList_cut _ (.inl rfl) _ _ _ rfl w.heap.size Am ml cm m.b HML.out.1 rfl HRBm.out HCM.out 0 60 (.inl ⟨rfl, rfl⟩) (.inr rfl) (by omega) (by omega) ?_)
            | fail)
          intro A2 m2 l2 hl2 hm2 hml2 hr2
          have HL2 : Hid (l2.length = 60) := Lib.hid (by rw [← hml2, hm2.out])
          have HR2 := Lib.hid hr2
          obtain ⟨n2, hn2⟩ : ∃ n2, n2 = l2.length := ⟨_, rfl⟩
          have HN2 := Lib.hid hn2
          rw [← hn2]
          clear hl2 hm2 hml2 hr2 hn2
          go_wp2_with (first
            | ((with_reducible show wpList _ _ _ (Oper.mk _ (Op.store 40 _ _) _ _ _ _ :: _) _ _); refine wpList_storeB rfl 40 _ _ rfl b14 0 _ (.slice A2 n2 cm) rfl rfl HBB.out (by simp [msv]) s1Byts rfl ?_)
            | fail)
          intro wd hbd hgd
          have HBD : Hid (Blk wd b14 [.slice A2 l2.length cm, .bool m.recv, .bool m.frame]) := Lib.hid (by rw [← HN2.out]; exact hbd)
          have HPD : Hid (GPh w wd w9.heap.size b1 cb b5 g C f cap A9 c9 ins) := Lib.hid (HPB.out.other HNB.out HB14.out hgd HA14.out)
          have HRD : Hid (l2.length ≤ 60 ∧ l2.length ≤ cm ∧ RB wd w.heap.size A2 l2) := Lib.hid ⟨by rw [HL2.out]; exact Nat.le_refl _, by have := HL2.out; have := HCM.out; have := HML.out.1; omega, HR2.out.below (grown_below hgd HPB.out.bel.size fun k e => by injection e with e; have := HB14.out; have := HNB.out.a1; have := HNB.out.d1; omega)⟩
          clear hbd hgd
          go_wp2_with fail
          go_meet
          case rel => exact ⟨A2, cm, l2, rfl, HRD, HBD, HPD⟩
      · have hlt2 : ¬ (60 : Int) < ml := by omega
        have HRD : Hid (m.b.length ≤ 60 ∧ m.b.length ≤ cm ∧ RB wb w.heap.size Am m.b) := Lib.hid ⟨by have := HML.out.1; omega, HCM.out, HRBm.out⟩
        have HBD : Hid (Blk wb b14 [.slice Am m.b.length cm, .bool m.recv, .bool m.frame]) := Lib.hid (by rw [HML.out.2.1, HML.out.2.2]; exact HBB.out)
        go_wp2_with fail
        go_meet
        case rel => exact ⟨Am, cm, m.b, rfl, HRD, HBD, HPB⟩
    case rest =>
      obtain ⟨Ax, cx, l, rfl, HLX, HBX, HPX⟩ := hcut
      obtain ⟨ll, hll⟩ : ∃ ll, ll = l.length := ⟨_, rfl⟩
      have HLL := Lib.hid hll
      have hll60 : ll ≤ 60 := by rw [hll]; exact HLX.out.1
      obtain ⟨rv, hrv⟩ : ∃ rv, rv = m.recv := ⟨_, rfl⟩
      obtain ⟨fm, hfm⟩ : ∃ fm, fm = m.frame := ⟨_, rfl⟩
      have hcA : wc.cell? ⟨b14, 0, none⟩ = some (.slice Ax ll cx) := HBX.out.cell (by rw [hll]; rfl)
      have hcR : wc.cell? ⟨b14, 1, none⟩ = some (.bool rv) := HBX.out.cell (by rw [hrv]; rfl)
      have hcF : wc.cell? ⟨b14, 2, none⟩ = some (.bool fm) := HBX.out.cell (by rw [hfm]; rfl)
      have hi60c : i < 60 := HIN.out.2
      clear hll hrv hfm hi60 hi6 hin hil
      refine (by assumption : ∀ (a : Act) (w : World), Code.wp _ _ _ a w → _) _ _ ?_
      cases fm with
      | true =>
        as_aux_lemma =>
          clear hcR hcA
          go_wp2_with (first
            | ((with_reducible show wpList _ _ _ (Oper.mk (some 184) (Op.load 36 _) _ _ _ _ :: _) _ _); refine wpList_loadS sCap rfl _ rfl b5 (cpv cap) rfl HPX.out.cap rfl ?_)
            | fail)
          clear hcF
          refine (frame_calls wc cap HLG.out.capok).mono ?_
          rintro e w2 ⟨rfl, hb⟩
          have HP2 := Lib.hid (HPX.out.below hb)
          clear hb
          go_wp2_with (first
            | ((with_reducible show wpList _ _ _ (Oper.mk _ (Op.store 36 _ _) _ _ _ _ :: _) _ _); refine wpList_storeS sCap rfl _ _ rfl b5 (cpv cap) (cpv cap.framed) rfl rfl HP2.out.cap rfl rfl (cpv_one _) ?_)
            | fail)
          intro w3 hb3 hg3
          have HPZ := Lib.hid (HP2.out.capS HNB.out hg3 hb3)
          have HLZ := Lib.hid HLG.out.frame
          have HNZ := HNI
          obtain ⟨fr2, hfr2⟩ : ∃ fr2, fr2 = fr + 1 := ⟨_, rfl⟩
          have hfrI : (fr : Int) + 1 = (fr2 : Int) := by omega
          rw [← hfr2] at HLZ
          clear hb3 hg3 hfr2
          obtain ⟨nq, hnq⟩ : ∃ nq, nq = (C).q.length := ⟨_, rfl⟩

          obtain ⟨pr, hpr⟩ : ∃ pr, pr = rt * (fr2 : Int) := ⟨_, rfl⟩
          obtain ⟨sm, hsm⟩ : ∃ sm, sm = bu + pr := ⟨_, rfl⟩
          have hsums := HLZ.out.sums (by omega)
          rw [← HKD.out.2.2.1, ← HKD.out.2.2.2.1, ← hpr, ← hsm] at hsums
          have q1 : rt * (fr2 : Int) = pr := hpr.symm
          have q2 : bu + pr = sm := hsm.symm
          have q1b : wrap64 pr = pr := (Go.IntWalk.i64_left pr).symm.trans hsums.1
          have q2b : wrap64 sm = sm := (Go.IntWalk.i64_left sm).symm.trans hsums.2.1
          have q3 : ¬ sm < (pa : Int) := hsums.2.2
          have q4 : IntKind.i64.wrap ((ni : Int) - (out : Int)) = (nq : Int) := by
            have := HLZ.out.waits (by omega)
            rw [← HNZ.out, ← hnq] at this
            exact this
          have hnq16 : nq ≤ 16 := by rw [hnq]; exact HLZ.out.w16
          have hcW : (w3).cell? ⟨cb, 4, none⟩ = some (.int .i64 (nq : Int)) := HPZ.out.blk.cell (by rw [hnq]; rfl)
          have hcr : (w3).cell? ⟨b1, 7, none⟩ = some (.int .i64 rt) := HPZ.out.box.cell (by rw [HKD.out.2.2.1]; rfl)
          have hcu : (w3).cell? ⟨b1, 8, none⟩ = some (.int .i64 bu) := HPZ.out.box.cell (by rw [HKD.out.2.2.2.1]; rfl)
          clear hnq hsm hpr hsums
          go_wp2_with (go_at_call 7; refine (waiting_calls _ _ _ hcW).mono ?_; rintro e w' ⟨rfl, rfl⟩)
          clear hcW hcr hcu q1 q1b q2 q2b q3 q4
          go_roundw
          case rel => exact ⟨i + 1, C, f, cap.framed, A9, c9, ins, out, pa, fr2, by have := HIN.out; omega, by have := HIN.out; omega, by go_num, by rw [HNZ.out], rfl, rfl, rfl, HPZ.out, HLZ.out⟩
          case measure => have := HIN.out; simp [intOf]; omega

      | false =>
        cases rv with
        | true =>
          clear hcA
          go_wp2_with fail
          clear hcR hcF
          refine (recv_calls wc cb C f i HLG.out.ok HPX.out.f16 HPX.out.blk (by omega)).mono ?_
          rintro e w4 ⟨A4, c4, rfl, hox, ⟨f4, hf4, hb4⟩, hg4⟩
          cases hq : C.q with
          | nil =>
            as_aux_lemma =>
              have hse : C.recv i = (C, [], 0, 6) := by unfold Ch.recv; rw [hq]
              rw [hse] at hox hb4 ⊢
              have HP4 : Hid (GPh w w4 w9.heap.size b1 cb b5 g C f4 cap A9 c9 ins) := Lib.hid (HPX.out.chan HNB.out hf4 hg4 hb4)
              have houe : out = ni := by
                have h1 := HLG.out.wait
                rw [hq] at h1
                have := HLG.out.ole
                have := HNI.out
                simp at h1
                omega
              subst houe
              have HLN := Lib.hid HLG.out.next
              clear hse hq hox hb4 hg4
              go_wp2
              go_roundw
              case rel => exact ⟨i + 1, C, f4, cap, A9, c9, ins, out, pa, fr, by have := HIN.out; omega, by have := HIN.out; omega, by go_num, by rw [HNI.out], rfl, rfl, rfl, HP4.out, HLN.out⟩
              case measure => have := HIN.out; simp [intOf]; omega
          | cons q0 qr =>
            as_aux_lemma =>
              have hkne : C.kind ≠ 0 := by have := HLG.out.kind; omega
              have hse : C.recv i = ({ C with q := qr }, q0.b, i - q0.at_, 0) := by unfold Ch.recv; rw [hq]; simp only [if_neg hkne]
              have hokr := Ch.recv_ok C HLG.out.ok i
              rw [hse] at hox hb4 hokr ⊢
              have HP4 : Hid (GPh w w4 w9.heap.size b1 cb b5 g { C with q := qr } f4 cap A9 c9 ins) := Lib.hid (HPX.out.chan HNB.out hf4 hg4 hb4)
              obtain ⟨hin2, hl4⟩ := HLG.out.recv hq hokr
              have HIN2 := Lib.hid hin2
              have HL4 := Lib.hid hl4
              have HOX : Hid (RB w4 w4.heap.size A4 q0.b ∧ q0.b.length ≤ c4) := Lib.hid ⟨hox.rb, hox.len⟩
              obtain ⟨bl, hbl⟩ : ∃ bl, bl = q0.b.length := ⟨_, rfl⟩
              have HBL := Lib.hid hbl
              simp only
              rw [← hbl]
              clear hse hq hox hb4 hg4 hokr hkne hin2 hl4 hbl
              obtain ⟨hoin, hinq⟩ := HIN2.out
              obtain ⟨g9, hA9, hg9B, hg9s, hc9⟩ := HP4.out.os.get hoin
              subst hA9
              rw [hinq] at hc9
              have hgood : Good g q0.b ∧ q0.b.length ≤ 60 := by rw [← hinq]; exact HLG.out.good _ (List.getElem_mem hoin)
              have HGO := Lib.hid hgood
              have QO : Hid (out < ni) := Lib.hid (by rw [HNI.out]; exact hoin)
              have CV : Hid (∀ w', Below w4.drew.heap.size w4.drew w' → (convert 40 9 (.slice A4 bl c4)).run Tryd.prog w' = .ok (.string (strB q0.b)) w') := Lib.hid fun w' hb => run_conv w' ((show RB w4.drew w4.drew.heap.size A4 q0.b from HOX.out.1).below hb) bl c4 HBL.out
              have NS : Hid (∀ w', Below w4.drew.heap.size w4.drew w' → w'.cell? ⟨g9, out, none⟩ = some (.string (strB q0.b))) := Lib.hid fun w' hb => by
                rw [hb.cell (p := ⟨g9, out, none⟩) hg9s]
                exact hc9
              have LG : Hid (∀ w', Below w4.drew.heap.size w4.drew w' → (Instr.loadAt 30 (.pointer (some ⟨b1, 0, none⟩))).run Tryd.prog w' = .ok (.agg (gdv g).toArray) w') := Lib.hid fun w' hb => by
                have h := run_loadS sGd b1 _ (HP4.out.box.drew.below hb HP4.out.box.lt) rfl
                simp only [Instr.loadAt, Instr.sureAddr, Sem.run_bind, Sem.run_pure, Result.andThen_ok, h]
              have SD : Hid (∀ w', Below w4.drew.heap.size w4.drew w' → Calls Tryd.prog 12 #[.agg (gdv g).toArray, .slice A4 bl c4] w' fun e w'' => ∃ v, e = .returned v ∧ (VD.is (.bool true)).ok v w'' ∧ Below w'.heap.size w' w'') := Lib.hid fun w' hb => by
                rw [HBL.out]
                have hbw : Below w.heap.size w w' := below_trans HP4.out.bel (below_trans (drew_below _ _) (hb.mono HP4.out.bel.size))
                exact (said_calls w' g A4 c4 q0.b ⟨(HG.out.rf.below hbw (Nat.le_refl _)).mono hbw.size, (HG.out.rg.below hbw).mono hbw.size⟩ HRO.out HSH.out HRU.out HBY.out (((show RB w4.drew w4.drew.heap.size A4 q0.b from HOX.out.1).below hb).mono hb.size) HOX.out.2 (by have := HGO.out.2; omega) HGO.out.1).mono fun _ _ h => h.ex
              clear hoin hinq hc9 hg9B hg9s hgood
              go_wp2_with fail
              refine region_monos (fun ix9 => ([.is (.int .i64 (out : Int)), .is (.slice (some ⟨g9, 0, none⟩) ni c9), .is (.int .i64 (ni : Int)), .is (.bool false), .is (.bool false), .is (.slice A4 bl c4), .is (.string (strB q0.b)), .is (.slice (some ⟨g9, 0, none⟩) ni c9), .is (.int .i64 (out : Int)), .is (.pointer (some ⟨g9, out, none⟩)), .is (.string (strB q0.b)), .is (.bool false), .is (.bool false), .is (.bool false), .is (.agg (gdv g).toArray), .is (.slice A4 bl c4), .is (.bool true), .is (.bool false), .is (.bool false)] : List VD).getD ix9 (.is undef)) [some 205, some 206, some 207, some 208, some 209, some 210, some 211, some 212, some 213, some 214, some 215, some 216, some 217, some 218, some 219, some 220, some 221, some 222, some 223] (by kernel_rfl) (by kernel_rfl) (by kernel_rfl) rfl (fun ii hii => ?_) ?_
              · match ii, hii with
                | 0, _ => exact mstep_first rfl (mwant_none rfl) 10 (Or.inl rfl) (by kernel_rfl) (fun _ _ => rfl)
                | 1, _ => exact mstep_first rfl (mwant_none rfl) 9 (Or.inl rfl) (by kernel_rfl) (fun _ _ => rfl)
                | 2, _ => exact mstep_pure rfl (mwant_none rfl) (fun aa ww cc => ⟨.int .i64 (ni : Int), by have e0 : aa.tmps.getD 206 undef = .slice (some ⟨g9, 0, none⟩) ni c9 := cc.slot 1 206 (by kernel_rfl) rfl; simp only [execOp, Act.eval, e0]; go_simp, rfl⟩)
                | 3, _ => exact mstep_pure rfl (mwant_none rfl) (fun aa ww cc => ⟨.bool false, by have e0 : aa.tmps.getD 205 undef = .int .i64 (out : Int) := cc.slot 0 205 (by kernel_rfl) rfl; have e1 : aa.tmps.getD 207 undef = .int .i64 (ni : Int) := cc.slot 2 207 (by kernel_rfl) rfl; have q := QO.out; simp only [execOp, Act.eval, e0, e1]; go_simp, rfl⟩)
                | 4, _ => exact mstep_copy rfl (mwant_none rfl) 208 (Or.inl rfl) 3 (by kernel_rfl) rfl rfl
                | 5, _ => exact mstep_first rfl (mwant 4 false 209 rfl (by kernel_rfl) rfl rfl (by kernel_rfl)) 15 (Or.inl rfl) (by kernel_rfl) (fun _ _ => rfl)
                | 6, _ => exact mstep_pure rfl (mwant 4 false 209 rfl (by kernel_rfl) rfl rfl (by kernel_rfl)) (fun aa ww cc => ⟨.string (strB q0.b), by have e0 : aa.tmps.getD 210 undef = .slice A4 bl c4 := cc.slot 5 210 (by kernel_rfl) rfl; have q := CV.out _ cc.below; simp only [execOp, Act.eval, e0]; go_simp, rfl⟩)
                | 7, _ => exact mstep_first rfl (mwant 4 false 209 rfl (by kernel_rfl) rfl rfl (by kernel_rfl)) 9 (Or.inl rfl) (by kernel_rfl) (fun _ _ => rfl)
                | 8, _ => exact mstep_first rfl (mwant 4 false 209 rfl (by kernel_rfl) rfl rfl (by kernel_rfl)) 10 (Or.inl rfl) (by kernel_rfl) (fun _ _ => rfl)
                | 9, _ => exact mstep_pure rfl (mwant 4 false 209 rfl (by kernel_rfl) rfl rfl (by kernel_rfl)) (fun aa ww cc => ⟨.pointer (some ⟨g9, out, none⟩), by have e0 : aa.tmps.getD 212 undef = .slice (some ⟨g9, 0, none⟩) ni c9 := cc.slot 7 212 (by kernel_rfl) rfl; have e1 : aa.tmps.getD 213 undef = .int .i64 (out : Int) := cc.slot 8 213 (by kernel_rfl) rfl; have q := QO.out; simp only [execOp, Act.eval, e0, e1]; go_simp, rfl⟩)
                | 10, _ => exact mstep_pure rfl (mwant 4 false 209 rfl (by kernel_rfl) rfl rfl (by kernel_rfl)) (fun aa ww cc => ⟨.string (strB q0.b), by have e0 : aa.tmps.getD 214 undef = .pointer (some ⟨g9, out, none⟩) := cc.slot 9 214 (by kernel_rfl) rfl; have q := NS.out _ cc.below; simp only [execOp, Act.eval, e0]; go_simp, rfl⟩)
                | 11, _ => exact mstep_pure rfl (mwant 4 false 209 rfl (by kernel_rfl) rfl rfl (by kernel_rfl)) (fun aa ww cc => ⟨.bool false, by have e0 : aa.tmps.getD 211 undef = .string (strB q0.b) := cc.slot 6 211 (by kernel_rfl) rfl; have e1 : aa.tmps.getD 215 undef = .string (strB q0.b) := cc.slot 10 215 (by kernel_rfl) rfl; simp only [execOp, Act.eval, e0, e1]; go_simp, rfl⟩)
                | 12, _ => exact mstep_pure rfl (mwant_none rfl) (fun aa ww cc => ⟨.bool false, by have e0 : aa.tmps.getD 209 undef = .bool false := cc.slot 4 209 (by kernel_rfl) rfl; have e1 : aa.tmps.getD 216 undef = .bool false := cc.slot 11 216 (by kernel_rfl) rfl; simp only [execOp, Act.eval, e0, e1]; go_simp, rfl⟩)
                | 13, _ => exact mstep_copy rfl (mwant_none rfl) 217 (Or.inl rfl) 12 (by kernel_rfl) rfl rfl
                | 14, _ => exact mstep_loadT rfl (mwant 13 false 218 rfl (by kernel_rfl) rfl rfl (by kernel_rfl)) 1 _ rfl (by kernel_rfl) _ _ rfl rfl (fun w hb => LG.out w hb)
                | 15, _ => exact mstep_first rfl (mwant 13 false 218 rfl (by kernel_rfl) rfl rfl (by kernel_rfl)) 15 (Or.inl rfl) (by kernel_rfl) (fun _ _ => rfl)
                | 16, _ => exact mstep_call rfl (mwant 13 false 218 rfl (by kernel_rfl) rfl rfl (by kernel_rfl)) _ _ _ rfl (enters_of Tryd.func12 (by kernel_rfl) rfl) (fun aa ww cc => by have e0 : aa.tmps.getD 219 undef = .agg (gdv g).toArray := cc.slot 14 219 (by kernel_rfl) rfl; have e1 : aa.tmps.getD 220 undef = .slice A4 bl c4 := cc.slot 15 220 (by kernel_rfl) rfl; simp only [List.map_toArray, List.map_cons, List.map_nil, Act.eval, e0, e1]; exact (SD.out) ww cc.below)
                | 17, _ => exact mstep_pure rfl (mwant 13 false 218 rfl (by kernel_rfl) rfl rfl (by kernel_rfl)) (fun aa ww cc => ⟨.bool false, by have e0 : aa.tmps.getD 221 undef = .bool true := cc.slot 16 221 (by kernel_rfl) rfl; simp only [execOp, Act.eval, e0]; go_simp, rfl⟩)
                | 18, _ => exact mstep_pure rfl (mwant_none rfl) (fun aa ww cc => ⟨.bool false, by have e0 : aa.tmps.getD 218 undef = .bool false := cc.slot 13 218 (by kernel_rfl) rfl; have e1 : aa.tmps.getD 222 undef = .bool false := cc.slot 17 222 (by kernel_rfl) rfl; simp only [execOp, Act.eval, e0, e1]; go_simp, rfl⟩)
                | n + 19, h => exact absurd h (by show ¬ (n + 19 < 19); omega)
              · intro VV w5 hlen hb5 hok
                match VV, hlen with
                | [v0, v1, v2, v3, v4, v5, v6, v7, v8, v9, v10, v11, v12, v13, v14, v15, v16, v17, v18], _ =>
                  obtain rfl : v0 = .int .i64 (out : Int) := hok 0 205 rfl
                  obtain rfl : v1 = .slice (some ⟨g9, 0, none⟩) ni c9 := hok 1 206 rfl
                  obtain rfl : v2 = .int .i64 (ni : Int) := hok 2 207 rfl
                  obtain rfl : v3 = .bool false := hok 3 208 rfl
                  obtain rfl : v4 = .bool false := hok 4 209 rfl
                  obtain rfl : v5 = .slice A4 bl c4 := hok 5 210 rfl
                  obtain rfl : v6 = .string (strB q0.b) := hok 6 211 rfl
                  obtain rfl : v7 = .slice (some ⟨g9, 0, none⟩) ni c9 := hok 7 212 rfl
                  obtain rfl : v8 = .int .i64 (out : Int) := hok 8 213 rfl
                  obtain rfl : v9 = .pointer (some ⟨g9, out, none⟩) := hok 9 214 rfl
                  obtain rfl : v10 = .string (strB q0.b) := hok 10 215 rfl
                  obtain rfl : v11 = .bool false := hok 11 216 rfl
                  obtain rfl : v12 = .bool false := hok 12 217 rfl
                  obtain rfl : v13 = .bool false := hok 13 218 rfl
                  obtain rfl : v14 = .agg (gdv g).toArray := hok 14 219 rfl
                  obtain rfl : v15 = .slice A4 bl c4 := hok 15 220 rfl
                  obtain rfl : v16 = .bool true := hok 16 221 rfl
                  obtain rfl : v17 = .bool false := hok 17 222 rfl
                  obtain rfl : v18 = .bool false := hok 18 223 rfl
                  have HPZ : Hid (GPh w w5 w9.heap.size b1 cb b5 g { C with q := qr } f4 cap (some ⟨g9, 0, none⟩) c9 ins) := Lib.hid (HP4.out.below hb5)
                  have HLZ := HL4
                  have HNZ := HNI
                  obtain ⟨ou2, hou2⟩ : ∃ ou2, ou2 = out + 1 := ⟨_, rfl⟩
                  have houI : (out : Int) + 1 = (ou2 : Int) := by omega
                  rw [← hou2] at HLZ
                  clear hb5 hok CV NS LG SD hou2
                  simp only [List.zip_cons_cons, List.zip_nil_right, putsL]
                  go_simp
                  obtain ⟨nq, hnq⟩ : ∃ nq, nq = ({ C with q := qr }).q.length := ⟨_, rfl⟩
                  obtain ⟨pr, hpr⟩ : ∃ pr, pr = rt * (fr : Int) := ⟨_, rfl⟩
                  obtain ⟨sm, hsm⟩ : ∃ sm, sm = bu + pr := ⟨_, rfl⟩
                  have hsums := HLZ.out.sums (by omega)
                  rw [← HKD.out.2.2.1, ← HKD.out.2.2.2.1, ← hpr, ← hsm] at hsums
                  have q1 : rt * (fr : Int) = pr := hpr.symm
                  have q2 : bu + pr = sm := hsm.symm
                  have q1b : wrap64 pr = pr := (Go.IntWalk.i64_left pr).symm.trans hsums.1
                  have q2b : wrap64 sm = sm := (Go.IntWalk.i64_left sm).symm.trans hsums.2.1
                  have q3 : ¬ sm < (pa : Int) := hsums.2.2
                  have q4 : IntKind.i64.wrap ((ni : Int) - (ou2 : Int)) = (nq : Int) := by
                    have := HLZ.out.waits (by omega)
                    rw [← HNZ.out, ← hnq] at this
                    exact this
                  have hnq16 : nq ≤ 16 := by rw [hnq]; exact HLZ.out.w16
                  have hcW : (w5).cell? ⟨cb, 4, none⟩ = some (.int .i64 (nq : Int)) := HPZ.out.blk.cell (by rw [hnq]; rfl)
                  have hcr : (w5).cell? ⟨b1, 7, none⟩ = some (.int .i64 rt) := HPZ.out.box.cell (by rw [HKD.out.2.2.1]; rfl)
                  have hcu : (w5).cell? ⟨b1, 8, none⟩ = some (.int .i64 bu) := HPZ.out.box.cell (by rw [HKD.out.2.2.2.1]; rfl)
                  clear hnq hsm hpr hsums
                  go_wp2_with (go_at_call 7; refine (waiting_calls _ _ _ hcW).mono ?_; rintro e w' ⟨rfl, rfl⟩)
                  clear hcW hcr hcu q1 q1b q2 q2b q3 q4
                  go_roundw
                  case rel => exact ⟨i + 1, { C with q := qr }, f4, cap, _, c9, ins, ou2, pa, fr, by have := HIN.out; omega, by have := HIN.out; omega, by go_num, by rw [HNZ.out], rfl, rfl, rfl, HPZ.out, HLZ.out⟩
                  case measure => have := HIN.out; simp [intOf]; omega
        | false =>
          have hd5 : wc.cell? ⟨b1, 5, none⟩ = some (.int .i64 nms) := HPX.out.box.cell (by rw [HNMS.out.1]; rfl)
          have hd6 : wc.cell? ⟨b1, 6, none⟩ = some (.slice AG ng cG) := HPX.out.box.cell (by rw [HAG.out.1, HAG.out.2.1, HKD.out.2.2.2.2.2]; rfl)
          go_wp2_with fail
          clear hd5 hd6 hcA hcR hcF
          have HWC := Lib.hid HPX.out.bel
          rw [HKD.out.2.2.2.2.2, HLL.out]
          refine (match_calls wc nms AG Ax cG cx g.R l HRO.out (by rw [HAG.out.1]; exact (HG.out.rg.below HWC.out).mono HWC.out.size) HBY.out (HLX.out.2.2.mono HWC.out.size) HLX.out.2.1 (by rw [← HLL.out]; omega)).mono ?_
          rw [← HKD.out.2.2.2.2.2, ← HLL.out]
          rintro e w2 ⟨⟨rs, ce, rfl, hyes⟩, hb⟩
          have HYES := Lib.hid hyes
          have HP2 := Lib.hid (HPX.out.below hb)
          have HBX2 : Hid (Blk w2 b14 [.slice Ax l.length cx, .bool m.recv, .bool m.frame]) := Lib.hid (HBX.out.below hb HBX.out.lt)
          have HRB2 : Hid (RB w2 w.heap.size Ax l) := Lib.hid (HLX.out.2.2.below (hb.mono HWC.out.size))
          clear hyes hb
          by_cases hrs : rs = 1
          case neg =>
            as_aux_lemma =>
              have hrsb : (rs != 1) = true := by simpa using hrs
              have HLN := Lib.hid HLG.out.next
              go_wp2
              go_roundw
              case rel => exact ⟨i + 1, C, f, cap, A9, c9, ins, out, pa, fr, by have := HIN.out; omega, by have := HIN.out; omega, by go_num, by rw [HNI.out], rfl, rfl, rfl, HP2.out, HLN.out⟩
              case measure => have := HIN.out; simp [intOf]; omega

          subst hrs
          have HDER : Hid (DB (fms (gof g.R)) [⟨0, 0, 0⟩] (byts l)) := Lib.hid (HYES.out rfl).2
          have hr2 : w2.cell? ⟨b1, 2, none⟩ = some (.int .i64 les) := HP2.out.box.cell (by rw [HNMS.out.2.1]; rfl)
          have hr3 : w2.cell? ⟨b1, 3, none⟩ = some (.int .i64 mos) := HP2.out.box.cell (by rw [HNMS.out.2.2]; rfl)
          have hr4 : w2.cell? ⟨b1, 4, none⟩ = some (.slice AF nf cF) := HP2.out.box.cell (by rw [HAG.out.2.2.1, HAG.out.2.2.2, HKD.out.2.2.2.2.1]; rfl)
          have hcA : w2.cell? ⟨b14, 0, none⟩ = some (.slice Ax ll cx) := HBX2.out.cell (by rw [HLL.out]; rfl)
          go_wp2_with fail
          clear hr2 hr3 hr4 hcA
          have HW2 := Lib.hid HP2.out.bel
          rw [HKD.out.2.2.2.2.1, HLL.out]
          refine (fpass_calls w2 les mos AF Ax cF cx g.fs l (by rw [HAG.out.2.2.1]; exact (HG.out.rf.below HW2.out (Nat.le_refl _)).mono HW2.out.size) (by rw [HNMS.out.2.1, HNMS.out.2.2]; exact HRU.out) (HRB2.out.mono HW2.out.size) HLX.out.2.1 (by rw [← HLL.out]; omega)).mono ?_
          rw [← HKD.out.2.2.2.2.1, ← HLL.out]
          rintro e w3 ⟨⟨rfl, hsat⟩ | ⟨gv, rfl, _⟩, hb⟩
          case inr =>
            as_aux_lemma =>
              have HP3 := Lib.hid (HP2.out.below hb)
              have HLN := Lib.hid HLG.out.next
              clear hb
              go_wp2
              go_roundw
              case rel => exact ⟨i + 1, C, f, cap, A9, c9, ins, out, pa, fr, by have := HIN.out; omega, by have := HIN.out; omega, by go_num, by rw [HNI.out], rfl, rfl, rfl, HP3.out, HLN.out⟩
              case measure => have := HIN.out; simp [intOf]; omega

          have HGOOD : Hid (Good g l ∧ l.length ≤ 60) := Lib.hid ⟨⟨by rw [← HNMS.out.2.1, ← HNMS.out.2.2]; exact hsat, HDER.out⟩, HLX.out.1⟩
          have HP3 := Lib.hid (HP2.out.below hb)
          have HBX3 : Hid (Blk w3 b14 [.slice Ax l.length cx, .bool m.recv, .bool m.frame]) := Lib.hid (HBX2.out.below hb HBX2.out.lt)
          have HRB3 : Hid (RB w3 w.heap.size Ax l) := Lib.hid (HRB2.out.below (hb.mono HW2.out.size))
          clear hsat hb
          go_wp2_with (first
            | ((with_reducible show wpList _ _ _ (Oper.mk (some 151) (Op.load 36 _) _ _ _ _ :: _) _ _); refine wpList_loadS sCap rfl _ rfl b5 (cpv cap) rfl HP3.out.cap rfl ?_)
            | fail)
          refine (take_calls w3 cap HLG.out.capok).mono ?_
          rintro e w4 ⟨⟨rfl, hlft⟩ | ⟨rfl, _⟩, hb⟩
          case inr =>
            as_aux_lemma =>
              have HP4 := Lib.hid (HP3.out.below hb)
              clear hb
              go_wp2_with (first | ((with_reducible show wpList _ _ _ (Oper.mk (some 20) (Op.alloc 36) _ _ _ _ :: _) _ _); refine wpList_allocS _ zCap rfl rfl ?_) | fail)
              intro w5 hb5 hg5 hs5
              obtain ⟨b20, hb20⟩ : ∃ b, b = w4.heap.size := ⟨_, rfl⟩
              rw [← hb20] at hb5 ⊢
              have HB20 := Lib.hid hb5
              have HC45 : Hid (Below w4.heap.size w4 w5 ∧ b20 = w4.heap.size) := Lib.hid ⟨grown_below hg5 (Nat.le_refl _) (fun k e => by cases e), hb20⟩
              clear hb5 hg5 hs5 hb20
              go_wp2_with (first
                | ((with_reducible show wpList _ _ _ (Oper.mk _ (Op.store 36 (.tmp 20) _) _ _ _ _ :: _) _ _); refine wpList_storeS sCap rfl _ _ rfl b20 (cpv ⟨0, 0, 0⟩) (cpv cap) rfl rfl HB20.out rfl rfl (cpv_one _) ?_)
                | fail)
              intro w6 hb6 hg6
              have HB26 := Lib.hid hb6
              have HP6 := Lib.hid (HP4.out.below (below_trans HC45.out.1 (grown_below hg6 HC45.out.1.size fun k e => by injection e with e; have := HC45.out.2; omega)))
              clear hb6 hg6
              go_wp2_with (first
                | ((with_reducible show wpList _ _ _ (Oper.mk (some 155) (Op.load 36 _) _ _ _ _ :: _) _ _); refine wpList_loadS sCap rfl _ rfl b20 (cpv cap) rfl HB26.out rfl ?_)
                | ((with_reducible show wpList _ _ _ (Oper.mk _ (Op.store 36 (.tmp 5) _) _ _ _ _ :: _) _ _); refine wpList_storeS sCap rfl _ _ rfl b5 (cpv cap) (cpv cap) rfl rfl HP6.out.cap rfl rfl (cpv_one _) ?_)
                | fail)
              intro w7 hb7 hg7
              have HP7 := Lib.hid (HP6.out.capS HNB.out hg7 hb7)
              have HLN := Lib.hid HLG.out.next
              clear hb7 hg7
              go_wp2
              go_roundw
              case rel => exact ⟨i + 1, C, f, cap, A9, c9, ins, out, pa, fr, by have := HIN.out; omega, by have := HIN.out; omega, by go_num, by rw [HNI.out], rfl, rfl, rfl, HP7.out, HLN.out⟩
              case measure => have := HIN.out; simp [intOf]; omega

          have HP4 := Lib.hid (HP3.out.below hb)
          have HLT := Lib.hid (HLG.out.took hlft)
          have HBX4 : Hid (Blk w4 b14 [.slice Ax l.length cx, .bool m.recv, .bool m.frame]) := Lib.hid (HBX3.out.below hb HBX3.out.lt)
          have HRB4 : Hid (RB w4 w.heap.size Ax l) := Lib.hid (HRB3.out.below (hb.mono HP3.out.bel.size))
          clear hb hlft
          go_wp2_with (first | ((with_reducible show wpList _ _ _ (Oper.mk (some 20) (Op.alloc 36) _ _ _ _ :: _) _ _); refine wpList_allocS _ zCap rfl rfl ?_) | fail)
          intro w5 hb5 hg5 hs5
          obtain ⟨b20, hb20⟩ : ∃ b, b = w4.heap.size := ⟨_, rfl⟩
          rw [← hb20] at hb5 ⊢
          have HB20 := Lib.hid hb5
          have HC45 : Hid (Below w4.heap.size w4 w5 ∧ b20 = w4.heap.size) := Lib.hid ⟨grown_below hg5 (Nat.le_refl _) (fun k e => by cases e), hb20⟩
          clear hb5 hg5 hs5 hb20
          go_wp2_with (first
            | ((with_reducible show wpList _ _ _ (Oper.mk _ (Op.store 36 (.tmp 20) _) _ _ _ _ :: _) _ _); refine wpList_storeS sCap rfl _ _ rfl b20 (cpv ⟨0, 0, 0⟩) (cpv cap.took) rfl rfl HB20.out rfl rfl (cpv_one _) ?_)
            | fail)
          intro w6 hb6 hg6
          have HB26 := Lib.hid hb6
          have HC46 : Hid (Below w4.heap.size w4 w6) := Lib.hid (below_trans HC45.out.1 (grown_below hg6 HC45.out.1.size fun k e => by injection e with e; have := HC45.out.2; omega))
          have HP6 := Lib.hid (HP4.out.below HC46.out)
          have HBX6 : Hid (Blk w6 b14 [.slice Ax l.length cx, .bool m.recv, .bool m.frame]) := Lib.hid (HBX4.out.below HC46.out HBX4.out.lt)
          have HRB6 : Hid (RB w6 w.heap.size Ax l) := Lib.hid (HRB4.out.below (HC46.out.mono HP4.out.bel.size))
          clear hb6 hg6
          go_wp2_with (first
            | ((with_reducible show wpList _ _ _ (Oper.mk (some 155) (Op.load 36 _) _ _ _ _ :: _) _ _); refine wpList_loadS sCap rfl _ rfl b20 (cpv cap.took) rfl HB26.out rfl ?_)
            | ((with_reducible show wpList _ _ _ (Oper.mk _ (Op.store 36 (.tmp 5) _) _ _ _ _ :: _) _ _); refine wpList_storeS sCap rfl _ _ rfl b5 (cpv cap) (cpv cap.took) rfl rfl HP6.out.cap rfl rfl (cpv_one _) ?_)
            | fail)
          intro w7 hb7 hg7
          have HP7 : Hid (GPh w w7 w9.heap.size b1 cb b5 g C f cap.took A9 c9 ins) := Lib.hid (HP6.out.capS HNB.out hg7 hb7)
          have HBX7 : Hid (Blk w7 b14 [.slice Ax l.length cx, .bool m.recv, .bool m.frame]) := Lib.hid (HBX6.out.grown hg7 (fun e => by injection e with e; have := HB14.out; have := HNB.out.d5; omega))
          have HRB7 : Hid (RB w7 w.heap.size Ax l) := Lib.hid (HRB6.out.below (grown_below hg7 HP6.out.bel.size fun k e => by injection e with e; have := HNB.out.a5; omega))
          clear hb7 hg7 HBX HBX2 HBX3 HBX4 HBX6 HRB2 HRB3 HRB4 HRB6 HP2 HP3 HP4 HP6 HPX
          obtain ⟨pa2, hpa2⟩ : ∃ pa2, pa2 = pa + 1 := ⟨_, rfl⟩
          have hpaI : (pa : Int) + 1 = (pa2 : Int) := by omega
          rw [← hpa2] at HLT
          obtain ⟨nq0, hnq0⟩ : ∃ nq0, nq0 = C.q.length := ⟨_, rfl⟩
          have HNQ0 := Lib.hid hnq0
          have hnq16 : nq0 ≤ 16 := by rw [hnq0]; exact HLT.out.w16
          have hcW : w7.cell? ⟨cb, 4, none⟩ = some (.int .i64 (nq0 : Int)) := HP7.out.blk.cell (by rw [hnq0]; rfl)
          have hcA : w7.cell? ⟨b14, 0, none⟩ = some (.slice Ax ll cx) := HBX7.out.cell (by rw [HLL.out]; rfl)
          clear hpa2 hnq0
          go_wp2_with fail
          refine (waiting_calls _ _ _ hcW).mono ?_
          rintro e w' ⟨rfl, rfl⟩
          clear hcW
          go_wp2_with fail
          clear hcA
          have hpre : C.size = 64 := HLT.out.size
          rw [HLL.out]
          refine (send_calls w7 w.heap.size cb C f Ax cx l i HLT.out.ok HP7.out.f16 HP7.out.blk HRB7.out HP7.out.bel.size (.inl HNB.out.ac) (by rw [← HLL.out]; omega)).mono ?_
          rw [← HLL.out]
          rintro e w8 ⟨rfl, ⟨f8, hf8, hb8⟩, hg8⟩
          have hokS := Ch.send_ok C HLT.out.ok l i (by omega)
          rcases send_cases C HLT.out.kind l i (by rw [HLT.out.size]; have := HLX.out.1; omega) with hse | ⟨lo, hlo, hse⟩ | hse
          ·
            as_aux_lemma =>
              rw [hse] at hb8 ⊢
              have HPZ : Hid (GPh w w8 w9.heap.size b1 cb b5 g C f8 cap.took A9 c9 ins) := Lib.hid (HP7.out.chan HNB.out hf8 hg8 hb8)
              have HLZ := HLT
              have HNZ := HNI
              clear hse hb8 hg8 hokS hpre
              obtain ⟨nq, hnq⟩ : ∃ nq, nq = (C).q.length := ⟨_, rfl⟩

              obtain ⟨pr, hpr⟩ : ∃ pr, pr = rt * (fr : Int) := ⟨_, rfl⟩
              obtain ⟨sm, hsm⟩ : ∃ sm, sm = bu + pr := ⟨_, rfl⟩
              have hsums := HLZ.out.sums (by omega)
              rw [← HKD.out.2.2.1, ← HKD.out.2.2.2.1, ← hpr, ← hsm] at hsums
              have q1 : rt * (fr : Int) = pr := hpr.symm
              have q2 : bu + pr = sm := hsm.symm
              have q1b : wrap64 pr = pr := (Go.IntWalk.i64_left pr).symm.trans hsums.1
              have q2b : wrap64 sm = sm := (Go.IntWalk.i64_left sm).symm.trans hsums.2.1
              have q3 : ¬ sm < (pa2 : Int) := hsums.2.2
              have q4 : IntKind.i64.wrap ((ni : Int) - (out : Int)) = (nq : Int) := by
                have := HLZ.out.waits (by omega)
                rw [← HNZ.out, ← hnq] at this
                exact this
              have hnq16 : nq ≤ 16 := by rw [hnq]; exact HLZ.out.w16
              have hcW : (w8).cell? ⟨cb, 4, none⟩ = some (.int .i64 (nq : Int)) := HPZ.out.blk.cell (by rw [hnq]; rfl)
              have hcr : (w8).cell? ⟨b1, 7, none⟩ = some (.int .i64 rt) := HPZ.out.box.cell (by rw [HKD.out.2.2.1]; rfl)
              have hcu : (w8).cell? ⟨b1, 8, none⟩ = some (.int .i64 bu) := HPZ.out.box.cell (by rw [HKD.out.2.2.2.1]; rfl)
              clear hnq hsm hpr hsums
              go_wp2_with (go_at_call 7; refine (waiting_calls _ _ _ hcW).mono ?_; rintro e w' ⟨rfl, rfl⟩)
              clear hcW hcr hcu q1 q1b q2 q2b q3 q4
              go_roundw
              case rel => exact ⟨i + 1, C, f8, cap.took, A9, c9, ins, out, pa2, fr, by have := HIN.out; omega, by have := HIN.out; omega, by go_num, by rw [HNZ.out], rfl, rfl, rfl, HPZ.out, HLZ.out⟩
              case measure => have := HIN.out; simp [intOf]; omega
          ·
            as_aux_lemma =>
              rw [hse] at hb8 ⊢
              have HPZ : Hid (GPh w w8 w9.heap.size b1 cb b5 g { C with lost := lo } f8 cap.took A9 c9 ins) := Lib.hid (HP7.out.chan HNB.out hf8 hg8 hb8)
              have HLZ := Lib.hid (HLT.out.lost lo (hlo HLT.out.ok.lost))
              have HNZ := HNI
              obtain ⟨nq, hnq, hnq0⟩ : ∃ nq, nq = ({ C with lost := lo } : Ch).q.length ∧ nq = nq0 := ⟨_, rfl, HNQ0.out.symm⟩
              subst hnq0
              clear hse hb8 hg8 hokS hpre
              obtain ⟨pr, hpr⟩ : ∃ pr, pr = rt * (fr : Int) := ⟨_, rfl⟩
              obtain ⟨sm, hsm⟩ : ∃ sm, sm = bu + pr := ⟨_, rfl⟩
              have hsums := HLZ.out.sums (by omega)
              rw [← HKD.out.2.2.1, ← HKD.out.2.2.2.1, ← hpr, ← hsm] at hsums
              have q1 : rt * (fr : Int) = pr := hpr.symm
              have q2 : bu + pr = sm := hsm.symm
              have q1b : wrap64 pr = pr := (Go.IntWalk.i64_left pr).symm.trans hsums.1
              have q2b : wrap64 sm = sm := (Go.IntWalk.i64_left sm).symm.trans hsums.2.1
              have q3 : ¬ sm < (pa2 : Int) := hsums.2.2
              have q4 : IntKind.i64.wrap ((ni : Int) - (out : Int)) = (nq : Int) := by
                have := HLZ.out.waits (by omega)
                rw [← HNZ.out, ← hnq] at this
                exact this
              have hnq16 : nq ≤ 16 := by rw [hnq]; exact HLZ.out.w16
              have hcW : (w8).cell? ⟨cb, 4, none⟩ = some (.int .i64 (nq : Int)) := HPZ.out.blk.cell (by rw [hnq]; rfl)
              have hcr : (w8).cell? ⟨b1, 7, none⟩ = some (.int .i64 rt) := HPZ.out.box.cell (by rw [HKD.out.2.2.1]; rfl)
              have hcu : (w8).cell? ⟨b1, 8, none⟩ = some (.int .i64 bu) := HPZ.out.box.cell (by rw [HKD.out.2.2.2.1]; rfl)
              clear hnq hsm hpr hsums
              go_wp2_with (go_at_call 7; refine (waiting_calls _ _ _ hcW).mono ?_; rintro e w' ⟨rfl, rfl⟩)
              clear hcW hcr hcu q1 q1b q2 q2b q3 q4
              go_roundw
              case rel => exact ⟨i + 1, { C with lost := lo }, f8, cap.took, A9, c9, ins, out, pa2, fr, by have := HIN.out; omega, by have := HIN.out; omega, by go_num, by rw [HNZ.out], rfl, rfl, rfl, HPZ.out, HLZ.out⟩
              case measure => have := HIN.out; simp [intOf]; omega
          ·
            as_aux_lemma =>
              rw [hse] at hb8 hokS ⊢
              have HP8 : Hid (GPh w w8 w9.heap.size b1 cb b5 g { C with q := C.q ++ [⟨l, i⟩] } f8 cap.took A9 c9 ins) := Lib.hid (HP7.out.chan HNB.out hf8 hg8 hb8)
              have HLS := Lib.hid (HLT.out.sent l i HGOOD.out.1 HGOOD.out.2 hokS (by have := HLG.out.lei; omega))
              have HRB8 : Hid (RB w8 w.heap.size Ax l) := Lib.hid (HRB7.out.below (grown_below hg8 HP7.out.bel.size fun k e => by injection e with e; have := HNB.out.ac; omega))
              have hcA : w8.cell? ⟨b14, 0, none⟩ = some (.slice Ax ll cx) := (HBX7.out.grown hg8 (fun e => by injection e with e; have := HB14.out; have := HNB.out.dc; omega)).cell (by rw [HLL.out]; rfl)
              obtain ⟨nq, hnq⟩ : ∃ nq, nq = ({ C with q := C.q ++ [⟨l, i⟩] } : Ch).q.length := ⟨_, rfl⟩
              have hnqs : nq = nq0 + 1 := by rw [hnq, HNQ0.out]; simp
              have hnql : nq0 < nq := by omega
              have hcW8 : w8.cell? ⟨cb, 4, none⟩ = some (.int .i64 (nq : Int)) := HP8.out.blk.cell (by rw [hnq]; rfl)
              have e1 := run_conv w8 HRB8.out ll cx HLL.out
              have HPA : Hid (GPh w (w8.alloc (.cells #[.string (strB l)] 9)) w9.heap.size b1 cb b5 g { C with q := C.q ++ [⟨l, i⟩] } f8 cap.took A9 c9 ins) := Lib.hid (HP8.out.below ((Below.refl _ _).alloc (Nat.le_refl _) _))
              have HC : Hid ((w8.alloc (.cells #[.string (strB l)] 9)).cell? ⟨w8.heap.size, 0, none⟩ = some (.string (strB l))) := Lib.hid (by rw [World.cell?_alloc_at _ _ _ _ rfl]; rfl)
              have HNQ := Lib.hid hnq
              have HNN := HNI
              clear hse hb8 hg8 hokS hpre hnq hnqs
              go_wp2_with (first
                | (go_at_call 7; refine (waiting_calls _ _ _ hcW8).mono ?_; rintro e w' ⟨rfl, rfl⟩)
                | (at_builtin; refine wpList_app_str _ rfl _ _ rfl w9.heap.size A9 c9 ins ni rfl HNI.out HPA.out.os w8.heap.size _ l rfl HC.out (by rw [← HNI.out]; omega) HPA.out.sz ?_))
              rintro A' c' L' w' HOE ho hg9 _
              have HPZ : Hid (GPh w w' w9.heap.size b1 cb b5 g { C with q := C.q ++ [⟨l, i⟩] } f8 cap.took A' c' L') := Lib.hid (HPA.out.app HNB.out hg9 ho)
              have HLZ : Hid (GLg g { C with q := C.q ++ [⟨l, i⟩] } cap.took L' out pa2 fr (i + 1)) := Lib.hid (by rw [HOE.out]; exact HLS.out)
              obtain ⟨nj, hnj⟩ : ∃ nj, nj = L'.length := ⟨_, rfl⟩
              have HNZ := Lib.hid hnj
              have hnq := HNQ.out
              rw [← hnj]
              clear ho hg9 hcA hcW8 e1 hnj hnql
              obtain ⟨pr, hpr⟩ : ∃ pr, pr = rt * (fr : Int) := ⟨_, rfl⟩
              obtain ⟨sm, hsm⟩ : ∃ sm, sm = bu + pr := ⟨_, rfl⟩
              have hsums := HLZ.out.sums (by omega)
              rw [← HKD.out.2.2.1, ← HKD.out.2.2.2.1, ← hpr, ← hsm] at hsums
              have q1 : rt * (fr : Int) = pr := hpr.symm
              have q2 : bu + pr = sm := hsm.symm
              have q1b : wrap64 pr = pr := (Go.IntWalk.i64_left pr).symm.trans hsums.1
              have q2b : wrap64 sm = sm := (Go.IntWalk.i64_left sm).symm.trans hsums.2.1
              have q3 : ¬ sm < (pa2 : Int) := hsums.2.2
              have q4 : IntKind.i64.wrap ((nj : Int) - (out : Int)) = (nq : Int) := by
                have := HLZ.out.waits (by omega)
                rw [← HNZ.out, ← hnq] at this
                exact this
              have hnq16 : nq ≤ 16 := by rw [hnq]; exact HLZ.out.w16
              have hcW : (w').cell? ⟨cb, 4, none⟩ = some (.int .i64 (nq : Int)) := HPZ.out.blk.cell (by rw [hnq]; rfl)
              have hcr : (w').cell? ⟨b1, 7, none⟩ = some (.int .i64 rt) := HPZ.out.box.cell (by rw [HKD.out.2.2.1]; rfl)
              have hcu : (w').cell? ⟨b1, 8, none⟩ = some (.int .i64 bu) := HPZ.out.box.cell (by rw [HKD.out.2.2.2.1]; rfl)
              clear hnq hsm hpr hsums
              go_wp2_with (go_at_call 7; refine (waiting_calls _ _ _ hcW).mono ?_; rintro e w' ⟨rfl, rfl⟩)
              clear hcW hcr hcu q1 q1b q2 q2b q3 q4
              go_roundw
              case rel => exact ⟨i + 1, { C with q := C.q ++ [⟨l, i⟩] }, f8, cap.took, A', c', L', out, pa2, fr, by have := HIN.out; omega, by have := HIN.out; omega, by go_num, by rw [HNZ.out], rfl, rfl, rfl, HPZ.out, HLZ.out⟩
              case measure => have := HIN.out; simp [intOf]; omega
end Go.Proofs.YtiebpmpjclnpeaaDoor
