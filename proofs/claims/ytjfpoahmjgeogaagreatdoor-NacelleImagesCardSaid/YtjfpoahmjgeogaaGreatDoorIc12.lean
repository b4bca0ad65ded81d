/- Bundle 12 of the texts LdL, ImgPlain3, TopEnc, ImgLawP, ImgLawM, DecF, EncO, PvmPlain2. -/
import Derived.Test.YtjfpoahmjgeogaaGreatDoorIc11
import Derived.Test.YtjfpoahmjgeogaaGreatDoorIc5
import Derived.Test.YtjfpoahmjgeogaaGreatDoorIc7
import Derived.Test.YtjfpoahmjgeogaaGreatDoorIc8
import Derived.Test.YtjfpoahmjgeogaaGreatDoorIc6
import Derived.Test.YtjfpoahmjgeogaaGreatDoorIc1
/- loader: Install, the walk. -/
namespace Go.Proofs.YtjfpoahmjgeogaaGreatDoor
open Go.RowKit Nac Nac.Img Nac.Sha Nac.Crc
def RetIs (w : World) (bd : Nat) (O : Nat → Prop) (bl br bg : Nat) (Ae : Option Addr) (l : Ld) (d : Dk) (m : Man) (b : List UInt8) (e : Ending) (w' : World) : Prop := ∃ cd : Nat, 1 ≤ cd ∧ e = .returned (.int .i64 ((installF shaF okPF l d m b cd).2.2 : Int)) ∧ ∃ O', DkM w' bd O' (installF shaF okPF l d m b cd).2.1 ∧ Upd (fun k => O k ∨ LdO bl br bg Ae k) w w' O'
def enVD (n : Nat) : VD := .pr (fun v _ => ∃ A c, v = .slice A n c) (fun _ _ _ h _ => h)
theorem ip_bool {x : Nat} (h : x ≠ 0) : ((x : Int) != 0) = true := by simp [h]
set_option maxRecDepth 100000 in
set_option maxHeartbeats 16000000 in
theorem linstall_calls (w : World) (hG : Gl w) {B bl br bg bs bq ce bd n : Nat} {Ae : Option Addr} {r : Reg} (m : Man) (A0 : Option Addr) (n0 c0 : Nat) (h : LdM w B bl br bg bs bq Ae ce bd r true (scells m A0 n0 c0) n) (h5 : 5 ≤ B) (O : Nat → Prop) (d : Dk) (hd : DkM w bd O d)
    (hpd : d.pend = []) (hsv : d.surv.length ≤ 140737488351232) (o5 : ∀ k, O k → 5 ≤ k) (no : ¬ O bl ∧ ¬ O br ∧ ¬ O bg ∧ ¬ O bs ∧ ¬ O bq ∧ ∀ g, Ae.map (·.block) = some g → ¬ O g) (hn : n < 16) (hg : r.gen + 1 < 4294967295) (hbk : r.bank < 2) (h32 : m.sum.length = 32) (hp : m.part = 0) (hv : m.ver < 4294967296)
    (b : List UInt8) (hb : n0 = b.length) (hA : RB w w.heap.size A0 b) (hAb : ∀ g, A0.map (·.block) = some g → g ≠ br) (hc : n0 ≤ c0) (hl : n0 ≤ 512) (es : List Ent) (hes : es.length = n) :
    Calls Tryz.prog 13 #[.pointer (some ⟨bl, 0, none⟩), .int .i64 0] w (RetIs w bd O bl br bg Ae ⟨r, es⟩ d m b) := by
  have HG := Lib.hid hG
  have H := Lib.hid h
  have HD := Lib.hid (And.intro hd (And.intro hpd hsv))
  have HO5 := Lib.hid o5
  have HNO := Lib.hid no
  have HN16 := Lib.hid hn
  have HN16' : Hid ((n : Int) < 16) := Lib.hid (by omega)
  have HGEN := Lib.hid hg
  have HM := Lib.hid (And.intro h32 (And.intro hp (And.intro hv hbk)))
  have HBB := Lib.hid (And.intro hb (And.intro hc hl))
  have HES := Lib.hid hes
  have HOLD : Hid (5 ≤ bl ∧ 5 ≤ br ∧ 5 ≤ bg ∧ ∀ g, Ae.map (·.block) = some g → 5 ≤ g) := Lib.hid ⟨Nat.le_trans h5 h.old.1, Nat.le_trans h5 h.old.2.1, Nat.le_trans h5 h.old.2.2.1, fun g hg => Nat.le_trans h5 (h.old.2.2.2.2.2 g hg)⟩
  have HNE := Lib.hid (And.intro h.ne h.nae)
  have HLT : Hid (bl < w.heap.size ∧ br < w.heap.size ∧ bs < w.heap.size ∧ bq < w.heap.size ∧ bg < w.heap.size ∧ ∀ g, Ae.map (·.block) = some g → g < w.heap.size) := Lib.hid ⟨h.lt.1, h.lt.2.1, h.lt.2.2.1, h.lt.2.2.2, h.log.blk.lt, h.log.lt⟩
  obtain ⟨A, c, hR⟩ := h.regS _ (scells_len m h32 _ _ _)
  obtain ⟨ss, hss⟩ : ∃ ss, ss = scells m A0 n0 c0 := ⟨_, rfl⟩
  obtain ⟨zs, hzs⟩ : ∃ zs, zs = scells zMan none 0 0 := ⟨_, rfl⟩
  obtain ⟨mv, hmv⟩ : ∃ x, x = m.ver := ⟨_, rfl⟩
  have HSS : Hid (ss.length = 36 ∧ ss[1]? = some (.int .u32 (mv : Int)) ∧ ∀ v ∈ ss, v.oneCell' = true) := Lib.hid (by rw [hss, hmv]; exact ⟨scells_len m h32 _ _ _, rfl, scells_one _ _ _ _⟩)
  have ZS : Hid (((Tryz.prog.info? 87).bind (·.zero)) = some (.agg zs.toArray) ∧ zs.length = 36 ∧ ∀ v ∈ zs, v.oneCell' = true) := Lib.hid (by rw [hzs]; exact ⟨zeroStg, scells_len zMan rfl _ _ _, scells_one _ _ _ _⟩)
  have HBZ : Hid (∀ w, (Instr.build 87 #[]).run Tryz.prog w = .ok (.agg zs.toArray) w) := Lib.hid fun w => by rw [hzs]; exact build_stg0 w
  obtain ⟨has, hhas⟩ : ∃ x, x = r.img.isSome := ⟨_, rfl⟩
  obtain ⟨na, hna⟩ : ∃ x, x = (imgB r.img).length := ⟨_, rfl⟩
  obtain ⟨va, hva⟩ : ∃ x, x = imgV r.img := ⟨_, rfl⟩
  have hB := hR.1
  rw [← hss, ← hhas, ← hna, ← hva] at hB
  have HRG := Lib.hid (lregion_calls w h)
  have HIN : Hid (∀ (w1 : World) (O1 : Nat → Prop), Gl w1 → Blk w1 br (rcells bs r.gen r.bank has A na c va false zs) → PartM w1 bs bd 0 24 → DkM w1 bd O1 d → ¬ O1 br → ¬ O1 bs → (∀ k, O1 k → 5 ≤ k) → m.okB = true → RB w1 w1.heap.size A0 b → Calls Tryz.prog 43 #[.pointer (some ⟨br, 0, none⟩), .agg ss.toArray] w1 (RetIns w1 bd O1 br (instF r d m b).2)) := Lib.hid fun w1 O1 g1 g2 g3 g4 g5 g6 g7 g8 g9 => by
    rw [hss]
    exact rinstall_calls w1 g1 br bs bd r has A na c va false zs g2 (by rw [hzs]; exact scells_len zMan rfl _ _ _) g3 O1 d g4 hpd hsv g5 g6 g7 (by omega) hbk m h32 g8 hv A0 n0 c0 b hb g9 hc hl
  have HFI : Hid (∀ w1, Gl w1 → RB w1 w1.heap.size A0 b → Calls Tryz.prog 41 #[.agg ss.toArray] w1 (RetPg w1 (imgOk shaF okPF m b))) := Lib.hid fun w1 g1 g2 => by
    rw [hss]
    exact ifinish_calls w1 g1 m h32 A0 n0 c0 b hb g2 hc (by omega)
  have HEC := Lib.hid (lentries_calls · · (by omega : n ≤ 1000) : ∀ w1, LdM w1 B bl br bg bs bq Ae ce bd r true (scells m A0 n0 c0) n → Calls Tryz.prog 22 #[.pointer (some ⟨bl, 0, none⟩)] w1 (RetN w1 n))
  have HIL : Hid (∀ cd : Nat, imgOk shaF okPF m b = false → (installF shaF okPF ⟨r, es⟩ d m b cd).2 = if (addF es d ⟨2, 0, mv, cd⟩).2.2 ≠ 0 then (addF es d ⟨2, 0, mv, cd⟩).2 else ((addF es d ⟨2, 0, mv, cd⟩).2.1, cd)) := Lib.hid fun cd hk => by
    rw [install_bad r es d m b cd (by omega) (by omega) hk, hp, hmv]
    rfl
  have HIG : Hid (∀ cd : Nat, imgOk shaF okPF m b = true → (installF shaF okPF ⟨r, es⟩ d m b cd).2 = if (instF r d m b).2.2 ≠ 0 then (instF r d m b).2 else (addF es (instF r d m b).2.1 ⟨1, 0, mv, 0⟩).2) := Lib.hid fun cd hk => by
    rw [install_good r es d m b cd (by omega) (by omega) hk, hp, hmv]
    rfl
  have HIA := Lib.hid (inst_after r d m b)
  have HMV : Hid (mv < 4294967296) := Lib.hid (by rw [hmv]; exact hv)
  have HBR := Lib.hid hB
  have HAR : Hid (RB w w.heap.size A0 b ∧ ∀ g, A0.map (·.block) = some g → g ≠ br) := Lib.hid ⟨hA, hAb⟩
  obtain ⟨g0, hg0⟩ : ∃ x, x = r.gen := ⟨_, rfl⟩
  have QG : Hid (((g0 : Int) == 4294967295) = false ∧ ¬ g0 = 4294967295) := Lib.hid ⟨by rw [hg0]; simp; omega, by omega⟩
  have k3 : w.cell? ⟨bl, 3, none⟩ = some (.bool false) := h.lb.cell rfl
  have k6 : w.cell? ⟨br, 6, none⟩ = some (.bool true) := hB.cell rfl
  have CL : Hid (∀ w', Below w.drew.heap.size w.drew w' → w'.cell? ⟨bl, 1, none⟩ = some (.pointer (some ⟨bg, 0, none⟩)) ∧ w'.cell? ⟨bl, 2, none⟩ = some (.int .i64 16) ∧ w'.cell? ⟨br, 1, none⟩ = some (.int .u32 (g0 : Int))) := Lib.hid fun w' hb => by
    rw [hg0]
    have h1 := h.lb.keep (hb.block bl h.lb.lt)
    have h2 := hB.keep (hb.block br hB.lt)
    exact ⟨h1.cell rfl, h1.cell rfl, h2.cell rfl⟩
  have HEN : Hid (∀ w', Below w.drew.heap.size w.drew w' → Calls Tryz.prog 40 #[.pointer (some ⟨bg, 0, none⟩)] w' (fun e w'' => ∃ v, e = .returned v ∧ (enVD n).ok v w'' ∧ Below w'.heap.size w' w'')) := Lib.hid fun w' hb => by
    have hbb : Below w.heap.size w w' := ⟨hb.os, hb.tape, hb.output, hb.size, hb.block⟩
    refine (aentries_calls w' bg bq n Ae ce (h.log.below hbb) (by omega)).mono ?_
    rintro e w'' ⟨A, c, rfl, hb⟩
    exact ⟨_, rfl, ⟨A, c, rfl⟩, hb⟩
  have HI0 : Hid (IsS w w bl br bg bs bq Ae ce bd n O O d) := Lib.hid ⟨⟨rfl, rfl, rfl, Nat.le_refl _, fun _ _ _ => rfl, fun k hk => .inl (.inl hk)⟩, hd, h.lb, h.log, h.ps, h.pq, no.1, no.2.2.1, no.2.2.2.1, no.2.2.2.2.1, no.2.2.2.2.2⟩
  clear hG h hd hpd hsv o5 no hn hg hbk h32 hp hv hb hA hAb hc hl hes h5 hR hss hzs hmv hhas hna hva hB hg0 HEC
  -- a new block is written; the region is
  have HFR : Hid (∀ (w1 w2 : World) (x : Nat), IsS w w1 bl br bg bs bq Ae ce bd n O O d → w1.grownBy w2 (some x) → w.heap.size ≤ x → IsS w w2 bl br bg bs bq Ae ce bd n O O d) := Lib.hid fun w1 w2 x hi hg hx => by
    have l := HLT.out
    exact hi.sto hg (.inr hx) (by omega) (by omega) (fun g hg' => by have := l.2.2.2.2.2 g hg'; omega) (by omega) (by omega) (fun e => by have := HD.out.1.own x e; omega)
  have HFB : Hid (∀ (w1 w2 : World), IsS w w1 bl br bg bs bq Ae ce bd n O O d → w1.grownBy w2 (some br) → IsS w w2 bl br bg bs bq Ae ce bd n O O d) := Lib.hid fun w1 w2 hi hg => by
    have l := HNE.out
    exact hi.sto hg (.inl rfl) (fun e => l.1.1 e.symm) l.1.2.2.1 (fun g hg' e => (l.2 g hg').2.1 e.symm) (fun e => l.1.2.2.2.2.1 e.symm) (fun e => l.1.2.2.2.2.2.2.2.1 e.symm) HNO.out.2.1
  have HGL : Hid (∀ (w1 : World) (O1 : Nat → Prop) (d1 : Dk), IsS w w1 bl br bg bs bq Ae ce bd n O O1 d1 → Gl w1 ∧ ∀ k, O1 k → 5 ≤ k) := Lib.hid fun w1 O1 d1 hi => by
    have l := HOLD.out
    have hk : ∀ k, O k ∨ LdO bl br bg Ae k → 5 ≤ k := fun k hk => by
      rcases hk with hk | rfl | rfl | rfl | hk
      · exact HO5.out k hk
      · exact l.1
      · exact l.2.1
      · exact l.2.2.1
      · exact l.2.2.2 k hk
    exact ⟨HG.out.upd hi.up hk, fun k hk' => by
      rcases hi.up.new k hk' with e | e
      · exact hk k e
      · have := HG.out.size; omega⟩
  -- the end: what it returns
  have HEND : Hid (∀ (w1 w2 : World) (O1 : Nat → Prop) (d1 : Dk) (cd k : Nat), 1 ≤ cd → IsS w w1 bl br bg bs bq Ae ce bd n O O1 d1 → w1.grownBy w2 (some bl) → (installF shaF okPF ⟨r, es⟩ d m b cd).2 = (d1, k) → RetIs w bd O bl br bg Ae ⟨r, es⟩ d m b (.returned (.int .i64 (k : Int))) w2) := Lib.hid fun w1 w2 O1 d1 cd k hcd hi hg he => by
    refine ⟨cd, hcd, by rw [he], O1, ?_, ?_⟩
    · rw [he]
      exact hi.dk.same (fun k hk => hg.block k (hi.dk.own k hk) (fun e => by injection e with e; exact hi.no.1 (e ▸ hk))) hg.size
    · exact hi.up.sto hg (.inl (.inr (.inl rfl)))
  go_enter Tryz.func13, Tryz.ntmps13
  go_wp2_with fail
  go_at_call 36
  with_reducible refine HRG.out.mono ?_
  rintro e w0 ⟨rfl, rfl⟩
  clear HRG
  go_wp2_with fail
  refine region_monos (fun ix9 => ([.is (.pointer (some ⟨bl, 0, none⟩)), .is (.pointer (some ⟨bl, 0, none⟩)), .is (.pointer (some ⟨bl, 1, none⟩)), .is (.pointer (some ⟨bg, 0, none⟩)), enVD n, .is (.int .i64 (n : Int)), .is (.pointer (some ⟨bl, 0, none⟩)), .is (.pointer (some ⟨bl, 0, none⟩)), .is (.pointer (some ⟨bl, 2, none⟩)), .is (.int .i64 16), .is (.bool false), .is (.bool false), .is (.pointer (some ⟨br, 0, none⟩)), .is (.pointer (some ⟨br, 0, none⟩)), .is (.pointer (some ⟨br, 1, none⟩)), .is (.int .u32 (g0 : Int)), .is (.bool false), .is (.bool false), .is (.bool false)] : List VD).getD ix9 (.is undef)) [some 32, some 33, some 34, some 35, some 36, some 37, some 38, some 39, some 40, some 41, some 42, some 43, some 44, some 45, some 46, some 47, some 48, some 49, some 31] (by kernel_rfl) (by kernel_rfl) (by kernel_rfl) rfl (fun ii hii => ?_) ?_
  · match ii, hii with
    | 0, _ => exact mstep_first rfl (mwant_none rfl) 0 (Or.inl rfl) (by kernel_rfl) (fun _ _ => rfl)
    | 1, _ => exact mstep_pure rfl (mwant_none rfl) (fun aa ww cc => ⟨.pointer (some ⟨bl, 0, none⟩), by have e0 : aa.tmps.getD 32 undef = .pointer (some ⟨bl, 0, none⟩) := cc.slot 0 32 (by kernel_rfl) rfl; simp only [execOp, Act.eval]; go_simp, rfl⟩)
    | 2, _ => exact mstep_pure rfl (mwant_none rfl) (fun aa ww cc => ⟨.pointer (some ⟨bl, 1, none⟩), by have e0 : aa.tmps.getD 33 undef = .pointer (some ⟨bl, 0, none⟩) := cc.slot 1 33 (by kernel_rfl) rfl; simp only [execOp, Act.eval]; go_simp, rfl⟩)
    | 3, _ => exact mstep_pure rfl (mwant_none rfl) (fun aa ww cc => ⟨.pointer (some ⟨bg, 0, none⟩), by have e0 : aa.tmps.getD 34 undef = .pointer (some ⟨bl, 1, none⟩) := cc.slot 2 34 (by kernel_rfl) rfl; obtain ⟨q1, q2, q3⟩ := CL.out _ cc.below; simp only [execOp, Act.eval]; go_simp, rfl⟩)
    | 4, _ => exact mstep_call rfl (mwant_none rfl) _ _ _ rfl (enters_of Tryz.func40 (by kernel_rfl) rfl) (fun aa ww cc => by have e0 : aa.tmps.getD 35 undef = .pointer (some ⟨bg, 0, none⟩) := cc.slot 3 35 (by kernel_rfl) rfl; simp only [List.map_toArray, List.map_cons, List.map_nil, Act.eval, e0]; exact HEN.out ww cc.below)
    | 5, _ => exact mstep_pure rfl (mwant_none rfl) (fun aa ww cc => by obtain ⟨A9, c9, e0⟩ := cc.slot 4 36 (by kernel_rfl) rfl; exact ⟨.int .i64 (n : Int), by simp only [execOp, Act.eval]; go_simp, rfl⟩)
    | 6, _ => exact mstep_first rfl (mwant_none rfl) 0 (Or.inl rfl) (by kernel_rfl) (fun _ _ => rfl)
    | 7, _ => exact mstep_pure rfl (mwant_none rfl) (fun aa ww cc => ⟨.pointer (some ⟨bl, 0, none⟩), by have e0 : aa.tmps.getD 38 undef = .pointer (some ⟨bl, 0, none⟩) := cc.slot 6 38 (by kernel_rfl) rfl; simp only [execOp, Act.eval]; go_simp, rfl⟩)
    | 8, _ => exact mstep_pure rfl (mwant_none rfl) (fun aa ww cc => ⟨.pointer (some ⟨bl, 2, none⟩), by have e0 : aa.tmps.getD 39 undef = .pointer (some ⟨bl, 0, none⟩) := cc.slot 7 39 (by kernel_rfl) rfl; simp only [execOp, Act.eval]; go_simp, rfl⟩)
    | 9, _ => exact mstep_pure rfl (mwant_none rfl) (fun aa ww cc => ⟨.int .i64 16, by have e0 : aa.tmps.getD 40 undef = .pointer (some ⟨bl, 2, none⟩) := cc.slot 8 40 (by kernel_rfl) rfl; obtain ⟨q1, q2, q3⟩ := CL.out _ cc.below; simp only [execOp, Act.eval]; go_simp, rfl⟩)
    | 10, _ => exact mstep_pure rfl (mwant_none rfl) (fun aa ww cc => ⟨.bool false, by have e0 : aa.tmps.getD 37 undef = .int .i64 (n : Int) := cc.slot 5 37 (by kernel_rfl) rfl; have e1 : aa.tmps.getD 41 undef = .int .i64 16 := cc.slot 9 41 (by kernel_rfl) rfl; have q := HN16'.out; simp only [execOp, Act.eval]; go_simp, rfl⟩)
    | 11, _ => exact mstep_copy rfl (mwant_none rfl) 42 (Or.inl rfl) 10 (by kernel_rfl) rfl rfl
    | 12, _ => exact mstep_first rfl (mwant 11 false 43 rfl (by kernel_rfl) rfl rfl (by kernel_rfl)) 5 (Or.inl rfl) (by kernel_rfl) (fun _ _ => rfl)
    | 13, _ => exact mstep_pure rfl (mwant 11 false 43 rfl (by kernel_rfl) rfl rfl (by kernel_rfl)) (fun aa ww cc => ⟨.pointer (some ⟨br, 0, none⟩), by have e0 : aa.tmps.getD 44 undef = .pointer (some ⟨br, 0, none⟩) := cc.slot 12 44 (by kernel_rfl) rfl; simp only [execOp, Act.eval]; go_simp, rfl⟩)
    | 14, _ => exact mstep_pure rfl (mwant 11 false 43 rfl (by kernel_rfl) rfl rfl (by kernel_rfl)) (fun aa ww cc => ⟨.pointer (some ⟨br, 1, none⟩), by have e0 : aa.tmps.getD 45 undef = .pointer (some ⟨br, 0, none⟩) := cc.slot 13 45 (by kernel_rfl) rfl; simp only [execOp, Act.eval]; go_simp, rfl⟩)
    | 15, _ => exact mstep_pure rfl (mwant 11 false 43 rfl (by kernel_rfl) rfl rfl (by kernel_rfl)) (fun aa ww cc => ⟨.int .u32 (g0 : Int), by have e0 : aa.tmps.getD 46 undef = .pointer (some ⟨br, 1, none⟩) := cc.slot 14 46 (by kernel_rfl) rfl; obtain ⟨q1, q2, q3⟩ := CL.out _ cc.below; simp only [execOp, Act.eval]; go_simp, rfl⟩)
    | 16, _ => exact mstep_pure rfl (mwant 11 false 43 rfl (by kernel_rfl) rfl rfl (by kernel_rfl)) (fun aa ww cc => ⟨.bool false, by have e0 : aa.tmps.getD 47 undef = .int .u32 (g0 : Int) := cc.slot 15 47 (by kernel_rfl) rfl; obtain ⟨q1, q2⟩ := QG.out; simp only [execOp, Act.eval]; go_simp, rfl⟩)
    | 17, _ => exact mstep_pure rfl (mwant_none rfl) (fun aa ww cc => ⟨.bool false, by have e0 : aa.tmps.getD 43 undef = .bool false := cc.slot 11 43 (by kernel_rfl) rfl; have e1 : aa.tmps.getD 48 undef = .bool false := cc.slot 16 48 (by kernel_rfl) rfl; simp only [execOp, Act.eval]; go_simp, rfl⟩)
    | 18, _ => exact mstep_copy rfl (mwant_none rfl) 49 (Or.inr rfl) 17 (by kernel_rfl) rfl rfl
    | n + 19, h => exact absurd h (by show ¬ (n + 19 < 19); omega)
  · intro VV w5 hlen hb5 hok
    match VV, hlen with
    | [v0, v1, v2, v3, v4, v5, v6, v7, v8, v9, v10, v11, v12, v13, v14, v15, v16, v17, v18], _ =>
      obtain rfl : v0 = .pointer (some ⟨bl, 0, none⟩) := hok 0 32 rfl
      obtain rfl : v1 = .pointer (some ⟨bl, 0, none⟩) := hok 1 33 rfl
      obtain rfl : v2 = .pointer (some ⟨bl, 1, none⟩) := hok 2 34 rfl
      obtain rfl : v3 = .pointer (some ⟨bg, 0, none⟩) := hok 3 35 rfl
      have p4 := hok 4 36 rfl
      obtain rfl : v5 = .int .i64 (n : Int) := hok 5 37 rfl
      obtain rfl : v6 = .pointer (some ⟨bl, 0, none⟩) := hok 6 38 rfl
      obtain rfl : v7 = .pointer (some ⟨bl, 0, none⟩) := hok 7 39 rfl
      obtain rfl : v8 = .pointer (some ⟨bl, 2, none⟩) := hok 8 40 rfl
      obtain rfl : v9 = .int .i64 16 := hok 9 41 rfl
      obtain rfl : v10 = .bool false := hok 10 42 rfl
      obtain rfl : v11 = .bool false := hok 11 43 rfl
      obtain rfl : v12 = .pointer (some ⟨br, 0, none⟩) := hok 12 44 rfl
      obtain rfl : v13 = .pointer (some ⟨br, 0, none⟩) := hok 13 45 rfl
      obtain rfl : v14 = .pointer (some ⟨br, 1, none⟩) := hok 14 46 rfl
      obtain rfl : v15 = .int .u32 (g0 : Int) := hok 15 47 rfl
      obtain rfl : v16 = .bool false := hok 16 48 rfl
      obtain rfl : v17 = .bool false := hok 17 49 rfl
      obtain rfl : v18 = .bool false := hok 18 31 rfl
      have hb5' : Below w0.heap.size w0 w5 := ⟨hb5.os, hb5.tape, hb5.output, hb5.size, hb5.block⟩
      have HI1 : Hid (IsS w0 w5 bl br bg bs bq Ae ce bd n O O d) := Lib.hid (HI0.out.below hb5')
      have HB1 : Hid (Blk w5 br (rcells bs r.gen r.bank has A na c va true ss)) := Lib.hid (HBR.out.below hb5' HBR.out.lt)
      have HA1 : Hid (RB w5 w5.heap.size A0 b) := Lib.hid ((HAR.out.1.below hb5').mono hb5'.size)
      have HS1 : Hid (w0.heap.size ≤ w5.heap.size) := Lib.hid hb5'.size
      have HMC : Hid (w5.rangeAt br 7 ss) := Lib.hid (HB1.out.range 7 ss ⟨(rcells bs r.gen r.bank has A na c va true ss).take 7, [], by rw [List.append_nil]; rfl, rfl⟩)
      clear p4 hok hb5 hb5' HI0 CL HEN k3 k6
      simp only [List.zip_cons_cons, List.zip_nil_right, putsL]
      go_simp
      go_wp2_with (first | ((with_reducible show wpList _ _ _ (Oper.mk (some 53) (Op.load 87 _) _ _ _ _ :: _) _ _); refine wpList_loadM sStg rfl _ rfl br 7 ss rfl HMC.out HSS.out.1 ?_) | ((with_reducible show wpList _ _ _ (Oper.mk (some 6) (Op.alloc 87) _ _ _ _ :: _) _ _); refine wpList_allocS _ ZS.out.1 rfl rfl ?_))
      intro w2 hb2 hg2 hs2
      obtain ⟨b6, hB6⟩ : ∃ b, b = w5.heap.size := ⟨_, rfl⟩
      have HB6 := Lib.hid hB6
      rw [← hB6] at hb2 ⊢
      have HZ6 := Lib.hid hb2
      have HI2 : Hid (IsS w0 w2 bl br bg bs bq Ae ce bd n O O d) := Lib.hid (HI1.out.below (gbelow hg2))
      have HB2 : Hid (Blk w2 br (rcells bs r.gen r.bank has A na c va true ss)) := Lib.hid (HB1.out.grown hg2 (by simp))
      have HA2 : Hid (RB w2 w2.heap.size A0 b) := Lib.hid ((HA1.out.below (gbelow hg2)).mono hg2.size)
      clear hb2 hg2 hs2 hB6 HI1 HB1 HMC
      go_wp2_with (((with_reducible show wpList _ _ _ (Oper.mk _ (Op.store 87 _ _) _ _ _ _ :: _) _ _); refine wpList_storeS sStg rfl _ _ rfl b6 _ ss rfl rfl HZ6.out ZS.out.2.1 HSS.out.1 HSS.out.2.2 ?_))
      intro w3 hb3 hg3
      have HX6 := Lib.hid hb3
      have HN6 : Hid (w0.heap.size ≤ b6 ∧ ∀ g, A0.map (·.block) = some g → b ≠ [] → g < b6) := Lib.hid ⟨by rw [HB6.out]; exact HS1.out, fun g hg hne => by
        obtain ⟨g', o, hA, hl, _⟩ := HA1.out hne
        rw [hA] at hg
        injection hg with hg
        have hg : g' = g := hg
        rw [HB6.out]
        omega⟩
      have HI3 : Hid (IsS w0 w3 bl br bg bs bq Ae ce bd n O O d) := Lib.hid (HFR.out w2 w3 b6 HI2.out hg3 HN6.out.1)
      have HB3 : Hid (Blk w3 br (rcells bs r.gen r.bank has A na c va true ss)) := Lib.hid (HB2.out.grown hg3 (fun e => by injection e with e; have := HLT.out.2.1; have := HN6.out.1; omega))
      have HA3 : Hid (RB w3 w3.heap.size A0 b) := Lib.hid (fun hne => rb_kept HA2.out hg3 (fun g hg' => by have := HN6.out.2 g hg' hne; omega) hne)
      clear hb3 hg3 HI2 HB2 HA2 HA1 HZ6
      go_wp2_with (first | ((with_reducible show wpList _ _ _ (Oper.mk _ (Op.build 87 _) _ _ _ _ :: _) _ _); refine wpList_buildS rfl _ _ rfl #[] zs.toArray (by simp only [List.map_toArray, List.map_nil]) (HBZ.out _) ?_) | ((with_reducible show wpList _ _ _ (Oper.mk _ (Op.store 4 _ _) _ _ _ _ :: _) _ _); refine wpList_storeB rfl 4 _ _ rfl br 6 _ (.bool false) (by show 6 < _ + 7; omega) rfl (by rfl) HB3.out (by kernel_rfl) rfl ?_))
      intro w4 hb4 hg4 hs4
      have HI4 : Hid (IsS w0 w4 bl br bg bs bq Ae ce bd n O O d) := Lib.hid (HFB.out w3 w4 HI3.out hg4.out)
      have HB4 : Hid (Blk w4 br (rcells bs r.gen r.bank has A na c va false ss)) := Lib.hid hb4.out
      have HX64 : Hid (Blk w4 b6 ss) := Lib.hid (HX6.out.grown hg4.out (fun e => by injection e with e; have := HLT.out.2.1; have := HN6.out.1; omega))
      have HA4 : Hid (RB w4 w4.heap.size A0 b) := Lib.hid (rb_kept HA3.out hg4.out HAR.out.2)
      clear hb4 hg4 hs4 HI3 HB3 HA3 HX6
      go_wp2_with (((with_reducible show wpList _ _ _ (Oper.mk _ (Op.store 87 _ _) _ _ _ _ :: _) _ _); refine wpList_storeM sStg rfl _ _ rfl br 7 _ zs rfl rfl HB4.out (by show 7 + 36 ≤ _ + 7; rw [HSS.out.1]; decide) ZS.out.2.1 ZS.out.2.2 ?_))
      intro w6 hb6 hg6
      have HB66 : Hid (Blk w6 br (rcells bs r.gen r.bank has A na c va false zs)) := Lib.hid (by
        have h := hb6
        have e : (rcells bs r.gen r.bank has A na c va false ss).drop (7 + zs.length) = [] := List.drop_of_length_le (by show _ + 7 ≤ _; rw [HSS.out.1, ZS.out.2.1]; decide)
        rw [e, List.append_nil] at h
        exact h)
      have HI6 : Hid (IsS w0 w6 bl br bg bs bq Ae ce bd n O O d) := Lib.hid (HFB.out w4 w6 HI4.out hg6)
      have HX66 : Hid (Blk w6 b6 ss) := Lib.hid (HX64.out.grown hg6 (fun e => by injection e with e; have := HLT.out.2.1; have := HN6.out.1; omega))
      have HA6 : Hid (RB w6 w6.heap.size A0 b) := Lib.hid (rb_kept HA4.out hg6 HAR.out.2)
      have k61 : w6.cell? ⟨b6, 1, none⟩ = some (.int .u32 (mv : Int)) := HX66.out.cell HSS.out.2.1
      obtain ⟨xs, hxs⟩ : ∃ xs, xs = ecells ⟨1, 0, mv, 0⟩ := ⟨_, rfl⟩
      obtain ⟨ze, hze⟩ : ∃ ze, ze = ecells zEnt := ⟨_, rfl⟩
      have HXS : Hid (xs.length = 4 ∧ (∀ v ∈ xs, v.oneCell' = true) ∧ xs = ecells ⟨1, 0, mv, 0⟩) := Lib.hid (by rw [hxs]; exact ⟨rfl, ecells_one _, rfl⟩)
      have HZE : Hid (((Tryz.prog.info? 105).bind (·.zero)) = some (.agg ze.toArray) ∧ ze.length = 4) := Lib.hid (by rw [hze]; exact ⟨zeroEnt, rfl⟩)
      have HBE : Hid (∀ w, (Instr.build 105 #[(0, .int .i64 1), (1, .int .i64 0), (2, .int .u32 (mv : Int))]).run Tryz.prog w = .ok (.agg xs.toArray) w) := Lib.hid fun w => by rw [hxs]; exact build_ent w 0 mv
      clear hb6 hg6 HI4 HB4 HA4 HX64 hxs hze
      go_wp2_with (first | ((with_reducible show wpList _ _ _ (Oper.mk _ (Op.build 105 _) _ _ _ _ :: _) _ _); refine wpList_buildS rfl _ _ rfl #[(0, .int .i64 1), (1, .int .i64 0), (2, .int .u32 (mv : Int))] xs.toArray (by simp only [List.map_toArray, List.map_cons, List.map_nil]; rfl) (HBE.out _) ?_) | ((with_reducible show wpList _ _ _ (Oper.mk (some 7) (Op.alloc 105) _ _ _ _ :: _) _ _); refine wpList_allocS _ HZE.out.1 rfl rfl ?_))
      intro w7 hb7 hg7 hs7
      obtain ⟨b7, hB7⟩ : ∃ b, b = w6.heap.size := ⟨_, rfl⟩
      have HB7 := Lib.hid hB7
      rw [← hB7] at hb7 ⊢
      have HZ7 := Lib.hid hb7
      have HI7 : Hid (IsS w0 w7 bl br bg bs bq Ae ce bd n O O d) := Lib.hid (HI6.out.below (gbelow hg7))
      have HB77 : Hid (Blk w7 br (rcells bs r.gen r.bank has A na c va false zs)) := Lib.hid (HB66.out.grown hg7 (by simp))
      have HX67 : Hid (Blk w7 b6 ss) := Lib.hid (HX66.out.grown hg7 (by simp))
      have HA7 : Hid (RB w7 w7.heap.size A0 b ∧ w6.heap.size ≤ w7.heap.size) := Lib.hid ⟨(HA6.out.below (gbelow hg7)).mono hg7.size, hg7.size⟩
      have HN7 : Hid (b6 < b7 ∧ ∀ g, A0.map (·.block) = some g → b ≠ [] → g < b7) := Lib.hid ⟨by rw [hB7]; exact HX66.out.lt, fun g hg hne => by have := HN6.out.2 g hg hne; have := HX66.out.lt; omega⟩
      clear hb7 hg7 hs7 hB7 HI6 HB66 HX66 HA6 k61
      go_wp2_with (((with_reducible show wpList _ _ _ (Oper.mk _ (Op.store 105 _ _) _ _ _ _ :: _) _ _); refine wpList_storeS sEnt rfl _ _ rfl b7 _ xs rfl rfl HZ7.out HZE.out.2 HXS.out.1 HXS.out.2.1 ?_))
      intro w8 hb8 hg8
      have HX78 := Lib.hid hb8
      have HI8 : Hid (IsS w0 w8 bl br bg bs bq Ae ce bd n O O d) := Lib.hid (HFR.out w7 w8 b7 HI7.out hg8 (by have := HN6.out.1; have := HN7.out.1; omega))
      have HB88 : Hid (Blk w8 br (rcells bs r.gen r.bank has A na c va false zs)) := Lib.hid (HB77.out.grown hg8 (fun e => by injection e with e; have := HLT.out.2.1; have := HN6.out.1; have := HN7.out.1; omega))
      have HX68 : Hid (Blk w8 b6 ss) := Lib.hid (HX67.out.grown hg8 (fun e => by injection e with e; have := HN7.out.1; omega))
      have HA8 : Hid (RB w8 w8.heap.size A0 b) := Lib.hid (fun hne => rb_kept HA7.out.1 hg8 (fun g hg' => by have := HN7.out.2 g hg' hne; omega) hne)
      have HFC : Hid (Calls Tryz.prog 41 #[.agg ss.toArray] w8 (RetPg w8 (imgOk shaF okPF m b))) := Lib.hid (HFI.out w8 (HGL.out w8 O d HI8.out).1 HA8.out)
      clear hb8 hg8 HI7 HB77 HX67 HA7 HZ7 HFI
      go_wp2_with (((with_reducible show wpList _ _ _ (Oper.mk (some 67) (Op.load 87 _) _ _ _ _ :: _) _ _); refine wpList_loadS sStg rfl _ rfl b6 ss rfl HX68.out HSS.out.1 ?_))
      go_at_call 41
      with_reducible refine HFC.out.mono ?_
      rintro e w9 ⟨pv, ev, rfl, hpg, hb9⟩
      have HI9 : Hid (IsS w0 w9 bl br bg bs bq Ae ce bd n O O d) := Lib.hid (HI8.out.below hb9)
      have HB99 : Hid (Blk w9 br (rcells bs r.gen r.bank has A na c va false zs)) := Lib.hid (HB88.out.below hb9 HB88.out.lt)
      have HX69 : Hid (Blk w9 b6 ss) := Lib.hid (HX68.out.below hb9 HX68.out.lt)
      have HX79 : Hid (Blk w9 b7 xs) := Lib.hid (HX78.out.below hb9 HX78.out.lt)
      have HA9 : Hid (RB w9 w9.heap.size A0 b) := Lib.hid ((HA8.out.below hb9).mono hb9.size)
      have HN79 : Hid (w0.heap.size ≤ b7) := Lib.hid (by have := HN6.out.1; have := HN7.out.1; omega)
      clear hb9 HI8 HB88 HX68 HX78 HA8 HFC
      rcases hpg with ⟨hok9, rfl⟩ | ⟨hok9, g8, cd, rfl, hfb, hc1, hc10⟩
      · -- the image is good
        have HGD := Lib.hid (HIG.out 1 hok9)
        have HOKM : Hid (m.okB = true) := Lib.hid (by
          have h := hok9
          unfold imgOk at h
          simp only [Bool.and_eq_true] at h
          exact h.1.1.1)
        obtain ⟨d1, hd1⟩ : ∃ x, x = (instF r d m b).2.1 := ⟨_, rfl⟩
        obtain ⟨c1, hc1⟩ : ∃ x, x = (instF r d m b).2.2 := ⟨_, rfl⟩
        have HD1 : Hid (d1.surv.length ≤ 140737488351232 ∧ (c1 = 0 → d1.pend = [])) := Lib.hid (by
          have h := HIA.out
          rw [← hd1, ← hc1] at h
          exact ⟨Nat.le_trans h.1 HD.out.2.2, h.2⟩)
        have HGD2 : Hid ((installF shaF okPF ⟨r, es⟩ d m b 1).2 = if c1 ≠ 0 then (d1, c1) else (addF es d1 ⟨1, 0, mv, 0⟩).2) := Lib.hid (by rw [HGD.out, hc1, hd1])
        have HIC : Hid (Calls Tryz.prog 43 #[.pointer (some ⟨br, 0, none⟩), .agg ss.toArray] w9 (RetIns w9 bd O br (d1, c1))) := Lib.hid (by
          have h := HIN.out w9 O (HGL.out w9 O d HI9.out).1 HB99.out HI9.out.ps HI9.out.dk HNO.out.2.1 HNO.out.2.2.2.1 HO5.out HOKM.out HA9.out
          have e : (instF r d m b).2 = (d1, c1) := by rw [hd1, hc1]
          rw [e] at h
          exact h)
        clear hok9 hd1 hc1 HIG HIL HIN HGD
        go_wp2_with (((with_reducible show wpList _ _ _ (Oper.mk (some 79) (Op.load 87 _) _ _ _ _ :: _) _ _); refine wpList_loadS sStg rfl _ rfl b6 ss rfl HX69.out HSS.out.1 ?_))
        go_at_call 43
        with_reducible refine HIC.out.mono ?_
        rintro e w10 ⟨rfl, O1, hdk10, hup10⟩
        have HI10 : Hid (IsS w0 w10 bl br bg bs bq Ae ce bd n O O1 d1) := Lib.hid (HI9.out.inst ⟨HNE.out.1.1, fun e => HNE.out.1.2.2.1 e.symm, HNE.out.1.2.2.2.2.1, HNE.out.1.2.2.2.2.2.2.2.1, fun g hg => (HNE.out.2 g hg).2.1⟩ hup10 hdk10)
        have HX710 : Hid (Blk w10 b7 xs) := Lib.hid (hup10.blk HX79.out (fun e => by
          rcases e with e | e
          · have := HD.out.1.own b7 e; have := HN79.out; omega
          · have := HLT.out.2.1; have := HN79.out; omega))
        clear hdk10 hup10 HIC HI9 HB99 HX69 HX79 HA9
        by_cases hc0 : c1 = 0
        · have HC0 := Lib.hid hc0
          subst hc0
          have HRS : Hid ((installF shaF okPF ⟨r, es⟩ d m b 1).2 = (addF es d1 ⟨1, 0, mv, 0⟩).2) := Lib.hid (by rw [HGD2.out, if_neg (by decide)])
          have HPD : Hid (d1.pend = []) := Lib.hid (HD1.out.2 rfl)
          obtain ⟨ys, hys⟩ : ∃ x, x = ecells ⟨1, 0, mv, 0⟩ := ⟨_, rfl⟩
          obtain ⟨d2, hd2⟩ : ∃ x, x = (addF es d1 ⟨1, 0, mv, 0⟩).2.1 := ⟨_, rfl⟩
          obtain ⟨c2, hc2⟩ : ∃ x, x = (addF es d1 ⟨1, 0, mv, 0⟩).2.2 := ⟨_, rfl⟩
          have HADD : Hid (∀ w1, Below w10.heap.size w10 w1 → Calls Tryz.prog 44 #[.pointer (some ⟨bg, 0, none⟩), .agg ys.toArray] w1 (RetAd w1 bd O1 bg Ae (d2, c2))) := Lib.hid fun w1 hb => by
            have hi := HI10.out.below hb
            have hgl := HGL.out w1 O1 d1 hi
            have h := aadd_calls w1 hgl.1 bg bq bd n Ae ce O1 d1 ⟨1, 0, mv, 0⟩ hi.li hi.pq hi.dk (by have := HN16.out; omega) es HES.out HPD.out HD1.out.1 HMV.out hi.no.2.1 hi.no.2.2.2.2 hi.no.2.2.2.1 HNE.out.1.2.2.2.2.2.2.2.2 (fun e => ((HNE.out.2 bq e).2.2.2.2) rfl)
            have e : (addF es d1 ⟨1, 0, mv, 0⟩).2 = (d2, c2) := by rw [hd2, hc2]
            rw [e] at h
            rw [hys]
            exact h
          have HRS2 : Hid ((installF shaF okPF ⟨r, es⟩ d m b 1).2 = (d2, c2)) := Lib.hid (by rw [HRS.out, hd2, hc2])
          have HYS : Hid (Blk w10 b7 ys ∧ ys.length = 4) := Lib.hid (by rw [hys]; exact ⟨by rw [← HXS.out.2.2]; exact HX710.out, rfl⟩)
          have CL : Hid (∀ w', Below w10.drew.heap.size w10.drew w' → w'.cell? ⟨bl, 1, none⟩ = some (.pointer (some ⟨bg, 0, none⟩))) := Lib.hid fun w' hb => (HI10.out.lb.keep (hb.block bl HI10.out.lb.lt)).cell rfl
          have LX : Hid (∀ w', Below w10.drew.heap.size w10.drew w' → (Instr.loadAt 105 (.pointer (some ⟨b7, 0, none⟩))).run Tryz.prog w' = .ok (.agg ys.toArray) w') := Lib.hid fun w' hb => run_loadAtM sEnt w' b7 0 _ ((HYS.out.1.keep (hb.block b7 HYS.out.1.lt)).range 0 _ ⟨[], [], by simp, rfl⟩) HYS.out.2
          clear hys hd2 hc2
          go_wp2_with fail
          refine region_tails 5 (fun ix9 => ([.is (.pointer (some ⟨bl, 0, none⟩)), .is (.pointer (some ⟨bl, 0, none⟩)), .is (.pointer (some ⟨bl, 1, none⟩)), .is (.pointer (some ⟨bg, 0, none⟩)), .is (.agg ys.toArray)] : List VD).getD ix9 (.is undef)) [some 87, some 88, some 89, some 90, some 91] (by kernel_rfl) (by kernel_rfl) (by kernel_rfl) (by kernel_rfl) rfl (fun ii hii => ?_) ?_
          · match ii, hii with
            | 0, _ => exact mstep_first rfl (mwant_none rfl) 0 (Or.inl rfl) (by kernel_rfl) (fun _ _ => rfl)
            | 1, _ => exact mstep_pure rfl (mwant_none rfl) (fun aa ww cc => ⟨.pointer (some ⟨bl, 0, none⟩), by have e0 : aa.tmps.getD 87 undef = .pointer (some ⟨bl, 0, none⟩) := cc.slot 0 87 (by kernel_rfl) rfl; simp only [execOp, Act.eval]; go_simp, rfl⟩)
            | 2, _ => exact mstep_pure rfl (mwant_none rfl) (fun aa ww cc => ⟨.pointer (some ⟨bl, 1, none⟩), by have e0 : aa.tmps.getD 88 undef = .pointer (some ⟨bl, 0, none⟩) := cc.slot 1 88 (by kernel_rfl) rfl; simp only [execOp, Act.eval]; go_simp, rfl⟩)
            | 3, _ => exact mstep_pure rfl (mwant_none rfl) (fun aa ww cc => ⟨.pointer (some ⟨bg, 0, none⟩), by have e0 : aa.tmps.getD 89 undef = .pointer (some ⟨bl, 1, none⟩) := cc.slot 2 89 (by kernel_rfl) rfl; have q1 := CL.out _ cc.below; simp only [execOp, Act.eval]; go_simp, rfl⟩)
            | 4, _ => exact mstep_loadI rfl (mwant_none rfl) 7 _ rfl (by kernel_rfl) _ _ rfl rfl (fun w hb => LX.out w hb)
            | n + 5, h => exact absurd h (by show ¬ (n + 5 < 5); omega)
          · intro VV w5 hlen hb5 hok
            match VV, hlen with
            | [v0, v1, v2, v3, v4], _ =>
              obtain rfl : v0 = .pointer (some ⟨bl, 0, none⟩) := hok 0 87 rfl
              obtain rfl : v1 = .pointer (some ⟨bl, 0, none⟩) := hok 1 88 rfl
              obtain rfl : v2 = .pointer (some ⟨bl, 1, none⟩) := hok 2 89 rfl
              obtain rfl : v3 = .pointer (some ⟨bg, 0, none⟩) := hok 3 90 rfl
              obtain rfl : v4 = .agg ys.toArray := hok 4 91 rfl
              have HB5 : Hid (Below w10.heap.size w10 w5) := Lib.hid ⟨hb5.os, hb5.tape, hb5.output, hb5.size, hb5.block⟩
              have HAC := Lib.hid (HADD.out w5 HB5.out)
              clear hb5 hok HADD CL LX
              simp only [List.zip_cons_cons, List.zip_nil_right, putsL]
              go_simp
              go_wp2_with fail
              go_at_call 44
              with_reducible refine HAC.out.mono ?_
              rintro e w14 ⟨rfl, O4, hdk14, hup14⟩
              have HLB14 : Hid (Blk w14 bl (lcells br (.pointer (some ⟨bg, 0, none⟩)) 16)) := Lib.hid (hup14.blk (HI10.out.lb.below HB5.out HI10.out.lb.lt) (fun e => by
                rcases e with e | e | e
                · exact HI10.out.no.1 e
                · exact HNE.out.1.2.1 e
                · exact (HNE.out.2 bl e).1 rfl))
              have HEN2 : Hid (∀ w15, w14.grownBy w15 (some bl) → ∀ k : Nat, (installF shaF okPF ⟨r, es⟩ d m b 1).2 = (d2, k) → RetIs w0 bd O bl br bg Ae ⟨r, es⟩ d m b (.returned (.int .i64 (k : Int))) w15) := Lib.hid fun w15 hg k he => by
                have hu : Upd (fun k => O k ∨ LdO bl br bg Ae k) w0 w14 O4 := by
                  have h1 := HI10.out.up
                  have h2 := (Upd.below HB5.out (O := O1)).trans (Upd.refl O1 w5)
                  refine ⟨hup14.os.trans (HB5.out.os.trans h1.os), hup14.tape.trans (HB5.out.tape.trans h1.tape), hup14.output.trans (HB5.out.output.trans h1.output), Nat.le_trans h1.size (Nat.le_trans HB5.out.size hup14.size), fun k hk hn => ?_, fun k hk => ?_⟩
                  · refine (hup14.keep k (Nat.lt_of_lt_of_le hk (Nat.le_trans h1.size HB5.out.size)) (fun e => ?_)).trans ((HB5.out.block k (Nat.lt_of_lt_of_le hk h1.size)).trans (h1.keep k hk hn))
                    rcases e with e | e
                    · rcases h1.new k e with e | e
                      · exact hn e
                      · omega
                    · exact hn (.inr (.inr (.inr e)))
                  · rcases hup14.new k hk with (e | e) | e
                    · exact h1.new k e
                    · exact .inl (.inr (.inr (.inr e)))
                    · exact .inr (Nat.le_trans (Nat.le_trans h1.size HB5.out.size) e)
                have hbl : ¬ O4 bl := hup14.out (Nat.lt_of_lt_of_le HI10.out.lb.lt HB5.out.size) (fun e => by
                  rcases e with e | e | e
                  · exact HI10.out.no.1 e
                  · exact HNE.out.1.2.1 e
                  · exact (HNE.out.2 bl e).1 rfl)
                refine ⟨1, Nat.le_refl _, by rw [he], O4, ?_, hu.sto hg (.inl (.inr (.inl rfl)))⟩
                rw [he]
                exact hdk14.same (fun k hk => hg.block k (hdk14.own k hk) (fun e => by injection e with e; exact hbl (e ▸ hk))) hg.size
              clear hdk14 hup14 HAC
              by_cases h2 : c2 = 0
              · have HRES : Hid (RetIs w0 bd O bl br bg Ae ⟨r, es⟩ d m b (.returned (.int .i64 0)) w14) := Lib.hid (HEN2.out w14 (World.grownBy.refl _ _) 0 (by rw [HRS2.out]; rw [h2]))
                subst h2
                go_wp2_with fail
                go_ret
                exact HRES.out
              · have q2 := ip_bool h2
                have HRES0 : Hid ((installF shaF okPF ⟨r, es⟩ d m b 1).2 = (d2, c2)) := Lib.hid (by rw [HRS2.out])
                clear h2
                go_wp2_with (((with_reducible show wpList _ _ _ (Oper.mk _ (Op.store 4 _ _) _ _ _ _ :: _) _ _); refine wpList_storeB rfl 4 _ _ rfl bl 3 _ (.bool true) (by show 3 < 4; decide) rfl (by rfl) HLB14.out (by kernel_rfl) rfl ?_))
                intro w15 hb15 hg15 hs15
                have HRES : Hid (RetIs w0 bd O bl br bg Ae ⟨r, es⟩ d m b (.returned (.int .i64 (c2 : Int))) w15) := Lib.hid (HEN2.out w15 hg15.out c2 HRES0.out)
                clear hb15 hg15 hs15 q2
                go_wp2_with fail
                go_ret
                exact HRES.out
        · have q1 := ip_bool hc0
          have HRS : Hid ((installF shaF okPF ⟨r, es⟩ d m b 1).2 = (d1, c1)) := Lib.hid (by rw [HGD2.out, if_pos hc0])
          have HLB10 := Lib.hid HI10.out.lb
          clear hc0
          go_wp2_with (((with_reducible show wpList _ _ _ (Oper.mk _ (Op.store 4 _ _) _ _ _ _ :: _) _ _); refine wpList_storeB rfl 4 _ _ rfl bl 3 _ (.bool true) (by show 3 < 4; decide) rfl (by rfl) HLB10.out (by kernel_rfl) rfl ?_))
          intro w11 hb11 hg11 hs11
          have HRES : Hid (RetIs w0 bd O bl br bg Ae ⟨r, es⟩ d m b (.returned (.int .i64 (c1 : Int))) w11) := Lib.hid (HEND.out w10 w11 O1 d1 1 c1 (Nat.le_refl _) HI10.out hg11.out HRS.out)
          clear hb11 hg11 hs11 q1
          go_wp2_with fail
          go_ret
          exact HRES.out
      · -- it is refused
        have HRF := Lib.hid (HIL.out cd hok9)
        have HCD : Hid (1 ≤ cd ∧ cd ≤ 10) := Lib.hid ⟨hc1, hc10⟩
        have HCC := Lib.hid (code_any w9 g8 (cd : Int) (HGL.out w9 O d HI9.out).1.hdl hfb)
        unfold flt at HCC ⊢
        clear hok9 hc1 hc10 hfb HIG HIL HIN HB99 HX69 HA9
        go_wp2_with fail
        go_at_call 42
        with_reducible refine HCC.out.mono ?_
        rintro e w10 ⟨rfl, hb10⟩
        have HI10 : Hid (IsS w0 w10 bl br bg bs bq Ae ce bd n O O d) := Lib.hid (HI9.out.below hb10)
        have HX710 : Hid (Blk w10 b7 xs) := Lib.hid (HX79.out.below hb10 HX79.out.lt)
        clear hb10 HCC HI9 HX79
        go_wp2_with (((with_reducible show wpList _ _ _ (Oper.mk _ (Op.store 3 _ _) _ _ _ _ :: _) _ _); refine wpList_storeB rfl 3 _ _ rfl b7 0 _ (.int .i64 2) (by rw [HXS.out.1]; decide) rfl (by rfl) HX710.out (by kernel_rfl) rfl ?_))
        intro w11 hb11 hg11 hs11
        obtain ⟨x1, hx1⟩ : ∃ x, x = xs.set 0 (.int .i64 2) := ⟨_, rfl⟩
        have HX1 : Hid (Blk w11 b7 x1 ∧ x1.length = 4 ∧ x1.set 3 (.int .i64 (cd : Int)) = ecells ⟨2, 0, mv, cd⟩) := Lib.hid (by rw [hx1]; exact ⟨hb11.out, by rw [List.length_set]; exact HXS.out.1, by rw [HXS.out.2.2]; rfl⟩)
        have HI11 : Hid (IsS w0 w11 bl br bg bs bq Ae ce bd n O O d) := Lib.hid (HFR.out w10 w11 b7 HI10.out hg11.out HN79.out)
        clear hb11 hg11 hs11 hx1 HI10 HX710
        go_wp2_with (((with_reducible show wpList _ _ _ (Oper.mk _ (Op.store 3 _ _) _ _ _ _ :: _) _ _); refine wpList_storeB rfl 3 _ _ rfl b7 3 _ (.int .i64 (cd : Int)) (by rw [HX1.out.2.1]; decide) rfl (by rfl) HX1.out.1 (by kernel_rfl) rfl ?_))
        intro w12 hb12 hg12 hs12
        have HI12 : Hid (IsS w0 w12 bl br bg bs bq Ae ce bd n O O d) := Lib.hid (HFR.out w11 w12 b7 HI11.out hg12.out HN79.out)
        have HX712 : Hid (Blk w12 b7 (ecells ⟨2, 0, mv, cd⟩)) := Lib.hid (by have h := hb12.out; rw [HX1.out.2.2] at h; exact h)
        have HPD : Hid (d.pend = []) := Lib.hid HD.out.2.1
        have HSV : Hid (d.surv.length ≤ 140737488351232) := Lib.hid HD.out.2.2
        clear hb12 hg12 hs12 HX1 HI11
        obtain ⟨ys, hys⟩ : ∃ x, x = ecells ⟨2, 0, mv, cd⟩ := ⟨_, rfl⟩
        obtain ⟨d2, hd2⟩ : ∃ x, x = (addF es d ⟨2, 0, mv, cd⟩).2.1 := ⟨_, rfl⟩
        obtain ⟨c2, hc2⟩ : ∃ x, x = (addF es d ⟨2, 0, mv, cd⟩).2.2 := ⟨_, rfl⟩
        have HADD : Hid (∀ w1, Below w12.heap.size w12 w1 → Calls Tryz.prog 44 #[.pointer (some ⟨bg, 0, none⟩), .agg ys.toArray] w1 (RetAd w1 bd O bg Ae (d2, c2))) := Lib.hid fun w1 hb => by
          have hi := HI12.out.below hb
          have hgl := HGL.out w1 O d hi
          have h := aadd_calls w1 hgl.1 bg bq bd n Ae ce O d ⟨2, 0, mv, cd⟩ hi.li hi.pq hi.dk (by have := HN16.out; omega) es HES.out HPD.out HSV.out HMV.out hi.no.2.1 hi.no.2.2.2.2 hi.no.2.2.2.1 HNE.out.1.2.2.2.2.2.2.2.2 (fun e => ((HNE.out.2 bq e).2.2.2.2) rfl)
          have e : (addF es d ⟨2, 0, mv, cd⟩).2 = (d2, c2) := by rw [hd2, hc2]
          rw [e] at h
          rw [hys]
          exact h
        have HRS2 : Hid ((installF shaF okPF ⟨r, es⟩ d m b cd).2 = if c2 ≠ 0 then (d2, c2) else (d2, cd)) := Lib.hid (by rw [HRF.out, hd2, hc2])
        have HYS : Hid (Blk w12 b7 ys ∧ ys.length = 4) := Lib.hid (by rw [hys]; exact ⟨HX712.out, rfl⟩)
        have CL : Hid (∀ w', Below w12.drew.heap.size w12.drew w' → w'.cell? ⟨bl, 1, none⟩ = some (.pointer (some ⟨bg, 0, none⟩))) := Lib.hid fun w' hb => (HI12.out.lb.keep (hb.block bl HI12.out.lb.lt)).cell rfl
        have LX : Hid (∀ w', Below w12.drew.heap.size w12.drew w' → (Instr.loadAt 105 (.pointer (some ⟨b7, 0, none⟩))).run Tryz.prog w' = .ok (.agg ys.toArray) w') := Lib.hid fun w' hb => run_loadAtM sEnt w' b7 0 _ ((HYS.out.1.keep (hb.block b7 HYS.out.1.lt)).range 0 _ ⟨[], [], by simp, rfl⟩) HYS.out.2
        clear hys hd2 hc2
        go_wp2_with fail
        refine region_tails 5 (fun ix9 => ([.is (.pointer (some ⟨bl, 0, none⟩)), .is (.pointer (some ⟨bl, 0, none⟩)), .is (.pointer (some ⟨bl, 1, none⟩)), .is (.pointer (some ⟨bg, 0, none⟩)), .is (.agg ys.toArray)] : List VD).getD ix9 (.is undef)) [some 87, some 88, some 89, some 90, some 91] (by kernel_rfl) (by kernel_rfl) (by kernel_rfl) (by kernel_rfl) rfl (fun ii hii => ?_) ?_
        · match ii, hii with
          | 0, _ => exact mstep_first rfl (mwant_none rfl) 0 (Or.inl rfl) (by kernel_rfl) (fun _ _ => rfl)
          | 1, _ => exact mstep_pure rfl (mwant_none rfl) (fun aa ww cc => ⟨.pointer (some ⟨bl, 0, none⟩), by have e0 : aa.tmps.getD 87 undef = .pointer (some ⟨bl, 0, none⟩) := cc.slot 0 87 (by kernel_rfl) rfl; simp only [execOp, Act.eval]; go_simp, rfl⟩)
          | 2, _ => exact mstep_pure rfl (mwant_none rfl) (fun aa ww cc => ⟨.pointer (some ⟨bl, 1, none⟩), by have e0 : aa.tmps.getD 88 undef = .pointer (some ⟨bl, 0, none⟩) := cc.slot 1 88 (by kernel_rfl) rfl; simp only [execOp, Act.eval]; go_simp, rfl⟩)
          | 3, _ => exact mstep_pure rfl (mwant_none rfl) (fun aa ww cc => ⟨.pointer (some ⟨bg, 0, none⟩), by have e0 : aa.tmps.getD 89 undef = .pointer (some ⟨bl, 1, none⟩) := cc.slot 2 89 (by kernel_rfl) rfl; have q1 := CL.out _ cc.below; simp only [execOp, Act.eval]; go_simp, rfl⟩)
          | 4, _ => exact mstep_loadI rfl (mwant_none rfl) 7 _ rfl (by kernel_rfl) _ _ rfl rfl (fun w hb => LX.out w hb)
          | n + 5, h => exact absurd h (by show ¬ (n + 5 < 5); omega)
        · intro VV w5 hlen hb5 hok
          match VV, hlen with
          | [v0, v1, v2, v3, v4], _ =>
            obtain rfl : v0 = .pointer (some ⟨bl, 0, none⟩) := hok 0 87 rfl
            obtain rfl : v1 = .pointer (some ⟨bl, 0, none⟩) := hok 1 88 rfl
            obtain rfl : v2 = .pointer (some ⟨bl, 1, none⟩) := hok 2 89 rfl
            obtain rfl : v3 = .pointer (some ⟨bg, 0, none⟩) := hok 3 90 rfl
            obtain rfl : v4 = .agg ys.toArray := hok 4 91 rfl
            have HB5 : Hid (Below w12.heap.size w12 w5) := Lib.hid ⟨hb5.os, hb5.tape, hb5.output, hb5.size, hb5.block⟩
            have HAC := Lib.hid (HADD.out w5 HB5.out)
            clear hb5 hok HADD CL LX
            simp only [List.zip_cons_cons, List.zip_nil_right, putsL]
            go_simp
            go_wp2_with fail
            go_at_call 44
            with_reducible refine HAC.out.mono ?_
            rintro e w14 ⟨rfl, O4, hdk14, hup14⟩
            have HLB14 : Hid (Blk w14 bl (lcells br (.pointer (some ⟨bg, 0, none⟩)) 16)) := Lib.hid (hup14.blk (HI12.out.lb.below HB5.out HI12.out.lb.lt) (fun e => by
              rcases e with e | e | e
              · exact HI12.out.no.1 e
              · exact HNE.out.1.2.1 e
              · exact (HNE.out.2 bl e).1 rfl))
            have HEN2 : Hid (∀ w15, w14.grownBy w15 (some bl) → ∀ k : Nat, (installF shaF okPF ⟨r, es⟩ d m b cd).2 = (d2, k) → RetIs w0 bd O bl br bg Ae ⟨r, es⟩ d m b (.returned (.int .i64 (k : Int))) w15) := Lib.hid fun w15 hg k he => by
              have hu : Upd (fun k => O k ∨ LdO bl br bg Ae k) w0 w14 O4 := by
                have h1 := HI12.out.up
                have h2 := (Upd.below HB5.out (O := O)).trans (Upd.refl O w5)
                refine ⟨hup14.os.trans (HB5.out.os.trans h1.os), hup14.tape.trans (HB5.out.tape.trans h1.tape), hup14.output.trans (HB5.out.output.trans h1.output), Nat.le_trans h1.size (Nat.le_trans HB5.out.size hup14.size), fun k hk hn => ?_, fun k hk => ?_⟩
                · refine (hup14.keep k (Nat.lt_of_lt_of_le hk (Nat.le_trans h1.size HB5.out.size)) (fun e => ?_)).trans ((HB5.out.block k (Nat.lt_of_lt_of_le hk h1.size)).trans (h1.keep k hk hn))
                  rcases e with e | e
                  · rcases h1.new k e with e | e
                    · exact hn e
                    · omega
                  · exact hn (.inr (.inr (.inr e)))
                · rcases hup14.new k hk with (e | e) | e
                  · exact h1.new k e
                  · exact .inl (.inr (.inr (.inr e)))
                  · exact .inr (Nat.le_trans (Nat.le_trans h1.size HB5.out.size) e)
              have hbl : ¬ O4 bl := hup14.out (Nat.lt_of_lt_of_le HI12.out.lb.lt HB5.out.size) (fun e => by
                rcases e with e | e | e
                · exact HI12.out.no.1 e
                · exact HNE.out.1.2.1 e
                · exact (HNE.out.2 bl e).1 rfl)
              refine ⟨cd, HCD.out.1, by rw [he], O4, ?_, hu.sto hg (.inl (.inr (.inl rfl)))⟩
              rw [he]
              exact hdk14.same (fun k hk => hg.block k (hdk14.own k hk) (fun e => by injection e with e; exact hbl (e ▸ hk))) hg.size
            clear hdk14 hup14 HAC
            by_cases h2 : c2 = 0
            · have HRES : Hid (RetIs w0 bd O bl br bg Ae ⟨r, es⟩ d m b (.returned (.int .i64 (cd : Int))) w14) := Lib.hid (HEN2.out w14 (World.grownBy.refl _ _) cd (by rw [HRS2.out]; rw [if_neg (fun h => h h2)]))
              subst h2
              go_wp2_with fail
              go_ret
              exact HRES.out
            · have q2 := ip_bool h2
              have HRES0 : Hid ((installF shaF okPF ⟨r, es⟩ d m b cd).2 = (d2, c2)) := Lib.hid (by rw [HRS2.out]; rw [if_pos h2])
              clear h2
              go_wp2_with (((with_reducible show wpList _ _ _ (Oper.mk _ (Op.store 4 _ _) _ _ _ _ :: _) _ _); refine wpList_storeB rfl 4 _ _ rfl bl 3 _ (.bool true) (by show 3 < 4; decide) rfl (by rfl) HLB14.out (by kernel_rfl) rfl ?_))
              intro w15 hb15 hg15 hs15
              have HRES : Hid (RetIs w0 bd O bl br bg Ae ⟨r, es⟩ d m b (.returned (.int .i64 (c2 : Int))) w15) := Lib.hid (HEN2.out w15 hg15.out c2 HRES0.out)
              clear hb15 hg15 hs15 q2
              go_wp2_with fail
              go_ret
              exact HRES.out
end Go.Proofs.YtjfpoahmjgeogaaGreatDoor
/- Behind an install, whenever the power fails: what a partition has is the new image, whole, or the old one. No program in sight. -/
namespace Nac.Img
open Nac.Crc
variable (sha : List UInt8 → List UInt8) (okP : List UInt8 → Bool)
theorem log_next {s s' : List (List UInt8)} {i : Nat} (h : Inv sha okP s i) (hl : ∀ k, k < 16 → k ≠ (logAt s).length → s'.getD (24 + k) [] = s.getD (24 + k) []) : ∃ c, c ≤ i + 1 ∧ ∀ k, c ≤ k → k < 16 → s'.getD (24 + k) [] = zeroS := by
  obtain ⟨c, hc, hz⟩ := h.log
  have hn := log_len16 (L := fun n => s.getD (24 + n) []) 16 0 c (Nat.zero_le _) (Nat.le_refl _) hz
  have hn : (logAt s).length ≤ c := hn
  refine ⟨c + 1, by omega, fun k h1 h2 => ?_⟩
  rw [hl k h2 (by omega)]
  exact hz k (by omega) h2
theorem inv_old {s s' : List (List UInt8)} {i : Nat} (h : Inv sha okP s i) (hlen : s'.length = s.length) (h0 : s'.getD 0 [] = s.getD 0 []) (h1 : s'.getD 1 [] = s.getD 1 []) (hb : ∀ k, k < 11 → s'.getD (bankAtF (headsF (secAt s)).2 + k) [] = s.getD (bankAtF (headsF (secAt s)).2 + k) [])
    (hl : ∀ k, k < 16 → k ≠ (logAt s).length → s'.getD (24 + k) [] = s.getD (24 + k) []) : loadF sha okP (secAt s') = loadF sha okP (secAt s) ∧ Inv sha okP s' (i + 1) := by
  have e : loadF sha okP (secAt s') = loadF sha okP (secAt s) := load_same sha okP h0 h1 hb
  refine ⟨e, by rw [hlen]; exact h.len, ?_, fun b v hv => ?_, log_next sha okP h hl⟩
  · rw [heads_same (S := secAt s) (S' := secAt s') h0 h1]
    have := h.gen
    omega
  · rw [e] at hv
    have := h.ver b v hv
    omega
theorem inv_new {s s' : List (List UInt8)} {i : Nat} {m : Man} {b : List UInt8} (h : Inv sha okP s i) (hi : i < 4294967294) (hlen : s'.length = s.length) (hm : imgOk sha okP m b = true) (hp : m.part = 0) (hv : m.ver = i + 1) (hs : m.sum.length = 32)
    (h1 : s'.getD (((headsF (secAt s)).1 + 1) % 2) [] = headSec ((headsF (secAt s)).1 + 1) (1 - (headsF (secAt s)).2)) (h2 : s'.getD ((headsF (secAt s)).1 % 2) [] = s.getD ((headsF (secAt s)).1 % 2) [])
    (hb : ∀ k x, (bankF ((headsF (secAt s)).1 + 1) m b)[k]? = some x → s'.getD (bankAtF (1 - (headsF (secAt s)).2) + k) [] = x)
    (hl : ∀ k, k < 16 → k ≠ (logAt s).length → s'.getD (24 + k) [] = s.getD (24 + k) []) : (loadF sha okP (secAt s')).img = some (b, i + 1) ∧ Inv sha okP s' (i + 1) := by
  have hg := h.gen
  have hh : headsF (secAt s') = ((headsF (secAt s)).1 + 1, 1 - (headsF (secAt s)).2) := heads_new rfl (by omega) (by omega) h1 h2
  have e := load_new sha okP hh hm hp (by omega) hs hb
  refine ⟨by rw [e, hv], by rw [hlen]; exact h.len, ?_, fun b' v hv' => ?_, log_next sha okP h hl⟩
  · rw [hh]
    show (headsF (secAt s)).1 + 1 ≤ i + 1
    omega
  · rw [e] at hv'
    injection hv' with hv'
    injection hv' with _ h2
    omega
structure Came (s s' : List (List UInt8)) (i : Nat) (m : Man) (b : List UInt8) (code : Nat) : Prop where
  inv : Inv sha okP s' (i + 1)
  img : ((loadF sha okP (secAt s')).img = some (b, i + 1) ∧ imgOk sha okP m b = true) ∨ ((loadF sha okP (secAt s')).img = (loadF sha okP (secAt s)).img ∧ code ≠ 0)
theorem fell_len {s : List (List UInt8)} {ws : List (Nat × List UInt8)} {d : Dk} (h : Fell s ws d) : d.secs.length = s.length := by
  obtain ⟨sub, _, rfl⟩ := h
  exact apply_len _ _
theorem fell_out {s : List (List UInt8)} {ws : List (Nat × List UInt8)} {d : Dk} (h : Fell s ws d) {q : Nat} (hq : ∀ w ∈ ws, w.1 ≠ q) : d.secs.getD q [] = s.getD q [] := by
  obtain ⟨sub, hs, rfl⟩ := h
  exact apply_out _ _ _ fun w hw => hq w (hs w hw)
theorem fell_one : ∀ (sub : List (Nat × List UInt8)) (s : List (List UInt8)) (p : Nat) (x : List UInt8), p < s.length → (∀ w ∈ sub, w = (p, x)) → (applyP s sub).getD p [] = s.getD p [] ∨ (applyP s sub).getD p [] = x
  | [], _, _, _, _, _ => .inl rfl
  | w :: sub, s, p, x, hp, h => by
    have hw := h w List.mem_cons_self
    subst hw
    have e : (s.set p x).getD p [] = x := by rw [List.getD_eq_getElem?_getD, List.getElem?_set_self hp]; rfl
    rcases fell_one sub (s.set p x) p x (by rw [List.length_set]; exact hp) fun w hw => h w (List.mem_cons_of_mem _ hw) with h1 | h1
    · exact .inr (h1.trans e)
    · exact .inr h1
theorem apply_one {s : List (List UInt8)} {p : Nat} {x : List UInt8} (hp : p < s.length) : (applyP s [(p, x)]).getD p [] = x := by
  show (s.set p x).getD p [] = x
  rw [List.getD_eq_getElem?_getD, List.getElem?_set_self hp]
  rfl
theorem add_cases (es : List Ent) (d : Dk) (x : Ent) (h : d.off = false) (hp : d.pend = []) : ((addF es d x).2.1.secs.length = d.secs.length ∧ ∀ q, q ≠ 24 + es.length → (addF es d x).2.1.secs.getD q [] = d.secs.getD q []) ∧ (addF es d x).2.1.pend = [] := by
  unfold addF
  split
  · exact ⟨⟨rfl, fun _ _ => rfl⟩, hp⟩
  split
  · exact ⟨⟨rfl, fun _ _ => rfl⟩, hp⟩
  have hq : ∀ q, q ≠ 24 + es.length → ∀ w ∈ [(24 + es.length, entSec es.length x)], w.1 ≠ q := fun q hq w hw => by
    rw [List.mem_singleton] at hw
    subst hw
    exact fun e => hq e.symm
  rcases put_cases [(24 + es.length, entSec es.length x)] d h hp with ⟨h1, h2, h3, h4⟩ | ⟨h1, h2⟩
  · simp only [h1]
    rw [if_neg (by simp)]
    exact ⟨⟨by show (d.put _).1.secs.length = _; rw [h2, apply_len], fun q hne => by show (d.put _).1.secs.getD q [] = _; rw [h2]; exact apply_out _ _ _ (hq q hne)⟩, h3⟩
  · simp only [h1]
    rw [if_pos (by decide)]
    refine ⟨⟨fell_len h2, fun q hne => fell_out h2 (hq q hne)⟩, ?_⟩
    obtain ⟨sub, _, e⟩ := h2
    show (d.put _).1.pend = []
    rw [e]
theorem came {s : List (List UInt8)} {d : Dk} {i : Nat} {m : Man} {b : List UInt8} {code : Nat} (h : Inv sha okP s i) (hi : i < 10) (hd : d.secs = s) (hoff : d.off = false) (hpend : d.pend = []) (hp : m.part = 0) (hv : m.ver = i + 1) (hs : m.sum.length = 32)
    (hc : imgOk sha okP m b = false → code ≠ 0) : Came sha okP s (installF sha okP (openF sha okP s) d m b code).2.1.secs i m b (installF sha okP (openF sha okP s) d m b code).2.2 := by
  obtain ⟨hlg, hlb⟩ := load_gen sha okP (secAt s)
  have hb2 := heads_bank (secAt s)
  have hents := Inv.ents sha okP h
  have h40 := h.len
  have hgen := h.gen
  unfold installF
  have e1 : (openF sha okP s).ents = logAt s := rfl
  have e2 : (openF sha okP s).reg = loadF sha okP (secAt s) := rfl
  rw [if_neg (by rw [e1, e2, hlg]; omega)]
  by_cases hok : imgOk sha okP m b = true
  · rw [if_pos hok]
    have h512 : b.length ≤ 512 := by
      have h' := hok
      unfold imgOk Man.okB at h'
      simp only [Bool.and_eq_true, decide_eq_true_eq] at h'
      omega
    have hbl := bank_len (g := (headsF (secAt s)).1 + 1) (m := m) h512
    have hws : ∀ w ∈ wsFrom (bankAtF (1 - (headsF (secAt s)).2)) (bankF ((headsF (secAt s)).1 + 1) m b), bankAtF (1 - (headsF (secAt s)).2) ≤ w.1 ∧ w.1 < bankAtF (1 - (headsF (secAt s)).2) + 11 := fun w hw => by
      have := ws_place _ _ w hw
      omega
    rcases put_cases (wsFrom (bankAtF (1 - (headsF (secAt s)).2)) (bankF ((headsF (secAt s)).1 + 1) m b)) d hoff hpend with ⟨p1, p2, p3, p4⟩ | ⟨p1, p2⟩
    · -- the bank stands
      rw [hd] at p2
      have q2 := put_cases [(((headsF (secAt s)).1 + 1) % 2, headSec ((headsF (secAt s)).1 + 1) (1 - (headsF (secAt s)).2))] (d.put (wsFrom (bankAtF (1 - (headsF (secAt s)).2)) (bankF ((headsF (secAt s)).1 + 1) m b))).1 p4 p3
      rw [p2] at q2
      have hs1 : ∀ q, (∀ w ∈ wsFrom (bankAtF (1 - (headsF (secAt s)).2)) (bankF ((headsF (secAt s)).1 + 1) m b), w.1 ≠ q) → (applyP s (wsFrom (bankAtF (1 - (headsF (secAt s)).2)) (bankF ((headsF (secAt s)).1 + 1) m b))).getD q [] = s.getD q [] := fun q hq => apply_out _ _ _ hq
      have hbk : ∀ k x, (bankF ((headsF (secAt s)).1 + 1) m b)[k]? = some x → (applyP s (wsFrom (bankAtF (1 - (headsF (secAt s)).2)) (bankF ((headsF (secAt s)).1 + 1) m b))).getD (bankAtF (1 - (headsF (secAt s)).2) + k) [] = x :=
        apply_ws _ _ _ (by rw [h40]; unfold bankAtF; omega)
      have hl1 := apply_len (wsFrom (bankAtF (1 - (headsF (secAt s)).2)) (bankF ((headsF (secAt s)).1 + 1) m b)) s
      obtain ⟨s1, hs1e⟩ : ∃ s1, s1 = applyP s (wsFrom (bankAtF (1 - (headsF (secAt s)).2)) (bankF ((headsF (secAt s)).1 + 1) m b)) := ⟨_, rfl⟩
      rw [← hs1e] at q2 hs1 hbk hl1
      -- what is left as it was, whatever becomes of the head
      have fin : ∀ (s' : List (List UInt8)) (c : Nat), s'.length = s1.length → (∀ q, q ≠ ((headsF (secAt s)).1 + 1) % 2 → q ≠ 24 + (logAt s).length → s'.getD q [] = s1.getD q []) → (s'.getD (((headsF (secAt s)).1 + 1) % 2) [] = s1.getD (((headsF (secAt s)).1 + 1) % 2) [] ∧ c ≠ 0 ∨ s'.getD (((headsF (secAt s)).1 + 1) % 2) [] = headSec ((headsF (secAt s)).1 + 1) (1 - (headsF (secAt s)).2)) → Came sha okP s s' i m b c := fun s' c hlen hsame hhead => by
        have hlog : ∀ k, k < 16 → k ≠ (logAt s).length → s'.getD (24 + k) [] = s.getD (24 + k) [] := fun k h1 h2 => by
          rw [hsame _ (by omega) (by omega)]
          exact hs1 _ fun w hw => by have := hws w hw; unfold bankAtF at this; omega
        rcases hhead with ⟨hh, hcne⟩ | hh
        · have hh0 : ∀ q, q < 2 → s'.getD q [] = s.getD q [] := fun q hq => by
            have e : s'.getD q [] = s1.getD q [] := by
              by_cases hqe : q = ((headsF (secAt s)).1 + 1) % 2
              · rw [hqe]; exact hh
              · exact hsame q hqe (by omega)
            rw [e]
            exact hs1 _ fun w hw => by have := hws w hw; unfold bankAtF at this; omega
          obtain ⟨a1, a2⟩ := inv_old sha okP h (by rw [hlen, hl1]) (hh0 0 (by decide)) (hh0 1 (by decide)) (fun k hk => by
            rw [hsame _ (by unfold bankAtF; omega) (by unfold bankAtF; omega)]
            exact hs1 _ fun w hw => by have := hws w hw; unfold bankAtF at this ⊢; omega) hlog
          exact ⟨a2, .inr ⟨by rw [a1], hcne⟩⟩
        · obtain ⟨a1, a2⟩ := inv_new sha okP h (by omega) (by rw [hlen, hl1]) hok hp hv hs hh (by
            rw [hsame _ (by omega) (by omega)]
            exact hs1 _ fun w hw => by have := hws w hw; unfold bankAtF at this; omega) (fun k x hx => by
            have hk : k < 11 := Nat.lt_of_lt_of_le (List.getElem?_eq_some_iff.1 hx).1 hbl
            rw [hsame _ (by unfold bankAtF; omega) (by unfold bankAtF; omega)]
            exact hbk k x hx) hlog
          exact ⟨a2, .inl ⟨a1, hok⟩⟩
      have hinst : instF (openF sha okP s).reg d m b = if ((d.put (wsFrom (bankAtF (1 - (headsF (secAt s)).2)) (bankF ((headsF (secAt s)).1 + 1) m b))).1.put [(((headsF (secAt s)).1 + 1) % 2, headSec ((headsF (secAt s)).1 + 1) (1 - (headsF (secAt s)).2))]).2 ≠ 0 then ((openF sha okP s).reg, ((d.put (wsFrom (bankAtF (1 - (headsF (secAt s)).2)) (bankF ((headsF (secAt s)).1 + 1) m b))).1.put [(((headsF (secAt s)).1 + 1) % 2, headSec ((headsF (secAt s)).1 + 1) (1 - (headsF (secAt s)).2))]).1, ((d.put (wsFrom (bankAtF (1 - (headsF (secAt s)).2)) (bankF ((headsF (secAt s)).1 + 1) m b))).1.put [(((headsF (secAt s)).1 + 1) % 2, headSec ((headsF (secAt s)).1 + 1) (1 - (headsF (secAt s)).2))]).2) else (⟨(headsF (secAt s)).1 + 1, 1 - (headsF (secAt s)).2, some (b, m.ver)⟩, ((d.put (wsFrom (bankAtF (1 - (headsF (secAt s)).2)) (bankF ((headsF (secAt s)).1 + 1) m b))).1.put [(((headsF (secAt s)).1 + 1) % 2, headSec ((headsF (secAt s)).1 + 1) (1 - (headsF (secAt s)).2))]).1, 0) := by
        unfold instF
        rw [e2, hlg, hlb]
        simp only
        rw [if_neg (by rw [p1]; simp)]
      generalize (d.put (wsFrom (bankAtF (1 - (headsF (secAt s)).2)) (bankF ((headsF (secAt s)).1 + 1) m b))).1 = dd at q2 hinst
      have hpl : ((headsF (secAt s)).1 + 1) % 2 < s1.length := by rw [hl1, h40]; omega
      rcases q2 with ⟨r1, r2, r3, r4⟩ | ⟨r1, r2⟩
      · rw [if_neg (by rw [r1]; simp)] at hinst
        rw [hinst]
        simp only
        rw [if_neg (by simp)]
        generalize (dd.put [(((headsF (secAt s)).1 + 1) % 2, headSec ((headsF (secAt s)).1 + 1) (1 - (headsF (secAt s)).2))]).1 = d2 at r2 r3 r4 ⊢
        obtain ⟨⟨c1, c2⟩, _⟩ := add_cases (openF sha okP s).ents d2 ⟨1, m.part.toNat, m.ver, 0⟩ r4 r3
        have key : ∀ c, Came sha okP s (addF (openF sha okP s).ents d2 ⟨1, m.part.toNat, m.ver, 0⟩).2.1.secs i m b c := fun c => by
          refine fin _ c (by rw [c1, r2, apply_len]) (fun q h1 h2 => ?_) (.inr ?_)
          · rw [c2 q h2, r2]
            exact apply_out _ _ _ fun w hw => by rw [List.mem_singleton] at hw; subst hw; exact fun e => h1 e.symm
          · rw [c2 _ (by omega), r2]
            exact apply_one hpl
        split
        · exact key _
        · exact key _
      · rw [if_pos (by rw [r1]; decide)] at hinst
        rw [hinst]
        simp only
        rw [if_pos (by rw [r1]; decide)]
        refine fin _ _ (fell_len r2) (fun q h1 h2 => fell_out r2 fun w hw => by rw [List.mem_singleton] at hw; subst hw; exact fun e => h1 e.symm) ?_
        obtain ⟨sub, hsub, e⟩ := r2
        show (dd.put _).1.secs.getD _ [] = _ ∧ _ ∨ (dd.put _).1.secs.getD _ [] = _
        rw [e]
        rcases fell_one sub s1 _ _ hpl fun w hw => List.mem_singleton.1 (hsub w hw) with h1 | h1
        · exact .inl ⟨h1, by rw [r1]; decide⟩
        · exact .inr h1
    · -- the power failed while the bank was written
      have hinst : instF (openF sha okP s).reg d m b = ((openF sha okP s).reg, (d.put (wsFrom (bankAtF (1 - (headsF (secAt s)).2)) (bankF ((headsF (secAt s)).1 + 1) m b))).1, (d.put (wsFrom (bankAtF (1 - (headsF (secAt s)).2)) (bankF ((headsF (secAt s)).1 + 1) m b))).2) := by
        unfold instF
        rw [e2, hlg, hlb]
        simp only
        rw [if_pos (by rw [p1]; decide)]
      rw [hinst]
      simp only
      rw [if_pos (by rw [p1]; decide)]
      rw [hd] at p2
      have hout : ∀ q, (q < bankAtF (1 - (headsF (secAt s)).2) ∨ bankAtF (1 - (headsF (secAt s)).2) + 11 ≤ q) → (d.put (wsFrom (bankAtF (1 - (headsF (secAt s)).2)) (bankF ((headsF (secAt s)).1 + 1) m b))).1.secs.getD q [] = s.getD q [] := fun q hq => fell_out p2 fun w hw => by have := hws w hw; omega
      obtain ⟨a1, a2⟩ := inv_old sha okP h (fell_len p2) (hout 0 (by unfold bankAtF; omega)) (hout 1 (by unfold bankAtF; omega)) (fun k hk => hout _ (by unfold bankAtF; omega)) (fun k h1 _ => hout _ (by unfold bankAtF; omega))
      exact ⟨a2, .inr ⟨by rw [a1], by show (d.put _).2 ≠ 0; rw [p1]; decide⟩⟩
  · rw [if_neg hok]
    have hcne := hc (by simpa using hok)
    obtain ⟨⟨c1, c2⟩, _⟩ := add_cases (openF sha okP s).ents d ⟨2, m.part.toNat, m.ver, code⟩ hoff hpend
    rw [hd] at c1 c2
    obtain ⟨a1, a2⟩ := inv_old sha okP h c1 (c2 0 (by omega)) (c2 1 (by omega)) (fun k hk => c2 _ (by rw [e1]; unfold bankAtF; omega)) (fun k h1 h2 => c2 _ (by rw [e1]; omega))
    simp only
    split
    · rename_i hne
      exact ⟨a2, .inr ⟨by rw [a1], hne⟩⟩
    · exact ⟨a2, .inr ⟨by rw [a1], hcne⟩⟩
end Nac.Img
/- Encode: bytes out of instructions. -/
namespace Go.Proofs.YtjfpoahmjgeogaaGreatDoor
open Go.RowKit Nac Nac.Pvm
theorem sIns : SInfo 94 4 := ⟨by kernel_rfl, _, Tryz.underlying94, rfl⟩
theorem bv_of (x : Nat) (h : x < 256) : bv (UInt8.ofNat x) = .int .u8 (x : Int) := by
  unfold bv
  have : (UInt8.ofNat x).toNat = x := by simp [Nat.mod_eq_of_lt h]
  rw [this]
theorem insB_cells (i : Ins) (h : i.fits) : (insB i).map bv = icells i := by
  unfold insB icells
  simp only [List.map_cons, List.map_nil]
  rw [bv_of _ h.op, bv_of _ h.a, bv_of _ h.b, bv_of _ h.c]
theorem encI_snoc (l : List Ins) (k : Nat) (hk : k < l.length) : encI (l.take (k + 1)) = encI (l.take k) ++ insB l[k] := by
  unfold encI
  rw [List.take_succ_eq_append_getElem hk, List.map_append, List.flatten_append]
  simp
theorem encI_len (l : List Ins) : (encI l).length = 4 * l.length := by
  unfold encI
  induction l with
  | nil => rfl
  | cons i l ih => simp only [List.map_cons, List.flatten_cons, List.length_append, ih, List.length_cons]; show 4 + _ = _; omega
theorem rin_range {w : World} {b o k : Nat} {i : Ins} (h0 : w.cell? ⟨b, o + k * 4, none⟩ = some (.int .u8 i.op)) (h1 : w.cell? ⟨b, o + k * 4 + 1, none⟩ = some (.int .u8 i.a)) (h2 : w.cell? ⟨b, o + k * 4 + 2, none⟩ = some (.int .u8 i.b)) (h3 : w.cell? ⟨b, o + k * 4 + 3, none⟩ = some (.int .u8 i.c)) : w.rangeAt b (o + k * 4) (icells i) := fun j v hj => by
  match j, hj with
  | 0, hj => injection hj with hj; subst hj; exact h0
  | 1, hj => injection hj with hj; subst hj; exact h1
  | 2, hj => injection hj with hj; subst hj; exact h2
  | 3, hj => injection hj with hj; subst hj; exact h3
theorem wpList_build4 {w : World} {ops : Array Oper} {rest : List Oper} {o : Oper} {a : Act} {Q : Exit → Act → World → Prop} (hg : o.guard = none) (p0 p1 p2 p3 : Operand) (ho : o.op = .buildSlice 36 4 #[(0, p0), (1, p1), (2, p2), (3, p3)]) (x : Ins)
    (e0 : a.eval p0 = .int .u8 x.op) (e1 : a.eval p1 = .int .u8 x.a) (e2 : a.eval p2 = .int .u8 x.b) (e3 : a.eval p3 = .int .u8 x.c)
    (h : ∀ w', Blk w' w.heap.size (icells x) → w.grownBy w' none → wpList Tryz.prog ops Q rest (a.put o.dst (.slice (some ⟨w.heap.size, 0, none⟩) 4 4)) w') : wpList Tryz.prog ops Q (o :: rest) a w := by
  obtain ⟨ti, hi, hz, hs1, hb1⟩ := info_parts Tryz.infoByte
  refine wpList_buildSlice hg _ 5 4 _ ho (icells x).toArray ti (.int .u8 0) Tryz.underlying36 hi hz (by rw [hs1]; decide) (by rw [hs1]; decide) ?_ (h _ (Blk.new w (icells x) _) (World.grownBy_alloc w _ none))
  rw [hs1]
  simp only [List.map_toArray, List.map_cons, List.map_nil, e0, e1, e2, e3]
  unfold icells
  kernel_rfl
theorem rb_ins {w : World} {b : Nat} {x : Ins} (h : Blk w b (icells x)) (hf : x.fits) : RB w w.heap.size (some ⟨b, 0, none⟩) (insB x) := fun _ => by
  refine ⟨b, 0, rfl, h.lt, fun j hj => ?_⟩
  have : (icells x)[j]? = some (bv (insB x)[j]) := by rw [← insB_cells x hf]; simp [hj]
  rw [Nat.zero_add]
  exact h.cell this
theorem ob_grown0 {w w' : World} {base : Nat} {A : Option Addr} {c : Nat} {l : List UInt8} (h : OB w base A c l) (hg : w.grownBy w' none) : OB w' base A c l :=
  h.kept hg (by cases A <;> simp)
theorem ob_grown1 {w w' : World} {base b : Nat} {A : Option Addr} {c : Nat} {l : List UInt8} (h : OB w base A c l) (hg : w.grownBy w' (some b)) (hb : ∀ k, A.map (·.block) = some k → k ≠ b) : OB w' base A c l :=
  h.kept hg (by
    cases A with
    | none => exact .inl rfl
    | some a => exact .inr fun e => hb a.block rfl (by injection e))
def EcRel (w0 : World) (l : List Ins) (s3 s12 : Value) (w : World) : Prop :=
  ∃ (i : Nat) (A : Option Addr) (c : Nat) (L : List UInt8), i ≤ l.length ∧ s12 = .int .i64 (i : Int) ∧ s3 = .slice A L.length c ∧ L = encI (l.take i) ∧ OB w w0.heap.size A c L ∧ Below w0.heap.size w0 w
end Go.Proofs.YtjfpoahmjgeogaaGreatDoor
/- NacelleImages: what the law needs of the plain one. -/
namespace Nac.Img
open Nac.Pvm Nac.Crc
def Dk.idle (s : List (List UInt8)) : Dk := ⟨s, [], false, false, 0, []⟩
theorem zero_idle : Dk.zero = Dk.idle (List.replicate 40 zeroS) := rfl
theorem after_idle (d : Dk) : (d.arm (-1) []).power = Dk.idle d.secs := by
  unfold Dk.arm
  split
  · rfl
  · rw [if_pos (by decide)]; rfl
theorem arm_idle (s : List (List UInt8)) (n : Int) (hn : 0 ≤ n) (k : List Bool) : (Dk.idle s).arm n k = { Dk.idle s with armed := true, left := n.toNat, surv := k } := by
  unfold Dk.arm
  rw [if_neg (by show ¬ (false = true); decide), if_neg (by omega)]
theorem headF_zero (a : Nat) : headF a zeroS = none := by
  cases h : headF a zeroS with
  | none => rfl
  | some x =>
  obtain ⟨_, _, _, e⟩ := headF_gen (g := x.1) (n := x.2) h
  have h2 := congrArg List.head? e
  have e1 : (full (66 :: (lbs x.1 4 ++ lbs x.2 1))) = 66 :: ((lbs x.1 4 ++ lbs x.2 1) ++ List.replicate (60 - (66 :: (lbs x.1 4 ++ lbs x.2 1)).length) 0) := by
    rw [full_eq (by simp [lbs_length])]
    rfl
  unfold headSec secB sealB at h2
  rw [e1] at h2
  simp [zeroS] at h2
section
variable (sha : List UInt8 → List UInt8) (okP : List UInt8 → Bool)
theorem zero_at (k : Nat) (hk : k < 40) : (List.replicate 40 zeroS).getD k [] = zeroS := by
  rw [List.getD_eq_getElem?_getD, List.getElem?_replicate, if_pos hk]
  rfl
theorem heads_zero : headsF (secAt (List.replicate 40 zeroS)) = (0, 1) := by
  unfold headsF secAt
  rw [zero_at 0 (by decide), zero_at 1 (by decide), headF_zero, headF_zero]
  rfl
theorem inv_zero : Inv sha okP (List.replicate 40 zeroS) 0 := by
  refine ⟨by simp, by rw [heads_zero]; exact Nat.le_refl _, fun b v h => ?_, 0, Nat.le_refl _, fun k _ hk => zero_at _ (by omega)⟩
  unfold loadF at h
  rw [heads_zero, if_pos rfl] at h
  cases h
theorem zero_img : (loadF sha okP (secAt (List.replicate 40 zeroS))).img = none := by
  unfold loadF
  rw [heads_zero, if_pos rfl]
theorem inv_step {s : List (List UInt8)} {i : Nat} (h : Inv sha okP s i) : Inv sha okP s (i + 1) := by
  obtain ⟨c, hc, hz⟩ := h.log
  exact ⟨h.len, Nat.le_trans h.gen (by omega), fun b v e => Nat.le_trans (h.ver b v e) (by omega), c, by omega, hz⟩
theorem imgOk_parts {m : Man} {b : List UInt8} (h : imgOk sha okP m b = true) : m.okB = true ∧ (b.length : Int) = m.size ∧ sha b = m.sum ∧ okP b = true := by
  unfold imgOk at h
  simp only [Bool.and_eq_true, decide_eq_true_eq] at h
  exact ⟨h.1.1.1, h.1.1.2, h.1.2, h.2⟩
theorem load_img {S : Nat → List UInt8} {b : List UInt8} {v : Nat} (h : (loadF sha okP S).img = some (b, v)) : okP b = true ∧ 4 ≤ b.length ∧ b.length ≤ 512 := by
  unfold loadF at h
  split at h
  · cases h
  split at h
  · cases h
  split at h
  · cases h
  split at h
  · cases h
  split at h
  · rename_i m _ _ w _ hok
    injection h with h
    injection h with h1 h2
    subst h1
    obtain ⟨q1, q2, _, q4⟩ := imgOk_parts sha okP hok
    unfold Man.okB at q1
    simp only [decide_eq_true_eq] at q1
    exact ⟨q4, by omega, by omega⟩
  · cases h
theorem load_facts {s : List (List UInt8)} {i : Nat} (h : Inv sha okP s i) : (loadF sha okP (secAt s)).gen ≤ i ∧ (loadF sha okP (secAt s)).bank < 2 ∧ (logAt s).length ≤ i := ⟨by rw [(load_gen sha okP _).1]; exact h.gen, by rw [(load_gen sha okP _).2]; exact heads_bank _, Inv.ents sha okP h⟩
theorem check_len {l : List Ins} (h : check l = none) : 1 ≤ l.length ∧ l.length ≤ 128 := by
  unfold check at h
  split at h
  · cases h
  · omega
def manOf (b : List UInt8) (v : Nat) : Man := ⟨0, v, (b.length : Int), sha b⟩
theorem man_ok {l : List Ins} (h : check l = none) (v : Nat) : (manOf sha (encI l) v).okB = true := by
  obtain ⟨h1, h2⟩ := check_len h
  have h3 := Go.Proofs.YtjfpoahmjgeogaaGreatDoor.encI_len l
  unfold manOf Man.okB
  simp only [decide_eq_true_eq]
  refine ⟨?_, ?_, ?_, ?_, ?_⟩ <;> omega
end
end Nac.Img
/- NacelleImages: what lies in memory between two installs, within one. -/
namespace Go.Proofs.YtjfpoahmjgeogaaGreatDoor
open Go.RowKit Nac Nac.Img Nac.Sha Nac.Crc Nac.Pvm
def WS (O : Nat → Prop) (bl br bg : Nat) (Ae : Option Addr) (k : Nat) : Prop := O k ∨ LdO bl br bg Ae k
def LastR (w : World) (P : Nat → Prop) (A : Option Addr) (n c : Nat) : Option (List UInt8 × Nat) → Prop
  | none => A = none ∧ n = 0 ∧ c = 0
  | some (b, _) => A ≠ none ∧ n = (insOf b).length ∧ RIn w w.heap.size A (insOf b) ∧ ∀ g, A.map (·.block) = some g → g < w.heap.size ∧ ¬ P g
structure ImS (w0 w : World) (bd bp i : Nat) (s : List (List UInt8)) (d : Dk) (O : Nat → Prop) (B bl br bg bs bq : Nat) (Ae : Option Addr) (ce : Nat) (stg : Bool) (S : List Value) (Al : Option Addr) (nl cl : Nat) : Prop where
  bel : Below w0.heap.size w0 w
  dk : DkM w bd O d
  ds : d.secs = s ∧ d.off = false ∧ d.pend = [] ∧ d.surv.length ≤ 140737488351232
  oB : ∀ k, O k → w0.heap.size ≤ k
  bB : w0.heap.size ≤ B
  pt : PartM w bp bd 0 40
  pn : w0.heap.size ≤ bp ∧ ¬ WS O bl br bg Ae bp
  ld : LdM w B bl br bg bs bq Ae ce bd (loadF shaF okPF (secAt s)) stg S (logAt s).length
  no : ¬ O bl ∧ ¬ O br ∧ ¬ O bg ∧ ¬ O bs ∧ ¬ O bq ∧ ∀ g, Ae.map (·.block) = some g → ¬ O g
  inv : Inv shaF okPF s i
  la : LastR w (WS O bl br bg Ae) Al nl cl (loadF shaF okPF (secAt s)).img
section
variable {w0 w w' : World} {bd bp i B bl br bg bs bq ce nl cl : Nat} {s : List (List UInt8)} {d d' : Dk} {O O' : Nat → Prop} {Ae Al : Option Addr} {stg stg' : Bool} {S S' : List Value}
theorem rin_keep {A : Option Addr} {l : List Ins} (h : RIn w w.heap.size A l) (hk : ∀ g, A.map (·.block) = some g → w'.heap[g]? = w.heap[g]?) (hs : w.heap.size ≤ w'.heap.size) : RIn w' w'.heap.size A l := fun hne => by
  obtain ⟨b, o, hA, hb, hc⟩ := h hne
  have e := hk b (by rw [hA]; rfl)
  have hcell : ∀ x, w'.cell? ⟨b, x, none⟩ = w.cell? ⟨b, x, none⟩ := fun x => by
    unfold World.cell?
    rw [e]
  exact ⟨b, o, hA, Nat.lt_of_lt_of_le hb hs, fun j hj => by rw [hcell, hcell, hcell, hcell]; exact hc j hj⟩
theorem LastR.keep {P : Nat → Prop} {A : Option Addr} {n c : Nat} {img : Option (List UInt8 × Nat)} (h : LastR w P A n c img) (hk : ∀ g, g < w.heap.size → ¬ P g → w'.heap[g]? = w.heap[g]?) (hs : w.heap.size ≤ w'.heap.size) {P' : Nat → Prop} (hp : ∀ g, g < w.heap.size → ¬ P g → ¬ P' g) : LastR w' P' A n c img := by
  cases img with
  | none => exact h
  | some x =>
  obtain ⟨h1, h2, h3, h4⟩ := h
  exact ⟨h1, h2, rin_keep h3 (fun g hg => hk g (h4 g hg).1 (h4 g hg).2) hs, fun g hg => ⟨Nat.lt_of_lt_of_le (h4 g hg).1 hs, hp g (h4 g hg).1 (h4 g hg).2⟩⟩
theorem ImS.below (h : ImS w0 w bd bp i s d O B bl br bg bs bq Ae ce stg S Al nl cl) (hb : Below w.heap.size w w') : ImS w0 w' bd bp i s d O B bl br bg bs bq Ae ce stg S Al nl cl :=
  ⟨h.bel.trans (hb.mono h.bel.size), h.dk.below hb, h.ds, h.oB, h.bB, Blk.below h.pt hb (Blk.lt h.pt), h.pn, h.ld.below hb, h.no, h.inv, h.la.keep (fun g hg _ => hb.block g hg) hb.size (fun _ _ h => h)⟩
def RgI (w : World) (br U : Nat) : Prop := ∃ (A : Option Addr) (n c : Nat), w.cell? ⟨br, 4, none⟩ = some (.slice A n c) ∧ ∀ g, A.map (·.block) = some g → g < U
theorem RgI.below {U : Nat} (h : RgI w br U) (hb : Below w.heap.size w w') (hbr : br < w.heap.size) : RgI w' br U := by
  obtain ⟨A, n, c, h1, h2⟩ := h
  exact ⟨A, n, c, (hb.cell hbr).trans h1, h2⟩
theorem ImS.rgi (h : ImS w0 w bd bp i s d O B bl br bg bs bq Ae ce stg S Al nl cl) : RgI w br w.heap.size := by
  obtain ⟨cs, h1, h2⟩ := h.ld.rb
  obtain ⟨A, c, rfl, _, h4, _, h6⟩ := regc_open h2
  refine ⟨A, _, c, h1.cell rfl, fun g hg => ?_⟩
  cases hi : (loadF shaF okPF (secAt s)).img with
  | none => rw [(h6 hi).1] at hg; cases hg
  | some x =>
  obtain ⟨b, v⟩ := x
  rw [hi] at h4
  obtain ⟨g', o, hA, hl, _⟩ := h4 (fun e => by have h := (load_img shaF okPF hi).2.1; rw [show imgB (some (b, v)) = b from rfl] at e; rw [e] at h; exact absurd h (by decide))
  rw [hA] at hg
  injection hg with hg
  rw [← hg]
  exact hl
theorem ImS.own {b U : Nat} (h : ImS w0 w bd bp i s d O B bl br bg bs bq Ae ce stg S Al nl cl) (hg : w.grownBy w' (some b)) (h0 : w0.heap.size ≤ b) (hw : ¬ WS O bl br bg Ae b) (n1 : b ≠ bp) (n2 : b ≠ bs) (n3 : b ≠ bq) (n4 : ∀ g, Al.map (·.block) = some g → g ≠ b) (hr : RgI w br U) (hU : U ≤ b) : ImS w0 w' bd bp i s d O B bl br bg bs bq Ae ce stg S Al nl cl := by
  have hbr : b ≠ br := fun e => hw (.inr (.inr (.inl e)))
  have hrc : ∃ cs, Blk w' br cs ∧ RegC w' B br bs (loadF shaF okPF (secAt s)) stg S cs := by
    obtain ⟨cs, q1, q2⟩ := h.ld.rb
    obtain ⟨A, c, rfl, q3, q4, q5, q6⟩ := regc_open q2
    obtain ⟨A', n', c', r1, r2⟩ := hr
    have e := (q1.cell (j := 4) rfl).symm.trans r1
    injection e with e
    injection e with e1 _ _
    subst e1
    exact ⟨_, q1.grown hg (fun e => hbr (by injection e)), regc_close q3 (rb_kept q4 hg fun g hg' => by have := r2 g hg'; omega) q5 q6⟩
  have hb1 : b ≠ bl := fun e => hw (.inr (.inl e))
  have hb3 : b ≠ bg := fun e => hw (.inr (.inr (.inr (.inl e))))
  have hb4 : ∀ g, Ae.map (·.block) = some g → g ≠ b := fun g hg e => hw (.inr (.inr (.inr (.inr (by rw [← e]; exact hg)))))
  refine ⟨h.bel.grown hg h.bel.size (fun j e => by injection e with e; omega), h.dk.same (fun k hk => hg.block k (h.dk.own k hk) (fun e => by injection e with e; exact hw (.inl (e ▸ hk)))) hg.size, h.ds, h.oB, h.bB, Blk.grown h.pt hg (fun e => n1 (by injection e)), h.pn,
    ⟨h.ld.lb.grown hg (fun e => hb1 (by injection e)), hrc, h.ld.log.upd (Upd.grown (O := fun k => k = b) hg (fun j e => by injection e with e; exact e.symm)) (fun e => hb3 e.symm) (fun g hg' e => hb4 g hg' e), Blk.grown h.ld.ps hg (fun e => n2 (by injection e)), Blk.grown h.ld.pq hg (fun e => n3 (by injection e)), h.ld.old, h.ld.ne, h.ld.nae⟩, h.no, h.inv, ?_⟩
  have hla := h.la
  cases hi : (loadF shaF okPF (secAt s)).img with
  | none => rw [hi] at hla; exact hla
  | some x =>
  rw [hi] at hla
  obtain ⟨q1, q2, q3, q4⟩ := hla
  exact ⟨q1, q2, rin_keep q3 (fun g hg' => hg.block g (q4 g hg').1 (fun e => by injection e with e; exact n4 g hg' e)) hg.size, fun g hg' => ⟨Nat.lt_of_lt_of_le (q4 g hg').1 hg.size, (q4 g hg').2⟩⟩
theorem ImS.reg (h : ImS w0 w bd bp i s d O B bl br bg bs bq Ae ce stg S Al nl cl) (hg : w.grownBy w' (some br)) (hl : LdM w' B bl br bg bs bq Ae ce bd (loadF shaF okPF (secAt s)) stg' S' (logAt s).length) : ImS w0 w' bd bp i s d O B bl br bg bs bq Ae ce stg' S' Al nl cl :=
  ⟨h.bel.grown hg h.bel.size (fun j e => by injection e with e; have := h.ld.old.2.1; have := h.bB; omega), h.dk.same (fun k hk => hg.block k (h.dk.own k hk) (fun e => by injection e with e; exact h.no.2.1 (e ▸ hk))) hg.size, h.ds, h.oB, h.bB, Blk.grown h.pt hg (fun e => by injection e with e; exact h.pn.2 (.inr (.inr (.inl e.symm)))), h.pn, hl, h.no, h.inv,
   h.la.keep (fun g hg' hn => hg.block g hg' (fun e => by injection e with e; exact hn (.inr (.inr (.inl e))))) hg.size (fun _ _ h => h)⟩
theorem ImS.arm (hOL : ∀ k, O k → k < B) (h : ImS w0 w bd bp i s d O B bl br bg bs bq Ae ce stg S Al nl cl) (hu : Upd O w w' O') (hd : DkM w' bd O' d') (hs : d'.secs = s ∧ d'.off = false ∧ d'.pend = [] ∧ d'.surv.length ≤ 140737488351232) : ImS w0 w' bd bp i s d' O' B bl br bg bs bq Ae ce stg S Al nl cl := by
  have hlt := h.ld.lt
  have hgl := h.ld.log.blk.lt
  have hla := h.ld.log.lt
  have hw : ∀ g, g < w.heap.size → ¬ WS O bl br bg Ae g → ¬ WS O' bl br bg Ae g := fun g hg hn e => by
    rcases e with e | e
    · exact hu.out hg (fun e => hn (.inl e)) e
    · exact hn (.inr e)
  obtain ⟨cs, q1, q2⟩ := h.ld.rb
  refine ⟨hu.under h.bel h.oB h.bel.size, hd, hs, fun k hk => ?_, h.bB, hu.blk h.pt (fun e => h.pn.2 (.inl e)), ⟨h.pn.1, hw bp (Blk.lt h.pt) h.pn.2⟩,
    ⟨hu.blk h.ld.lb h.no.1, ⟨cs, hu.blk q1 h.no.2.1, ?_⟩, h.ld.log.upd hu h.no.2.2.1 h.no.2.2.2.2.2, hu.blk h.ld.ps h.no.2.2.2.1, hu.blk h.ld.pq h.no.2.2.2.2.1, h.ld.old, h.ld.ne, h.ld.nae⟩,
    ⟨hu.out hlt.1 h.no.1, hu.out hlt.2.1 h.no.2.1, hu.out hgl h.no.2.2.1, hu.out hlt.2.2.1 h.no.2.2.2.1, hu.out hlt.2.2.2 h.no.2.2.2.2.1, fun g hg => hu.out (hla g hg) (h.no.2.2.2.2.2 g hg)⟩, h.inv, h.la.keep (fun g hg hn => hu.keep g hg (fun e => hn (.inl e))) hu.size hw⟩
  · rcases hu.new k hk with e | e
    · exact h.oB k e
    · exact Nat.le_trans h.bel.size e
  · obtain ⟨A, c, rfl, q3, q4, q5, q6⟩ := regc_open q2
    refine regc_close q3 (fun hne => ?_) q5 q6
    obtain ⟨g, o, hA, hl, hc⟩ := q4 hne
    have hgB := (q5 g (by rw [hA]; rfl)).1
    refine ⟨g, o, hA, Nat.lt_of_lt_of_le hl hu.size, fun j hj => ?_⟩
    rw [← hc j hj]
    exact hu.cell hl (fun e => by have h := hOL g e; exact absurd h (Nat.not_lt.2 hgB))
end
structure RdI (w0 w : World) (bd bp i : Nat) (s : List (List UInt8)) (d : Dk) (O : Nat → Prop) (B bl br bg bs bq : Nat) (Ae : Option Addr) (ce : Nat) (stg : Bool) (S : List Value) (Al : Option Addr) (nl cl : Nat) (bx bm : Nat) (xs ms : List Value) (Ai : Option Addr) (im : List UInt8) : Prop where
  core : ImS w0 w bd bp i s d O B bl br bg bs bq Ae ce stg S Al nl cl
  xb : Blk w bx xs
  mb : Blk w bm ms
  ib : RB w w.heap.size Ai im
  xn : ¬ WS O bl br bg Ae bx
  mn : ¬ WS O bl br bg Ae bm
  ibn : ∀ g, Ai.map (·.block) = some g → g < w.heap.size ∧ ¬ WS O bl br bg Ae g
theorem rb_keep {w w' : World} {A : Option Addr} {l : List UInt8} (h : RB w w.heap.size A l) (hk : ∀ g, A.map (·.block) = some g → w'.heap[g]? = w.heap[g]?) (hs : w.heap.size ≤ w'.heap.size) : RB w' w'.heap.size A l := fun hne => by
  obtain ⟨g, o, hA, hl, hc⟩ := h hne
  refine ⟨g, o, hA, Nat.lt_of_lt_of_le hl hs, fun j hj => ?_⟩
  rw [← hc j hj]
  unfold World.cell?
  rw [hk g (by rw [hA]; rfl)]
structure AfI (w0 w : World) (bd bp : Nat) (d : Dk) (O : Nat → Prop) (Al : Option Addr) (nl cl : Nat) (img : Option (List UInt8 × Nat)) (bx bm : Nat) (xs ms : List Value) (Ai : Option Addr) (im : List UInt8) : Prop where
  bel : Below w0.heap.size w0 w
  dk : DkM w bd O d
  oB : ∀ k, O k → w0.heap.size ≤ k
  pt : PartM w bp bd 0 40
  pn : w0.heap.size ≤ bp ∧ ¬ O bp
  la : LastR w O Al nl cl img
  xb : Blk w bx xs
  mb : Blk w bm ms
  ib : RB w w.heap.size Ai im
  xn : ¬ O bx
  mn : ¬ O bm
  ibn : ∀ g, Ai.map (·.block) = some g → g < w.heap.size ∧ ¬ O g
section
variable {w0 w w' : World} {bd bp i B bl br bg bs bq ce nl cl bx bm : Nat} {s : List (List UInt8)} {d d' : Dk} {O O' : Nat → Prop} {Ae Al Ai : Option Addr} {stg stg' : Bool} {S S' xs ms : List Value} {im : List UInt8} {img : Option (List UInt8 × Nat)}
theorem RdI.below (h : RdI w0 w bd bp i s d O B bl br bg bs bq Ae ce stg S Al nl cl bx bm xs ms Ai im) (hb : Below w.heap.size w w') : RdI w0 w' bd bp i s d O B bl br bg bs bq Ae ce stg S Al nl cl bx bm xs ms Ai im :=
  ⟨h.core.below hb, h.xb.below hb h.xb.lt, h.mb.below hb h.mb.lt, (h.ib.below hb).mono hb.size, h.xn, h.mn, fun g hg => ⟨Nat.lt_of_lt_of_le (h.ibn g hg).1 hb.size, (h.ibn g hg).2⟩⟩
theorem RdI.reg (h : RdI w0 w bd bp i s d O B bl br bg bs bq Ae ce stg S Al nl cl bx bm xs ms Ai im) (hg : w.grownBy w' (some br)) (hl : LdM w' B bl br bg bs bq Ae ce bd (loadF shaF okPF (secAt s)) stg' S' (logAt s).length) : RdI w0 w' bd bp i s d O B bl br bg bs bq Ae ce stg' S' Al nl cl bx bm xs ms Ai im := by
  have hw : ∀ b, ¬ WS O bl br bg Ae b → b ≠ br := fun b hb e => hb (.inr (.inr (.inl e)))
  exact ⟨h.core.reg hg hl, h.xb.grown hg (fun e => hw bx h.xn (by injection e with e; exact e.symm)), h.mb.grown hg (fun e => hw bm h.mn (by injection e with e; exact e.symm)), rb_kept h.ib hg (fun g hg' => hw g (h.ibn g hg').2), h.xn, h.mn, fun g hg' => ⟨Nat.lt_of_lt_of_le (h.ibn g hg').1 hg.size, (h.ibn g hg').2⟩⟩
theorem RdI.arm (hOL : ∀ k, O k → k < B) (h : RdI w0 w bd bp i s d O B bl br bg bs bq Ae ce stg S Al nl cl bx bm xs ms Ai im) (hu : Upd O w w' O') (hd : DkM w' bd O' d') (hs : d'.secs = s ∧ d'.off = false ∧ d'.pend = [] ∧ d'.surv.length ≤ 140737488351232) : RdI w0 w' bd bp i s d' O' B bl br bg bs bq Ae ce stg S Al nl cl bx bm xs ms Ai im := by
  have hw : ∀ g, g < w.heap.size → ¬ WS O bl br bg Ae g → ¬ WS O' bl br bg Ae g := fun g hg hn e => by
    rcases e with e | e
    · exact hu.out hg (fun e => hn (.inl e)) e
    · exact hn (.inr e)
  exact ⟨h.core.arm hOL hu hd hs, hu.blk h.xb (fun e => h.xn (.inl e)), hu.blk h.mb (fun e => h.mn (.inl e)), rb_keep h.ib (fun g hg => hu.keep g (h.ibn g hg).1 (fun e => (h.ibn g hg).2 (.inl e))) hu.size, hw bx h.xb.lt h.xn, hw bm h.mb.lt h.mn, fun g hg => ⟨Nat.lt_of_lt_of_le (h.ibn g hg).1 hu.size, hw g (h.ibn g hg).1 (h.ibn g hg).2⟩⟩
theorem RdI.flip {gi U : Nat} {im2 : List UInt8} (h : RdI w0 w bd bp i s d O B bl br bg bs bq Ae ce stg S Al nl cl bx bm xs ms (some ⟨gi, 0, none⟩) im) (hg : w.grownBy w' (some gi)) (h0 : w0.heap.size ≤ gi) (hr : RgI w br U) (hU : U ≤ gi) (n1 : bp < U) (n2 : bs < U) (n3 : bq < U) (n4 : ∀ g, Al.map (·.block) = some g → g < U) (n5 : gi ≠ bx) (n6 : gi ≠ bm) (hb : RB w' w'.heap.size (some ⟨gi, 0, none⟩) im2) : RdI w0 w' bd bp i s d O B bl br bg bs bq Ae ce stg S Al nl cl bx bm xs ms (some ⟨gi, 0, none⟩) im2 :=
  ⟨h.core.own hg h0 (h.ibn gi rfl).2 (by omega) (by omega) (by omega) (fun g hg' => by have := n4 g hg'; omega) hr hU, h.xb.grown hg (fun e => n5 (by injection e)), h.mb.grown hg (fun e => n6 (by injection e)), hb, h.xn, h.mn, fun g hg' => ⟨Nat.lt_of_lt_of_le (h.ibn g hg').1 hg.size, (h.ibn g hg').2⟩⟩
theorem LastR.lt {P : Nat → Prop} {A : Option Addr} {n c : Nat} {img : Option (List UInt8 × Nat)} (h : LastR w P A n c img) : ∀ g, A.map (·.block) = some g → g < w.heap.size := fun g hg => by
  cases img with
  | none => rw [h.1] at hg; cases hg
  | some x => exact (h.2.2.2 g hg).1
theorem RdI.inst (h : RdI w0 w bd bp i s d O B bl br bg bs bq Ae ce stg S Al nl cl bx bm xs ms Ai im) (hu : Upd (fun k => O k ∨ LdO bl br bg Ae k) w w' O') (hd : DkM w' bd O' d') : AfI w0 w' bd bp d' O' Al nl cl (loadF shaF okPF (secAt s)).img bx bm xs ms Ai im := by
  have hoW : ∀ k, O k ∨ LdO bl br bg Ae k → w0.heap.size ≤ k := fun k hk => by
    have ho := h.core.ld.old
    have hB := h.core.bB
    rcases hk with hk | rfl | rfl | rfl | hk
    · exact h.core.oB k hk
    · omega
    · omega
    · omega
    · have := ho.2.2.2.2.2 k hk; omega
  refine ⟨hu.under h.core.bel hoW h.core.bel.size, hd, fun k hk => ?_, hu.blk h.core.pt h.core.pn.2, ⟨h.core.pn.1, hu.out (Blk.lt h.core.pt) h.core.pn.2⟩, h.core.la.keep (fun g hg hn => hu.keep g hg hn) hu.size (fun g hg hn => hu.out hg hn), hu.blk h.xb h.xn, hu.blk h.mb h.mn, rb_keep h.ib (fun g hg => hu.keep g (h.ibn g hg).1 (h.ibn g hg).2) hu.size, hu.out h.xb.lt h.xn, hu.out h.mb.lt h.mn, fun g hg => ⟨Nat.lt_of_lt_of_le (h.ibn g hg).1 hu.size, hu.out (h.ibn g hg).1 (h.ibn g hg).2⟩⟩
  rcases hu.new k hk with e | e
  · exact hoW k e
  · exact Nat.le_trans h.core.bel.size e
theorem AfI.upd (h : AfI w0 w bd bp d O Al nl cl img bx bm xs ms Ai im) (hu : Upd O w w' O') (hd : DkM w' bd O' d') : AfI w0 w' bd bp d' O' Al nl cl img bx bm xs ms Ai im := by
  refine ⟨hu.under h.bel h.oB h.bel.size, hd, fun k hk => ?_, hu.blk h.pt h.pn.2, ⟨h.pn.1, hu.out (Blk.lt h.pt) h.pn.2⟩, h.la.keep (fun g hg hn => hu.keep g hg hn) hu.size (fun g hg hn => hu.out hg hn), hu.blk h.xb h.xn, hu.blk h.mb h.mn, rb_keep h.ib (fun g hg => hu.keep g (h.ibn g hg).1 (h.ibn g hg).2) hu.size, hu.out h.xb.lt h.xn, hu.out h.mb.lt h.mn, fun g hg => ⟨Nat.lt_of_lt_of_le (h.ibn g hg).1 hu.size, hu.out (h.ibn g hg).1 (h.ibn g hg).2⟩⟩
  rcases hu.new k hk with e | e
  · exact h.oB k e
  · exact Nat.le_trans h.bel.size e
theorem AfI.below (h : AfI w0 w bd bp d O Al nl cl img bx bm xs ms Ai im) (hb : Below w.heap.size w w') : AfI w0 w' bd bp d O Al nl cl img bx bm xs ms Ai im := h.upd (Upd.below hb) (h.dk.below hb)
end
structure LdN (w : World) (bd : Nat) (O : Nat → Prop) (s : List (List UInt8)) (bp B bl br bg bs bq : Nat) (Ae : Option Addr) (ce : Nat) : Prop where
  ld : LdM w B bl br bg bs bq Ae ce bd (loadF shaF okPF (secAt s)) false zStg (logAt s).length
  oL : ∀ k, O k → k < B
  bpB : bp < B
theorem LdN.below {w w' : World} {bd bp B bl br bg bs bq ce : Nat} {Ae : Option Addr} {O : Nat → Prop} {s : List (List UInt8)} (h : LdN w bd O s bp B bl br bg bs bq Ae ce) (hb : Below w.heap.size w w') : LdN w' bd O s bp B bl br bg bs bq Ae ce := ⟨h.ld.below hb, h.oL, h.bpB⟩
theorem LdN.no {w : World} {bd bp B bl br bg bs bq ce : Nat} {Ae : Option Addr} {O : Nat → Prop} {s : List (List UInt8)} (h : LdN w bd O s bp B bl br bg bs bq Ae ce) : ¬ O bl ∧ ¬ O br ∧ ¬ O bg ∧ ¬ O bs ∧ ¬ O bq ∧ ∀ g, Ae.map (·.block) = some g → ¬ O g := by
  have ho := h.ld.old
  have hn : ∀ k, B ≤ k → ¬ O k := fun k hk e => by have := h.oL k e; omega
  exact ⟨hn _ ho.1, hn _ ho.2.1, hn _ ho.2.2.1, hn _ ho.2.2.2.1, hn _ ho.2.2.2.2.1, fun g hg => hn g (ho.2.2.2.2.2 g hg)⟩
theorem ImS.mk' {w0 w : World} {bd bp i B bl br bg bs bq ce nl cl : Nat} {Ae Al : Option Addr} {O : Nat → Prop} {s : List (List UInt8)} (bel : Below w0.heap.size w0 w) (dk : DkM w bd O (Dk.idle s)) (oB : ∀ k, O k → w0.heap.size ≤ k) (bB : w0.heap.size ≤ B) (pt : PartM w bp bd 0 40) (pn : w0.heap.size ≤ bp ∧ ¬ O bp) (hl : LdN w bd O s bp B bl br bg bs bq Ae ce) (inv : Inv shaF okPF s i) (la : LastR w (WS O bl br bg Ae) Al nl cl (loadF shaF okPF (secAt s)).img) : ImS w0 w bd bp i s (Dk.idle s) O B bl br bg bs bq Ae ce false zStg Al nl cl :=
  ⟨bel, dk, ⟨rfl, rfl, rfl, Nat.zero_le _⟩, oB, bB, pt, ⟨pn.1, fun e => by
    have ho := hl.ld.old
    have hb := hl.bpB
    rcases e with e | rfl | rfl | rfl | e
    · exact pn.2 e
    · omega
    · omega
    · omega
    · have := ho.2.2.2.2.2 bp e; omega⟩, hl.ld, hl.no, inv, la⟩
end Go.Proofs.YtjfpoahmjgeogaaGreatDoor
/- Decode: what it returns is new. (printed by tools/pdec.py out of XTopDec) -/
namespace Go.Proofs.YtjfpoahmjgeogaaGreatDoor
open Go.RowKit Nac Nac.Pvm
def FrB (w : World) (v : Value) : Prop := ∀ A n c, v = .slice A n c → ∀ g, A.map (·.block) = some g → w.heap.size ≤ g
theorem FrB.none (w : World) : FrB w (.slice Option.none 0 0) := fun A n c e g hg => by injection e with e1; rw [← e1] at hg; cases hg
def RetDecF (w : World) (l : List UInt8) (e : Ending) (w' : World) : Prop := (∃ v v2, e = .returned (.tuple #[v, v2]) ∧ DecV l v v2 w' ∧ FrB w v) ∧ Below w.heap.size w w'
set_option maxRecDepth 100000 in
set_option maxHeartbeats 2000000 in
theorem Decode_callsF (w : World) (Ab : Option Addr) (c : Nat) (l : List UInt8) (h : RB w w.heap.size Ab l) (hlc : l.length ≤ c) (h8 : l.length ≤ 1000000) (hg : Hdl w) : Calls Tryz.prog 17 #[.slice Ab l.length c] w (RetDecF w l) := by
  have HRB := Lib.hid h
  have HG := Lib.hid hg
  obtain ⟨n, hn⟩ : ∃ n, n = l.length := ⟨_, rfl⟩
  have HN := Lib.hid hn
  have HLC := Lib.hid hlc
  rw [← hn] at h8 ⊢
  clear h hn hg hlc
  obtain ⟨n4, hn4⟩ : ∃ n4, n4 = n / 4 := ⟨_, rfl⟩
  by_cases hm : n % 4 = 0
  · have HM4 : Hid (n = 4 * n4) := Lib.hid (by omega)
    have hn46 : n4 ≤ 1000000 := by omega
    have HN4 : Hid ((insOf l).length = n4) := Lib.hid (by rw [insOf_len, ← HN.out, hn4])
    have eq1 : ((n : Int) % 4 != 0) = false := by simp; omega
    have eq2 : (n : Int) / 4 = (n4 : Int) := by omega
    clear hn4 hm
    go_enter Tryz.func17, Tryz.ntmps17
    go_wp2_with ((with_reducible show wpList _ _ _ (Oper.mk _ (Op.makeSlice _ _ _) _ _ _ _ :: _) _ _); refine wpList_make_ins rfl _ _ rfl n4 hn46 (by rfl) (by rfl) ?_)
    obtain ⟨B4, hB4⟩ : ∃ B4, B4 = w.heap.size := ⟨_, rfl⟩
    rw [← hB4]
    intro w1 hb1 hg1
    have HE4 := Lib.hid hB4
    have HBEL1 : Hid (Below w.heap.size w w1) := Lib.hid (by first | exact gbelow hg1 | exact below_of_grown hg1)
    have HB1 := Lib.hid hb1
    clear hb1 hg1 hB4
    go_wp2_with fail
    go_loopw [22] (fun s22 wr => DcRel w l n4 B4 s22 wr) (fun s22 _ => n4 - (intOf s22).toNat)
    case atStart => exact ⟨0, List.replicate n4 zI, Nat.zero_le _, rfl, HB1.out, by simp, by simp, HBEL1.out⟩
    case round =>
      obtain ⟨i, M, hi, rfl, hblk, hml, hmt, hbel⟩ := hrel
      have HI := Lib.hid hi
      have HBLK := Lib.hid hblk
      have HML := Lib.hid hml
      have HMT := Lib.hid hmt
      have HBEL := Lib.hid hbel
      clear hi hblk hml hmt hbel HB1 HBEL1
      by_cases hlt : i < n4
      · have hlt2 : (i : Int) < n4 := by omega
        obtain ⟨kk, hkk⟩ : ∃ kk, kk = 4 * i := ⟨_, rfl⟩
        have HKK := Lib.hid hkk
        have hkn : Hid (kk + 4 ≤ n) := Lib.hid (by have := HM4.out; omega)
        have eqk : (4 : Int) * (i : Int) = (kk : Int) := by omega
        have HLT := Lib.hid hlt
        clear hkk hlt
        have RBW : Hid (RB wr w.heap.size Ab l) := Lib.hid (HRB.out.below HBEL.out)
        go_wp2_with ((with_reducible show wpList _ _ _ (Oper.mk _ (Op.slice _ _ _ _ _) _ _ _ _ :: _) _ _); (refine wpList_cut _ (Or.inl rfl) _ _ _ rfl w.heap.size Ab n c l HN.out rfl RBW.out HLC.out kk n (Or.inr rfl) (Or.inl ⟨rfl, rfl⟩) (by have := hkn.out; omega) (Nat.le_refl _) ?_))
        intro A6 m6 L6 hL6 hm6 hm6' hr6
        rw [← hm6']
        clear hm6'
        have hl6 : L6.length = m6 := by rw [hL6.out, hm6.out]; simp; have := HN.out; omega
        have HL6 := Lib.hid hl6
        have hm4 : 4 ≤ m6 := by rw [hm6.out]; have := hkn.out; omega
        obtain ⟨b, o, hA, hb, hc0⟩ := hr6.get (k := 0) (by omega)
        subst hA
        have hcell : ∀ j (hj : j < L6.length), wr.cell? ⟨b, o + j, none⟩ = some (.int .u8 ((L6[j]).toNat : Int)) := fun j hj => by
          obtain ⟨b', o', hA', _, hc'⟩ := hr6.get hj
          injection hA' with hA'
          injection hA' with e1 e2
          rw [e1, e2]; exact hc'
        obtain ⟨x0, hx0⟩ : ∃ x0, x0 = (L6[0]'(by omega)).toNat := ⟨_, rfl⟩
        obtain ⟨x1, hx1⟩ : ∃ x1, x1 = (L6[1]'(by omega)).toNat := ⟨_, rfl⟩
        obtain ⟨x2, hx2⟩ : ∃ x2, x2 = (L6[2]'(by omega)).toNat := ⟨_, rfl⟩
        obtain ⟨x3, hx3⟩ : ∃ x3, x3 = (L6[3]'(by omega)).toNat := ⟨_, rfl⟩
        have h6g : ∀ j, j < 4 → l.getD (kk + j) 0 = L6.getD j 0 := fun j hj => by
          rw [hL6.out]
          have h1 : kk + j < l.length := by have := hkn.out; have := HN.out; omega
          simp [List.getD, List.getElem?_drop, List.getElem?_take, h1]
          rw [if_pos (by have := hkn.out; omega)]; rfl
        have HX : Hid (insAt l i = ⟨x0, x1, x2, x3⟩) := Lib.hid (by
          unfold insAt
          have h60 := h6g 0 (by omega)
          rw [Nat.add_zero] at h60
          rw [← HKK.out, h60, h6g 1 (by omega), h6g 2 (by omega), h6g 3 (by omega), hx0, hx1, hx2, hx3]
          simp [List.getD, (show 0 < L6.length by omega), (show 1 < L6.length by omega), (show 2 < L6.length by omega), (show 3 < L6.length by omega)])
        have MC : Hid (∀ (w' : World), w' = wr.drew → w'.cell? ⟨b, o, none⟩ = some (.int .u8 (x0 : Int)) ∧ w'.cell? ⟨b, o + 1, none⟩ = some (.int .u8 (x1 : Int)) ∧ w'.cell? ⟨b, o + 2, none⟩ = some (.int .u8 (x2 : Int)) ∧ w'.cell? ⟨b, o + 3, none⟩ = some (.int .u8 (x3 : Int))) := Lib.hid fun w' hj => by
          subst hj
          rw [hx0, hx1, hx2, hx3]
          exact ⟨hcell 0 _, hcell 1 _, hcell 2 _, hcell 3 _⟩
        have H4 := Lib.hid hm4
        obtain ⟨c6, hc6⟩ : ∃ c6, c6 = c - kk := ⟨_, rfl⟩
        rw [← hc6]
        clear hc6 hcell hx0 hx1 hx2 hx3 h6g hl6 hm6 hL6 hr6 hb hc0 hm4 HL6
        go_wp2_with fail
        refine region_tail 16 [.slice (some ⟨B4, 0, none⟩) n4 n4, .int .i64 (i : Int), .slice (some ⟨b, o, none⟩) m6 c6, .pointer (some ⟨b, o, none⟩), .int .u8 (x0 : Int), .slice (some ⟨b, o, none⟩) m6 c6, .pointer (some ⟨b, o + 1, none⟩), .int .u8 (x1 : Int), .slice (some ⟨b, o, none⟩) m6 c6, .pointer (some ⟨b, o + 2, none⟩), .int .u8 (x2 : Int), .slice (some ⟨b, o, none⟩) m6 c6, .pointer (some ⟨b, o + 3, none⟩), .int .u8 (x3 : Int), .agg #[.int .u8 (x0 : Int), .int .u8 (x1 : Int), .int .u8 (x2 : Int), .int .u8 (x3 : Int)], .pointer (some ⟨B4, i * 4, none⟩)] [some 29, some 30, some 31, some 32, some 33, some 34, some 35, some 36, some 37, some 38, some 39, some 40, some 41, some 42, some 43, some 44] (fun _ w' => w' = wr.drew) (by kernel_rfl) (by kernel_rfl) (by kernel_rfl) (by kernel_rfl) rfl rfl rfl (fun ii hii => ?_) ?_
        · match ii, hii with
          | 0, _ => exact vstep_first rfl (vwant_none rfl) (fun _ _ h => h) 4 (Or.inl rfl) (by kernel_rfl) rfl
          | 1, _ => exact vstep_first rfl (vwant_none rfl) (fun _ _ h => h) 5 (Or.inl rfl) (by kernel_rfl) rfl
          | 2, _ => exact vstep_first rfl (vwant_none rfl) (fun _ _ h => h) 6 (Or.inl rfl) (by kernel_rfl) rfl
          | 3, _ => exact vstep_pure rfl (vwant_none rfl) (fun _ _ h => h) (fun LL aa ww cc => ⟨.pointer (some ⟨b, o, none⟩), by have e0 : aa.tmps.getD 31 undef = .slice (some ⟨b, o, none⟩) m6 c6 := cc.slot 2 31 (by kernel_rfl) rfl; have q1 : ¬ m6 = 0 := (by have := H4.out; omega); simp only [execOp, Act.eval]; go_simp, rfl⟩)
          | 4, _ => exact vstep_pure rfl (vwant_none rfl) (fun _ _ h => h) (fun LL aa ww cc => ⟨.int .u8 (x0 : Int), by have e0 : aa.tmps.getD 32 undef = .pointer (some ⟨b, o, none⟩) := cc.slot 3 32 (by kernel_rfl) rfl; obtain ⟨m0, m1, m2, m3⟩ := MC.out _ cc.world; simp only [execOp, Act.eval]; go_simp, rfl⟩)
          | 5, _ => exact vstep_first rfl (vwant_none rfl) (fun _ _ h => h) 6 (Or.inl rfl) (by kernel_rfl) rfl
          | 6, _ => exact vstep_pure rfl (vwant_none rfl) (fun _ _ h => h) (fun LL aa ww cc => ⟨.pointer (some ⟨b, o + 1, none⟩), by have e0 : aa.tmps.getD 34 undef = .slice (some ⟨b, o, none⟩) m6 c6 := cc.slot 5 34 (by kernel_rfl) rfl; have q1 : (1 : Int) < m6 := (by have := H4.out; omega); simp only [execOp, Act.eval]; go_simp, rfl⟩)
          | 7, _ => exact vstep_pure rfl (vwant_none rfl) (fun _ _ h => h) (fun LL aa ww cc => ⟨.int .u8 (x1 : Int), by have e0 : aa.tmps.getD 35 undef = .pointer (some ⟨b, o + 1, none⟩) := cc.slot 6 35 (by kernel_rfl) rfl; obtain ⟨m0, m1, m2, m3⟩ := MC.out _ cc.world; simp only [execOp, Act.eval]; go_simp, rfl⟩)
          | 8, _ => exact vstep_first rfl (vwant_none rfl) (fun _ _ h => h) 6 (Or.inl rfl) (by kernel_rfl) rfl
          | 9, _ => exact vstep_pure rfl (vwant_none rfl) (fun _ _ h => h) (fun LL aa ww cc => ⟨.pointer (some ⟨b, o + 2, none⟩), by have e0 : aa.tmps.getD 37 undef = .slice (some ⟨b, o, none⟩) m6 c6 := cc.slot 8 37 (by kernel_rfl) rfl; have q1 : (2 : Int) < m6 := (by have := H4.out; omega); simp only [execOp, Act.eval]; go_simp, rfl⟩)
          | 10, _ => exact vstep_pure rfl (vwant_none rfl) (fun _ _ h => h) (fun LL aa ww cc => ⟨.int .u8 (x2 : Int), by have e0 : aa.tmps.getD 38 undef = .pointer (some ⟨b, o + 2, none⟩) := cc.slot 9 38 (by kernel_rfl) rfl; obtain ⟨m0, m1, m2, m3⟩ := MC.out _ cc.world; simp only [execOp, Act.eval]; go_simp, rfl⟩)
          | 11, _ => exact vstep_first rfl (vwant_none rfl) (fun _ _ h => h) 6 (Or.inl rfl) (by kernel_rfl) rfl
          | 12, _ => exact vstep_pure rfl (vwant_none rfl) (fun _ _ h => h) (fun LL aa ww cc => ⟨.pointer (some ⟨b, o + 3, none⟩), by have e0 : aa.tmps.getD 40 undef = .slice (some ⟨b, o, none⟩) m6 c6 := cc.slot 11 40 (by kernel_rfl) rfl; have q1 : (3 : Int) < m6 := (by have := H4.out; omega); simp only [execOp, Act.eval]; go_simp, rfl⟩)
          | 13, _ => exact vstep_pure rfl (vwant_none rfl) (fun _ _ h => h) (fun LL aa ww cc => ⟨.int .u8 (x3 : Int), by have e0 : aa.tmps.getD 41 undef = .pointer (some ⟨b, o + 3, none⟩) := cc.slot 12 41 (by kernel_rfl) rfl; obtain ⟨m0, m1, m2, m3⟩ := MC.out _ cc.world; simp only [execOp, Act.eval]; go_simp, rfl⟩)
          | 14, _ => exact vstep_build rfl (vwant_none rfl) (fun _ _ h => h) _ _ rfl #[(0, .int .u8 (x0 : Int)), (1, .int .u8 (x1 : Int)), (2, .int .u8 (x2 : Int)), (3, .int .u8 (x3 : Int))] #[.int .u8 (x0 : Int), .int .u8 (x1 : Int), .int .u8 (x2 : Int), .int .u8 (x3 : Int)] (fun LL aa ww cc => by have e0 : aa.eval (.tmp 33) = .int .u8 (x0 : Int) := cc.slot 4 33 (by kernel_rfl) rfl; have e1 : aa.eval (.tmp 36) = .int .u8 (x1 : Int) := cc.slot 7 36 (by kernel_rfl) rfl; have e2 : aa.eval (.tmp 39) = .int .u8 (x2 : Int) := cc.slot 10 39 (by kernel_rfl) rfl; have e3 : aa.eval (.tmp 42) = .int .u8 (x3 : Int) := cc.slot 13 42 (by kernel_rfl) rfl; simp only [List.map_toArray, List.map_cons, List.map_nil, e0, e1, e2, e3]) (by kernel_rfl) rfl
          | 15, _ => exact vstep_pure rfl (vwant_none rfl) (fun _ _ h => h) (fun LL aa ww cc => ⟨.pointer (some ⟨B4, i * 4, none⟩), by have e0 : aa.tmps.getD 29 undef = .slice (some ⟨B4, 0, none⟩) n4 n4 := cc.slot 0 29 (by kernel_rfl) rfl; have e1 : aa.tmps.getD 30 undef = .int .i64 (i : Int) := cc.slot 1 30 (by kernel_rfl) rfl; have q1 : (i : Int) < n4 := (by have := HLT.out; omega); simp only [execOp, Act.eval]; go_simp, rfl⟩)
          | n + 16, h => exact absurd h (by show ¬ (n + 16 < 16); omega)
        · intro L5 w5 hall hJ
          obtain rfl := hJ
          clear MC hall
          simp only [List.zip_cons_cons, List.zip_nil_right, putsL]
          go_simp
          have HBD : Hid (Blk wr.drew B4 (insC M)) := Lib.hid HBLK.out.drew
          have hiM : i < M.length := by rw [HML.out]; exact HLT.out
          go_wp2_with ((with_reducible show wpList _ _ _ (Oper.mk _ (Op.store _ _ _) _ _ _ _ :: _) _ _); refine wpList_storeIns rfl _ _ rfl B4 i M ⟨x0, x1, x2, x3⟩ hiM rfl rfl HBD.out ?_)
          intro w6 hb6 hg6
          have HF : Hid (DcRel w l n4 B4 (.int .i64 ((i + 1 : Nat) : Int)) w6) := Lib.hid (by
            have hil : i < (insOf l).length := by rw [HN4.out]; exact HLT.out
            have hins : (insOf l)[i] = ⟨x0, x1, x2, x3⟩ := by rw [← HX.out]; simp [insOf]
            refine ⟨i + 1, M.set i ⟨x0, x1, x2, x3⟩, HLT.out, rfl, hb6, by rw [List.length_set]; exact HML.out, ?_, ?_⟩
            · rw [← hins]; exact take_set_succ HMT.out hiM hil
            · refine HBEL.out.drew.grown hg6 (HBEL.out.drew.size) (fun j e => ?_)
              injection e with e
              rw [← e, HE4.out]; exact Nat.le_refl _)
          clear hb6 hg6 HBD hiM HBLK HBEL HMT HML HX
          go_wp2
          go_roundw
          case rel => first | exact HF.out | (have e5 : ((i : Int) + 1) = ((i + 1 : Nat) : Int) := by omega
                                              rw [e5]; exact HF.out)
          case measure => simp [intOf]; omega
      · have hlt2 : ¬ (i : Int) < n4 := by omega
        have hMe : M = insOf l := by
          have h := HMT.out
          have hi := HI.out
          have hin : i = n4 := by omega
          rwa [hin, List.take_of_length_le (by rw [HML.out]; exact Nat.le_refl _), List.take_of_length_le (by rw [HN4.out]; exact Nat.le_refl _)] at h
        subst hMe
        have HR4 : Hid (RIn wr wr.heap.size (some ⟨B4, 0, none⟩) (insOf l)) := Lib.hid (rin_blk HBLK.out (insOf_fits l))
        have HCK : Hid (Calls Tryz.prog 7 #[.slice (some ⟨B4, 0, none⟩) n4 n4] wr (RetErr wr (check (insOf l)))) := Lib.hid (by
          have := check_calls wr (some ⟨B4, 0, none⟩) n4 (insOf l) HR4.out (by rw [HN4.out]; omega)
          rwa [HN4.out] at this)
        have HGW : Hid (Hdl wr) := Lib.hid (HG.out.below HBEL.out HG.out.lt)
        clear HBLK HML HMT HI hlt2
        go_wp2_with fail
        refine HCK.out.mono ?_
        rintro e w2 ⟨⟨v, rfl, hv⟩, hb2⟩
        have HB2 : Hid (Below w.heap.size w w2) := Lib.hid (HBEL.out.trans (hb2.mono HBEL.out.size))
        have HR5 : Hid (RIn w2 w2.heap.size (some ⟨B4, 0, none⟩) (insOf l)) := Lib.hid ((HR4.out.below hb2).mono hb2.size)
        have HGW2 : Hid (Hdl w2) := Lib.hid (HGW.out.below hb2 HGW.out.lt)
        clear hb2 HCK HR4 HGW HBEL
        obtain ⟨R, hR⟩ : ∃ R, R = check (insOf l) := ⟨_, rfl⟩
        rw [← hR] at hv
        cases R with
        | none =>
          obtain rfl := (show v = .nilIface from hv)
          have HC := Lib.hid hR
          clear hR hv
          go_wp2
          go_ret2
          exact ⟨⟨.slice (some ⟨B4, 0, none⟩) n4 n4, .nilIface, rfl, .inr (.inl ⟨by have := HM4.out; rw [← HN.out]; omega, HC.out.symm, rfl, some ⟨B4, 0, none⟩, n4, by rw [HN4.out], HR5.out⟩), fun A n c e g hg => by injection e with e1 e2 e3; rw [← e1] at hg; injection hg with hg; have hg : B4 = g := hg; rw [← hg, HE4.out]; exact Nat.le_refl _⟩, HB2.out⟩
        | some ck =>
        obtain ⟨cc, k⟩ := ck
        obtain ⟨g, rfl, hg⟩ := (show ∃ g, v = .iface 131 (.pointer (some ⟨g, 0, none⟩)) ∧ Box w2 g [.int .i64 cc, .int .i64 k, .nilIface] from hv)
        have HC := Lib.hid hR
        have HBX := Lib.hid hg
        have HKL : Hid (k ≤ 1000000) := Lib.hid (by have := (check_lt hR.symm).1; rw [HN4.out] at this; omega)
        clear hR hv hg
        go_wp2_with fail
        refine (path_hit w2 g cc k HGW2.out HBX.out).mono ?_
        rintro e w3 ⟨gp, cp, rfl, hcp, hgp, hb3⟩
        have HB3 : Hid (Below w.heap.size w w3) := Lib.hid (HB2.out.trans (hb3.mono HB2.out.size))
        have HBX3 : Hid (Box w3 g [.int .i64 cc, .int .i64 k, .nilIface]) := Lib.hid (HBX.out.below hb3 HBX.out.lt)
        have HGW3 : Hid (Hdl w3) := Lib.hid (HGW2.out.below hb3 HGW2.out.lt)
        have eqk : wrap64 ((4 * k : Nat) : Int) = ((4 * k : Nat) : Int) := by have := HKL.out; unfold wrap64; omega
        have eqk2 : (4 : Int) * (k : Int) = ((4 * k : Nat) : Int) := by omega
        obtain ⟨k4, hk4⟩ : ∃ k4, k4 = 4 * k := ⟨_, rfl⟩
        have HK4 := Lib.hid hk4
        rw [← hk4] at eqk eqk2
        clear hb3 HB2 HBX HGW2 hk4 hgp
        go_wp2_with fail
        refine (In_calls w3 g cc k k4 HGW3.out HBX3.out).mono ?_
        rintro e w4 ⟨g2, rfl, hx1, hx2, hb4⟩
        have HB4 : Hid (Below w.heap.size w w4) := Lib.hid (HB3.out.trans (hb4.mono HB3.out.size))
        have HX1 := Lib.hid hx1
        have HX2 := Lib.hid hx2
        clear hb4 HB3 hx1 hx2 hcp
        go_wp2
        go_ret2
        exact ⟨⟨_, _, rfl, .inr (.inr ⟨by have := HM4.out; rw [← HN.out]; omega, cc, k, HC.out.symm, rfl, g, g2, rfl, by rw [← HK4.out]; exact HX1.out, HX2.out⟩), FrB.none _⟩, HB4.out⟩
  · have HE : Hid (n % 4 ≠ 0) := Lib.hid hm
    have eq1 : ((n : Int) % 4 != 0) = true := by simp; omega
    have eq2 : (n : Int) / 4 = (n4 : Int) := by omega
    have HN4' := Lib.hid hn4
    clear hm hn4
    go_enter Tryz.func17, Tryz.ntmps17
    go_wp2_with fail
    refine (fault_new w 2 n4 (by omega)).mono ?_
    rintro e w2 ⟨⟨v, rfl, g, rfl, hx⟩, hb2⟩
    have HX := Lib.hid hx
    have HB2 := Lib.hid hb2
    clear hx hb2
    go_wp2
    go_ret2
    exact ⟨⟨_, _, rfl, .inl ⟨by rw [← HN.out]; exact HE.out, rfl, g, rfl, by rw [← HN.out, ← HN4'.out]; exact HX.out⟩, FrB.none _⟩, HB2.out⟩
/- Encode: its bytes are its own. (printed by tools/pdec.py out of XTopEnc) -/
set_option maxHeartbeats 2000000 in
theorem Encode_callsO (w : World) (Ai : Option Addr) (c : Nat) (l : List Ins) (h : RIn w w.heap.size Ai l) (h8 : l.length ≤ 1000000) : Calls Tryz.prog 8 #[.slice Ai l.length c] w (RetPut w (encI l)) := by
  have HR := Lib.hid h
  obtain ⟨n, hn⟩ : ∃ n, n = l.length := ⟨_, rfl⟩
  have HN := Lib.hid hn
  rw [← hn] at h8 ⊢
  clear h hn
  have eqm : (4 : Int) * (n : Int) = ((4 * n : Nat) : Int) := by omega
  obtain ⟨n4, hn4⟩ : ∃ n4, n4 = 4 * n := ⟨_, rfl⟩
  have hn46 : n4 ≤ 4000000 := by omega
  have eqw : wrap64 (n4 : Int) = (n4 : Int) := by unfold wrap64; omega
  rw [← hn4] at eqm
  clear hn4
  go_enter Tryz.func8, Tryz.ntmps8
  go_wp2_with ((with_reducible show wpList _ _ _ (Oper.mk _ (Op.makeSlice _ _ _) _ _ _ _ :: _) _ _); refine wpList_make0_bytes _ rfl _ _ rfl w.heap.size _ _ _ n4 rfl rfl rfl (by omega) (Nat.le_refl _) ?_)
  intro w1 hob hg1
  have HOB := Lib.hid hob
  have HBEL1 : Hid (Below w.heap.size w w1) := Lib.hid (gbelow hg1)
  obtain ⟨B4, hB4⟩ : ∃ B4, B4 = w.heap.size := ⟨_, rfl⟩
  have HOB' : Hid (OB w1 w.heap.size (some ⟨B4, 0, none⟩) n4 []) := Lib.hid (by rw [hB4]; exact HOB.out)
  rw [← hB4]
  clear hob hg1 hB4 HOB
  go_wp2_with fail
  go_loopw [3, 12] (fun s3 s12 wr => EcRel w l s3 s12 wr) (fun _ s12 _ => n - (intOf s12).toNat)
  case atStart => exact ⟨0, some ⟨B4, 0, none⟩, n4, [], Nat.zero_le _, rfl, rfl, rfl, HOB'.out, HBEL1.out⟩
  case round =>
    obtain ⟨i, A9, c9, L9, hi, rfl, rfl, hL, hob, hbel⟩ := hrel
    have HI := Lib.hid hi
    have HL := Lib.hid hL
    have HOB := Lib.hid hob
    have HBEL := Lib.hid hbel
    obtain ⟨m9, hm9⟩ : ∃ m9, m9 = L9.length := ⟨_, rfl⟩
    have HM9 := Lib.hid hm9
    rw [← hm9]
    clear hi hL hob hbel HOB' HBEL1 hm9
    by_cases hlt : i < n
    · have hkl : i < l.length := by rw [← HN.out]; exact hlt
      obtain ⟨b, o, hA, hb, h0', h1', h2', h3', hfit⟩ := HR.out.get hkl
      subst hA
      obtain ⟨x, hx⟩ : ∃ x, x = l[i] := ⟨_, rfl⟩
      rw [← hx] at h0' h1' h2' h3' hfit
      have HRG : Hid (wr.rangeAt b (o + i * 4) (icells x)) := Lib.hid (rin_range ((HBEL.out.cell (p := ⟨b, _, none⟩) hb).trans h0') ((HBEL.out.cell (p := ⟨b, _, none⟩) hb).trans h1') ((HBEL.out.cell (p := ⟨b, _, none⟩) hb).trans h2') ((HBEL.out.cell (p := ⟨b, _, none⟩) hb).trans h3'))
      have HF := Lib.hid hfit
      have HX := Lib.hid hx
      have HSN : Hid (encI (l.take (i + 1)) = L9 ++ insB x) := Lib.hid (by rw [encI_snoc l i hkl, HL.out, HX.out])
      clear HX
      clear h0' h1' h2' h3' hfit hx hkl hb
      go_wp2_with (first
        | ((with_reducible show wpList _ _ _ (Oper.mk _ (Op.load 94 _) _ _ _ _ :: _) _ _); refine wpList_load_mid rfl 94 _ rfl b (o + i * 4) rfl (icells x) _ HRG.out Tryz.underlying94 rfl (by kernel_rfl) ?_)
        | ((with_reducible show wpList _ _ _ (Oper.mk _ (Op.alloc _) _ _ _ _ :: _) _ _); refine wpList_allocS [.int .u8 0, .int .u8 0, .int .u8 0, .int .u8 0] (by kernel_rfl) rfl rfl ?_))
      intro w2 hb2 hg2 hs2
      obtain ⟨B5, hB5⟩ : ∃ B5, B5 = wr.heap.size := ⟨_, rfl⟩
      rw [← hB5] at hb2 ⊢
      have HB2 := Lib.hid hb2
      have HG2 := Lib.hid hg2
      have HB5 := Lib.hid hB5
      clear hb2 hg2 hB5 hs2
      go_wp2_with ((with_reducible show wpList _ _ _ (Oper.mk _ (Op.store _ _ _) _ _ _ _ :: _) _ _); refine wpList_storeS sIns rfl _ _ rfl B5 [.int .u8 0, .int .u8 0, .int .u8 0, .int .u8 0] (icells x) rfl rfl HB2.out rfl rfl (fun v hv => by simp only [icells, List.mem_cons, List.not_mem_nil, or_false] at hv; rcases hv with rfl | rfl | rfl | rfl <;> rfl) ?_)
      intro w3 hb3 hg3
      have c0 : w3.cell? ⟨B5, 0, none⟩ = some (.int .u8 x.op) := hb3.cell rfl
      have c1 : w3.cell? ⟨B5, 1, none⟩ = some (.int .u8 x.a) := hb3.cell rfl
      have c2 : w3.cell? ⟨B5, 2, none⟩ = some (.int .u8 x.b) := hb3.cell rfl
      have c3 : w3.cell? ⟨B5, 3, none⟩ = some (.int .u8 x.c) := hb3.cell rfl
      have HG3 := Lib.hid hg3
      have HB3 := Lib.hid hb3
      clear hg3 hb3
      have HOB3 : Hid (OB w3 w.heap.size A9 c9 L9) := Lib.hid (ob_grown1 (ob_grown0 HOB.out HG2.out) HG3.out (fun k hk => by have := (HOB.out.lt k hk).2; have := HB5.out; omega))
      have HBE3 : Hid (Below w.heap.size w w3) := Lib.hid ((HBEL.out.grown HG2.out HBEL.out.size (fun j e => by cases e)).grown HG3.out (HBEL.out.grown HG2.out HBEL.out.size (fun j e => by cases e)).size (fun j e => by
        injection e with e
        have := HBEL.out.size; have := HB5.out; omega))
      clear HOB HBEL HB2 HG2 HG3
      go_wp2_with ((with_reducible show wpList _ _ _ (Oper.mk _ (Op.buildSlice _ _ _) _ _ _ _ :: _) _ _); refine wpList_build4 rfl _ _ _ _ rfl x rfl rfl rfl rfl ?_)
      intro w4 hb4 hg4
      obtain ⟨B6, hB6⟩ : ∃ B6, B6 = w3.heap.size := ⟨_, rfl⟩
      rw [← hB6] at hb4 ⊢
      have HRB4 : Hid (RB w4 w4.heap.size (some ⟨B6, 0, none⟩) (insB x)) := Lib.hid (rb_ins hb4 HF.out)
      have HOB4 : Hid (OB w4 w.heap.size A9 c9 L9) := Lib.hid (ob_grown0 HOB3.out hg4)
      have HBE4 : Hid (Below w.heap.size w w4) := Lib.hid (HBE3.out.grown hg4 HBE3.out.size (fun j e => by cases e))
      have HLL : Hid (L9.length + (insB x).length ≤ 140737488355328) := Lib.hid (by
        rw [HL.out, encI_len, List.length_take]
        show 4 * _ + 4 ≤ _
        have := HN.out
        omega)
      clear hb4 hg4 hB6 HOB3 HBE3 c0 c1 c2 c3 HB3
      go_wp2_with ((with_reducible show wpList _ _ _ (Oper.mk _ (Op.call _) _ _ _ _ :: _) _ _); refine wpList_app_bytes w4 rfl _ _ rfl w.heap.size A9 c9 L9 m9 rfl HM9.out HOB4.out (some ⟨B6, 0, none⟩) 4 (insB x) 4 rfl rfl HRB4.out HLL.out HBE4.out.size ?_)
      intro A2 c2 L2 w5 hL2 hob5 hg5 hn5
      have HF5 : Hid (EcRel w l (.slice A2 L2.length c2) (.int .i64 ((i + 1 : Nat) : Int)) w5) := Lib.hid (by
        refine ⟨i + 1, A2, c2, L2, by rw [← HN.out]; omega, rfl, rfl, by rw [hL2.out, HSN.out], hob5, ?_⟩
        exact HBE4.out.grown hg5 HBE4.out.size (fun j e => (HOB4.out.lt j e).1))
      clear hL2 hob5 hg5 hn5 HOB4 HBE4 HRB4 HLL HSN HL
      go_wp2
      go_roundw
      case rel => first | exact HF5.out | (have e5 : ((i : Int) + 1) = ((i + 1 : Nat) : Int) := by omega
                                           rw [e5]; exact HF5.out)
      case measure => simp [intOf]; omega
    · have hin : i = n := by have := HI.out; have := HN.out; omega
      have hLe : Hid (L9 = encI l) := Lib.hid (by rw [HL.out, List.take_of_length_le (by rw [← HN.out]; omega)])
      clear HL
      go_wp2
      go_ret
      exact ⟨A9, c9, by rw [HM9.out, hLe.out]; rfl, by rw [← hLe.out]; exact HOB.out, HBEL.out⟩
end Go.Proofs.YtjfpoahmjgeogaaGreatDoor
/- Runs of a machine, in plain Lean. -/
namespace Nac.Pvm
open Go Go.RowKit Go.IntWalk
def runM (l : List Ins) : Nat → Mach × Int × Int → (Mach × Int × Int) × Nat
  | 0, x => (x, 0)
  | n + 1, x => if x.1.state = 0 ∧ x.2.1 = 0 then ((runM l n (stepM l x.1)).1, (runM l n (stepM l x.1)).2 + 1) else (x, 0)
theorem runM_stop (l : List Ins) (n : Nat) (x : Mach × Int × Int) (h : ¬ (x.1.state = 0 ∧ x.2.1 = 0)) : runM l n x = (x, 0) := by
  cases n with
  | zero => rfl
  | succ n => rw [runM, if_neg h]
theorem plainM_len (m : Mach) (i : Ins) : (plainM m i).r.length = m.r.length ∧ (plainM m i).mem = m.mem ∧ (plainM m i).state = m.state ∧ (plainM m i).trap = m.trap := by
  unfold plainM
  split
  · simp
  split
  · simp
  split
  · split <;> simp
  split <;> simp
theorem stepM_len (l : List Ins) (m : Mach) : (stepM l m).1.r.length = m.r.length ∧ (stepM l m).1.mem.length = m.mem.length := by
  unfold stepM
  by_cases h1 : m.state ≠ 0
  · rw [if_pos h1]; exact ⟨rfl, rfl⟩
  rw [if_neg h1]
  by_cases h2 : m.place < 0 ∨ (l.length : Int) ≤ m.place
  · rw [if_pos h2]; exact ⟨rfl, rfl⟩
  rw [if_neg h2]
  generalize l.getD m.place.toNat default = i
  by_cases h3 : wf i = false
  · rw [if_pos h3]; exact ⟨rfl, rfl⟩
  rw [if_neg h3]
  by_cases h4 : i.op = 0
  · rw [if_pos h4]; exact ⟨rfl, rfl⟩
  rw [if_neg h4]
  by_cases h5 : i.op = 17
  · rw [if_pos h5]; exact ⟨rfl, rfl⟩
  rw [if_neg h5]
  by_cases h6 : i.op = 13
  · rw [if_pos h6]
    by_cases h : wordAt m i < 0
    · rw [if_pos h]; exact ⟨rfl, rfl⟩
    · rw [if_neg h]; simp
  rw [if_neg h6]
  by_cases h7 : i.op = 14
  · rw [if_pos h7]
    by_cases h : wordAt m i < 0
    · rw [if_pos h]; exact ⟨rfl, rfl⟩
    · rw [if_neg h]; simp
  rw [if_neg h7]
  by_cases h8 : (i.op = 6 ∨ i.op = 7) ∧ m.reg i.c = 0
  · rw [if_pos h8]; exact ⟨rfl, rfl⟩
  rw [if_neg h8]
  have := plainM_len { m with place := m.place + 1 } i
  exact ⟨this.1, by rw [this.2.1]⟩
def AtRound (l : List Ins) (N : Nat) (x0 x : Mach × Int × Int) (k : Nat) : Prop := runM l N x0 = ((runM l (N - k) x).1, (runM l (N - k) x).2 + k)
theorem AtRound.start (l : List Ins) (N : Nat) (x : Mach × Int × Int) : AtRound l N x x 0 := rfl
theorem AtRound.next {l : List Ins} {N : Nat} {x0 x : Mach × Int × Int} {k : Nat} (h : AtRound l N x0 x k) (h1 : x.1.state = 0) (h2 : x.2.1 = 0) (hk : k < N) : AtRound l N x0 (stepM l x.1) (k + 1) := by
  unfold AtRound at h ⊢
  obtain ⟨d, hd⟩ : ∃ d, N - k = d + 1 := ⟨N - k - 1, by omega⟩
  rw [h, hd, runM, if_pos ⟨h1, h2⟩, (by omega : N - (k + 1) = d)]
  simp only
  congr 1
  omega
theorem AtRound.stop {l : List Ins} {N : Nat} {x0 x : Mach × Int × Int} {k : Nat} (h : AtRound l N x0 x k) (hx : ¬ (x.1.state = 0 ∧ x.2.1 = 0)) : runM l N x0 = (x, k) := by
  unfold AtRound at h
  rw [h, runM_stop _ _ _ hx, Nat.zero_add]
theorem AtRound.full {l : List Ins} {N : Nat} {x0 x : Mach × Int × Int} {k : Nat} (h : AtRound l N x0 x k) (hx : N ≤ k) : runM l N x0 = (x, k) := by
  unfold AtRound at h
  rw [h, (by omega : N - k = 0), runM, Nat.zero_add]
end Nac.Pvm
