/- Bundle 10 of the texts RefTb, RefGa. -/
import Derived.Test.YtgeffkdobnipgaaMg9
/- The document's set: Take. -/
namespace Go.Proofs.Ytgeffkdobnipgaa
open Go.RowKit Nac Nac.Procs
set_option maxRecDepth 100000 in
set_option maxHeartbeats 1000000 in
theorem rtake_calls (w : World) (R : Nat) (M : RSt) (A : Nat → Option Addr) (c : Nat → Nat) (h : RefM w R M A c) (b : Nat) (hI : RInv M b) (hb : b ≤ 100) (r ticks : Int) :
    Calls Try.prog 42 #[.pointer (some ⟨R, 0, none⟩), .int .i64 r, .int .i64 ticks] w (RetRI w R A b isO) := by
  have H := Lib.hid h
  have HI := Lib.hid hI
  have HBB := Lib.hid hb
  clear h hI hb
  obtain ⟨ea, hea⟩ : ∃ ea, ea = askedI M true r ticks := ⟨_, rfl⟩
  have HEA := Lib.hid hea
  clear hea
  go_enter Try.func42, Try.ntmps42
  go_wp2_with ((with_reducible show wpList _ _ _ (Oper.mk _ (Op.alloc 37) _ _ _ _ :: _) _ _); refine wpList_allocS _ zOut rfl rfl ?_)
  intro w1 hbk hg1 hs1
  obtain ⟨b8, hb8⟩ : ∃ b, b = w.heap.size := ⟨_, rfl⟩
  rw [← hb8] at hbk ⊢
  have HNF : Hid (¬ Foot R A b8) := Lib.hid (Mem.notFoot H.out (by omega))
  have HBL : Hid (b8 < w1.heap.size) := Lib.hid (by omega)
  have HB1 := Lib.hid hbk
  have HG1 := Lib.hid hg1
  have HBE : Hid (w.heap.size ≤ b8) := Lib.hid (by omega)
  have H1 : Hid (RefM w1 R M A c) := Lib.hid (Mem.apart H.out hg1 fun k e => by cases e)
  clear hbk hg1 hs1 hb8 H
  go_wp2_with fail
  refine (asked_calls w1 R M A c H1.out b HI.out HBB.out true r ticks).mono ?_
  rintro e w2 ⟨rfl, d, hw2⟩
  have H2 : Hid (RefM w2 R M A c) := Lib.hid (by rw [hw2]; exact H1.out.drewN d)
  have HF2 : Hid (FrS R A w1 A w2) := Lib.hid (by rw [hw2]; exact (FrS.refl R A w1).drewN d)
  rw [← HEA.out]
  clear hw2 H1
  by_cases he : ea = 0
  · obtain ⟨⟨p, hrun, hpn⟩, hrr, ht0, ht1⟩ := asked_ok HI.out (HEA.out.symm.trans he)
    obtain ⟨hr0, hr1⟩ := hrr rfl
    obtain ⟨k, rfl⟩ : ∃ k : Nat, r = k := ⟨r.toNat, by omega⟩
    have hk : k < M.rs.length := by omega
    have HRUN := Lib.hid hrun
    have HPN := Lib.hid hpn
    have HK := Lib.hid hk
    subst he
    obtain ⟨g, hA, hc, _⟩ := H2.out.at1r hk
    obtain ⟨m, hm⟩ : ∃ m, m = M.rs.length := ⟨_, rfl⟩
    have hm8 : m ≤ 8 := by rw [hm]; exact HI.out.m8
    have hkm : k < m := by omega
    have c1 : w2.cell? ⟨R, 1, none⟩ = some (.slice (some ⟨g, 0, none⟩) m (c 1)) := by rw [hm, ← hA]; exact Mem.head H2.out (by decide)
    obtain ⟨ki, hki⟩ : ∃ x, x = (M.res k).kind := ⟨_, rfl⟩
    obtain ⟨cn, hcn⟩ : ∃ x, x = (M.res k).count := ⟨_, rfl⟩
    have ck : w2.cell? ⟨g, k * 3, none⟩ = some (.int .i64 ki) := by rw [hki]; exact hc 0 _ rfl
    have ck1 : w2.cell? ⟨g, k * 3 + 1, none⟩ = some (.int .i64 cn) := by rw [hcn]; exact hc 1 _ rfl
    have HA := Lib.hid hA
    have HM := Lib.hid hm
    have HKI := Lib.hid hki
    have HCN := Lib.hid hcn
    clear hrun hpn hrr hr0 hr1 hk hA hc hm hki hcn
    by_cases hz : cn = 0
    · subst hz
      by_cases ht : ticks = 0
      · subst ht
        have HBZ : Hid (Blk w2 b8 [.int .i64 0, .int .i64 0, .bool false]) := Lib.hid (HF2.out.blk HB1.out HNF.out)
        have HI6 := Lib.hid HI.out.next
        go_wp2_with ((with_reducible show wpList _ _ _ (Oper.mk _ (Op.store 37 _ _) _ _ _ _ :: _) _ _); refine wpList_storeS sOut rfl _ _ rfl b8 [.int .i64 0, .int .i64 0, .bool false] (ocs (errO 130)) rfl rfl HBZ.out rfl rfl (ocs_one _) ?_)
        intro w8 hb8 hg8
        have l8 := Lib.hid (run_loadS sOut b8 _ hb8 rfl)
        have HRS := Lib.hid (RetRI.of (RetOut.fin (u := (errO 130)) HG1.out HBE.out HNF.out HBL.out HF2.out H2.out hg8) HI6.out)
        clear hb8 hg8
        go_wp2
        exact bodyPost_ret (v := .agg (ocs (errO 130)).toArray) (by simp [results, Try.results42, asAddr, Sem.run_bind, Sem.run_pure, l8.out]) rfl HRS.out
      · have ht2 : (ticks == 0) = false := by simpa using ht
        clear ht
        go_wp2_with fail
        refine (rwaits_calls w2 R M A c H2.out b HI.out HBB.out p HRUN.out (k : Int) ticks 0).mono ?_
        rintro e w6 ⟨rfl, A6, c6, h6, hf6⟩
        have H6 := Lib.hid h6
        have HF6 := Lib.hid (HF2.out.trans hf6)
        have HBZ : Hid (Blk w6 b8 [.int .i64 0, .int .i64 0, .bool false]) := Lib.hid (HF6.out.blk HB1.out HNF.out)
        have HI6 := Lib.hid (HI.out.waits HPN.out (k : Int) ticks 0 ⟨ht0, ht1⟩)
        clear h6 hf6 H2 HF2
        go_wp2_with ((with_reducible show wpList _ _ _ (Oper.mk _ (Op.store 37 _ _) _ _ _ _ :: _) _ _); refine wpList_storeS sOut rfl _ _ rfl b8 [.int .i64 0, .int .i64 0, .bool false] (ocs waits) rfl rfl HBZ.out rfl rfl (ocs_one _) ?_)
        intro w8 hb8 hg8
        have l8 := Lib.hid (run_loadS sOut b8 _ hb8 rfl)
        have HRS := Lib.hid (RetRI.of (RetOut.fin (u := waits) HG1.out HBE.out HNF.out HBL.out HF6.out H6.out hg8) HI6.out)
        clear hb8 hg8
        go_wp2
        exact bodyPost_ret (v := .agg (ocs waits).toArray) (by simp [results, Try.results42, asAddr, Sem.run_bind, Sem.run_pure, l8.out]) rfl HRS.out
    · have hz1 : (cn == 0) = false := by simpa using hz
      have hcn := HI.out.cnt k HK.out
      have hcn0 : 0 < cn ∧ cn ≤ 16 ∧ cn ≤ (M.res k).most := by
        have e : cn = (M.rs.getD k default).count := HCN.out
        have hz : ¬ cn = 0 := by simpa using hz1
        exact ⟨by omega, by omega, by show _ ≤ (M.rs.getD k default).most; omega⟩
      clear hz hcn
      obtain ⟨hc0, hc16, hcm⟩ := hcn0
      have HC0 := Lib.hid hc0
      have HCM := Lib.hid hcm
      clear hcm
      by_cases hk0 : ki = 0
      · subst hk0
        go_wp2_with ((with_reducible show wpList _ _ _ (Oper.mk _ (Op.store _ _ _) _ _ _ _ :: _) _ _); refine wpList_rcount rfl 3 _ _ rfl H2 HF2 (cn - 1) HK.out HA rfl rfl s1Int ?_)
        intro w4 H4 HF4
        have HBZ : Hid (Blk w4 b8 [.int .i64 0, .int .i64 0, .bool false]) := Lib.hid (HF4.out.blk HB1.out HNF.out)
        have HI6 : Hid (RInv (cntM M k (cn - 1)) (b + 1)) := Lib.hid (HI.out.next.cntM HK.out ⟨by have := HC0.out; omega, by have := HCM.out; omega⟩ (fun e => by rw [← HKI.out] at e; exact absurd e (by decide)))
        clear H2 HF2 c1 ck ck1
        go_wp2_with ((with_reducible show wpList _ _ _ (Oper.mk _ (Op.store 37 _ _) _ _ _ _ :: _) _ _); refine wpList_storeS sOut rfl _ _ rfl b8 [.int .i64 0, .int .i64 0, .bool false] (ocs ok) rfl rfl HBZ.out rfl rfl (ocs_one _) ?_)
        intro w8 hb8 hg8
        have l8 := Lib.hid (run_loadS sOut b8 _ hb8 rfl)
        have HRS := Lib.hid (RetRI.of (RetOut.fin (u := ok) HG1.out HBE.out HNF.out HBL.out HF4.out H4.out hg8) HI6.out)
        clear hb8 hg8
        go_wp2
        exact bodyPost_ret (v := .agg (ocs ok).toArray) (by simp [results, Try.results42, asAddr, Sem.run_bind, Sem.run_pure, l8.out]) rfl HRS.out
      · have hk01 : (ki == 0) = false := by simpa using hk0
        by_cases hk2 : ki = 2
        · subst hk2
          have hki : k < M.items.length := by rw [HI.out.ni]; exact HK.out
          have hlen : cn = ((M.its k).length : Int) := by rw [HCN.out]; exact HI.out.it k HK.out HKI.out.symm
          obtain ⟨g4, hA4, hc4, _⟩ := H2.out.at4 hki
          obtain ⟨L, hL⟩ : ∃ L, L = M.its k := ⟨_, rfl⟩
          rw [← hL] at hlen hc4
          obtain ⟨x, T, rfl⟩ : ∃ x T, L = x :: T := by
            cases L with
            | nil => simp at hlen; omega
            | cons x T => exact ⟨x, T, rfl⟩
          have hrow := H2.out.its_row k
          rw [← hL] at hrow
          obtain ⟨gi, hgi, _, hx0, _⟩ := hrow.at (j := 0) (by simp)
          obtain ⟨ci, hci⟩ : ∃ ci, ci = c (6 + k) := ⟨_, rfl⟩
          obtain ⟨li, hli⟩ : ∃ li, li = (x :: T).length := ⟨_, rfl⟩
          obtain ⟨m4, hm4⟩ : ∃ n, n = M.items.length := ⟨_, rfl⟩
          have hkm4 : k < m4 := by omega
          have c4 : w2.cell? ⟨R, 4, none⟩ = some (.slice (some ⟨g4, 0, none⟩) m4 (c 4)) := by rw [hm4, ← hA4]; exact Mem.head H2.out (by decide)
          rw [hgi, ← hci, ← hli] at hc4
          have hm48 : m4 ≤ 8 := by rw [hm4, HI.out.ni]; exact HI.out.m8
          have hl1 : 0 < li := by rw [hli]; simp
          have hx : w2.cell? ⟨gi, 0, none⟩ = some (.int .i64 x) := hx0
          have hl16 : li ≤ 16 := by omega
          have HLEN : Hid (cn = (li : Int)) := Lib.hid (by rw [hli]; exact hlen)
          have HL := Lib.hid hL
          have HROW := Lib.hid hrow
          have HGI := Lib.hid hgi
          have HCI := Lib.hid hci
          have HLI := Lib.hid hli
          have HM4 := Lib.hid hm4
          have HA4 := Lib.hid hA4
          have HK4 := Lib.hid hki
          clear hx0 hlen hL hrow hgi hci hli hm4 hA4 hki hk0
          have HD : Hid (RefM w2.drew R M A c) := Lib.hid (H2.out.drewN 1)
          have C4 : Hid (∀ w', Below w2.drew.heap.size w2.drew w' → w'.cell? ⟨R, 4, none⟩ = some (.slice (some ⟨g4, 0, none⟩) m4 (c 4))) := Lib.hid fun w' hb' => by rw [HM4.out, ← HA4.out]; exact Mem.head (Mem.below HD.out hb') (by decide)
          have CK : Hid (∀ w', Below w2.drew.heap.size w2.drew w' → w'.cell? ⟨g4, k, none⟩ = some (.slice (some ⟨gi, 0, none⟩) li ci)) := Lib.hid fun w' hb' => by
            obtain ⟨g', hA', hc', _⟩ := (show RefM w' R M A c from Mem.below HD.out hb').at4 HK4.out
            rw [HA4.out] at hA'
            injection hA' with e
            injection e with e
            subst e
            rw [hc', ← HL.out, HGI.out, ← HCI.out, ← HLI.out]
          have SR : Hid (∀ w', Below w2.drew.heap.size w2.drew w' → Src w' (tailA gi ci) (T.map (Value.int .i64))) := Lib.hid fun w' hb' hne => by
            have hro : Row w' 2 1 (some ⟨gi, 0, none⟩) ci (x :: T).length ((x :: T).map (Value.int .i64)) := by
              have := (show RefM w' R M A c from Mem.below HD.out hb').its_row k
              rw [← HL.out, HGI.out, ← HCI.out] at this
              exact this
            have hci : (x :: T).length ≤ ci := by
              rcases hro.2 with ⟨e, _⟩ | ⟨_, _, _, e, _, _, h, _⟩
              · cases e
              · injection e with _ _ e; subst e; exact h
            have hT : 0 < T.length := by cases T with | nil => exact absurd rfl hne | cons _ _ => simp
            have h2 : ¬ ci = 1 := by simp at hci; omega
            refine ⟨⟨gi, 1, none⟩, if_neg h2, fun j u hu => ?_⟩
            have hj : j + 1 < ((x :: T).map (Value.int .i64)).length := by have := (List.getElem?_eq_some_iff.1 hu).1; simp at this ⊢; omega
            obtain ⟨g', hg', _, hc', _⟩ := hro.at hj
            injection hg' with e
            injection e with e
            subst e
            have := (List.getElem?_eq_some_iff.1 hu).2
            rw [Addr.add_mid, Nat.add_comm, hc', ← this]
            simp
          have hlc : li ≤ ci := by
            have hro := HROW.out
            rw [HGI.out, ← HCI.out, ← HLI.out] at hro
            rcases hro.2 with ⟨e, _⟩ | ⟨_, _, _, e, _, _, h, _⟩
            · cases e
            · injection e with _ _ e; subst e; exact h
          have RT : Hid (∀ w, (Instr.sliceAt 56 (.slice (some ⟨gi, 0, none⟩) li ci) (some (.int .i64 1)) none none).run Try.prog w = .ok (.slice (tailA gi ci) (li - 1) (ci - 1)) w) := Lib.hid fun w => run_tail64 w gi li ci hl1 hlc
          have LT : Hid ((T.map (Value.int .i64)).length = li - 1) := Lib.hid (by rw [HLI.out]; simp)
          have LI : Hid (li ≤ 16) := Lib.hid hl16
          have LI6 : Hid (li ≤ 16) := Lib.hid hl16
          go_wp2_with fail
          refine region_tails 15 (fun ix9 => ([.is (.pointer (some ⟨R, 0, none⟩)), .is (.pointer (some ⟨R, 0, none⟩)), .is (.pointer (some ⟨R, 4, none⟩)), .is (.slice (some ⟨g4, 0, none⟩) m4 (c 4)), .is (.int .i64 (k : Int)), .pr (Empt w2.drew 2) Empt.mono, .is (.pointer (some ⟨R, 0, none⟩)), .is (.pointer (some ⟨R, 0, none⟩)), .is (.pointer (some ⟨R, 4, none⟩)), .is (.slice (some ⟨g4, 0, none⟩) m4 (c 4)), .is (.int .i64 (k : Int)), .is (.pointer (some ⟨g4, k, none⟩)), .is (.slice (some ⟨gi, 0, none⟩) li ci), .is (.slice (tailA gi ci) (li - 1) (ci - 1)), .pr (Copied w2.drew 2 (T.map (Value.int .i64))) Copied.mono] : List VD).getD ix9 (.is undef)) [some 69, some 70, some 71, some 72, some 73, some 74, some 75, some 76, some 77, some 78, some 79, some 80, some 81, some 82, some 83] (by kernel_rfl) (by kernel_rfl) (by kernel_rfl) (by kernel_rfl) rfl (fun ii hii => ?_) ?_
          · match ii, hii with
            | 0, _ => exact mstep_first rfl (mwant_none rfl) 0 (Or.inl rfl) (by kernel_rfl) (fun _ _ => rfl)
            | 1, _ => exact mstep_pure rfl (mwant_none rfl) (fun aa ww cc => ⟨.pointer (some ⟨R, 0, none⟩), by have e0 : aa.tmps.getD 69 undef = .pointer (some ⟨R, 0, none⟩) := cc.slot 0 69 (by kernel_rfl) rfl; simp only [execOp, Act.eval, e0]; go_simp, rfl⟩)
            | 2, _ => exact mstep_pure rfl (mwant_none rfl) (fun aa ww cc => ⟨.pointer (some ⟨R, 4, none⟩), by have e0 : aa.tmps.getD 70 undef = .pointer (some ⟨R, 0, none⟩) := cc.slot 1 70 (by kernel_rfl) rfl; simp only [execOp, Act.eval, e0]; go_simp, rfl⟩)
            | 3, _ => exact mstep_pure rfl (mwant_none rfl) (fun aa ww cc => ⟨.slice (some ⟨g4, 0, none⟩) m4 (c 4), by have e0 : aa.tmps.getD 71 undef = .pointer (some ⟨R, 4, none⟩) := cc.slot 2 71 (by kernel_rfl) rfl; have q := C4.out _ cc.below; simp only [execOp, Act.eval, e0]; go_simp, rfl⟩)
            | 4, _ => exact mstep_first rfl (mwant_none rfl) 1 (Or.inl rfl) (by kernel_rfl) (fun _ _ => rfl)
            | 5, _ => exact mstep_build0 rfl (mwant_none rfl) rfl build0_i64 rfl
            | 6, _ => exact mstep_first rfl (mwant_none rfl) 0 (Or.inl rfl) (by kernel_rfl) (fun _ _ => rfl)
            | 7, _ => exact mstep_pure rfl (mwant_none rfl) (fun aa ww cc => ⟨.pointer (some ⟨R, 0, none⟩), by have e0 : aa.tmps.getD 75 undef = .pointer (some ⟨R, 0, none⟩) := cc.slot 6 75 (by kernel_rfl) rfl; simp only [execOp, Act.eval, e0]; go_simp, rfl⟩)
            | 8, _ => exact mstep_pure rfl (mwant_none rfl) (fun aa ww cc => ⟨.pointer (some ⟨R, 4, none⟩), by have e0 : aa.tmps.getD 76 undef = .pointer (some ⟨R, 0, none⟩) := cc.slot 7 76 (by kernel_rfl) rfl; simp only [execOp, Act.eval, e0]; go_simp, rfl⟩)
            | 9, _ => exact mstep_pure rfl (mwant_none rfl) (fun aa ww cc => ⟨.slice (some ⟨g4, 0, none⟩) m4 (c 4), by have e0 : aa.tmps.getD 77 undef = .pointer (some ⟨R, 4, none⟩) := cc.slot 8 77 (by kernel_rfl) rfl; have q := C4.out _ cc.below; simp only [execOp, Act.eval, e0]; go_simp, rfl⟩)
            | 10, _ => exact mstep_first rfl (mwant_none rfl) 1 (Or.inl rfl) (by kernel_rfl) (fun _ _ => rfl)
            | 11, _ => exact mstep_pure rfl (mwant_none rfl) (fun aa ww cc => ⟨.pointer (some ⟨g4, k, none⟩), by have e0 : aa.tmps.getD 78 undef = .slice (some ⟨g4, 0, none⟩) m4 (c 4) := cc.slot 9 78 (by kernel_rfl) rfl; have e1 : aa.tmps.getD 79 undef = .int .i64 (k : Int) := cc.slot 10 79 (by kernel_rfl) rfl; simp only [execOp, Act.eval, e0, e1]; go_simp, rfl⟩)
            | 12, _ => exact mstep_pure rfl (mwant_none rfl) (fun aa ww cc => ⟨.slice (some ⟨gi, 0, none⟩) li ci, by have e0 : aa.tmps.getD 80 undef = .pointer (some ⟨g4, k, none⟩) := cc.slot 11 80 (by kernel_rfl) rfl; have q := CK.out _ cc.below; simp only [execOp, Act.eval, e0]; go_simp, rfl⟩)
            | 13, _ => exact mstep_pure rfl (mwant_none rfl) (fun aa ww cc => ⟨.slice (tailA gi ci) (li - 1) (ci - 1), by have e0 : aa.tmps.getD 81 undef = .slice (some ⟨gi, 0, none⟩) li ci := cc.slot 12 81 (by kernel_rfl) rfl; have q := RT.out; simp only [execOp, Act.eval, e0, Option.map_some, Option.map_none]; go_simp, rfl⟩)
            | 14, _ => exact mstep_appF Try.underlying56 Try.infoI64 rfl (by decide) rfl (mwant_none rfl) 74 82 rfl (tailA gi ci) (li - 1) (ci - 1) (T.map (Value.int .i64)) LT.out (fun u hu => by obtain ⟨x, _, rfl⟩ := List.mem_map.1 hu; rfl) (by have := LI.out; omega) (fun aa ww cc => cc.slot 5 74 (by kernel_rfl) rfl) (fun aa ww cc => cc.slot 13 82 (by kernel_rfl) rfl) SR.out rfl
            | n + 15, h => exact absurd h (by show ¬ (n + 15 < 15); omega)
          · intro VV w5 hlen hb5 hok
            match VV, hlen with
            | [v0, v1, v2, v3, v4, v5, v6, v7, v8, v9, v10, v11, v12, v13, v14], _ =>
              obtain rfl : v0 = .pointer (some ⟨R, 0, none⟩) := hok 0 69 rfl
              obtain rfl : v1 = .pointer (some ⟨R, 0, none⟩) := hok 1 70 rfl
              obtain rfl : v2 = .pointer (some ⟨R, 4, none⟩) := hok 2 71 rfl
              obtain rfl : v3 = .slice (some ⟨g4, 0, none⟩) m4 (c 4) := hok 3 72 rfl
              obtain rfl : v4 = .int .i64 (k : Int) := hok 4 73 rfl
              have p5 := hok 5 74 rfl
              obtain rfl : v6 = .pointer (some ⟨R, 0, none⟩) := hok 6 75 rfl
              obtain rfl : v7 = .pointer (some ⟨R, 0, none⟩) := hok 7 76 rfl
              obtain rfl : v8 = .pointer (some ⟨R, 4, none⟩) := hok 8 77 rfl
              obtain rfl : v9 = .slice (some ⟨g4, 0, none⟩) m4 (c 4) := hok 9 78 rfl
              obtain rfl : v10 = .int .i64 (k : Int) := hok 10 79 rfl
              obtain rfl : v11 = .pointer (some ⟨g4, k, none⟩) := hok 11 80 rfl
              obtain rfl : v12 = .slice (some ⟨gi, 0, none⟩) li ci := hok 12 81 rfl
              obtain rfl : v13 = .slice (tailA gi ci) (li - 1) (ci - 1) := hok 13 82 rfl
              have p14 := hok 14 83 rfl
              obtain ⟨A5, c5, rfl, hr5, hf5⟩ := p14
              rw [List.length_map] at hr5
              have HR5 := Lib.hid hr5
              have HG5 : Hid (w2.drew.grownBy w5 ((A (6 + k)).map (·.block))) := Lib.hid ⟨hb5.os, hb5.tape, hb5.output, hb5.size, fun k hk _ => hb5.block k hk⟩
              have HN5 : Hid (NewB w2.drew (A (6 + k)) A5) := Lib.hid (.inr hf5)
              have HFD : Hid (FrS R A w1 A w2.drew) := Lib.hid (HF2.out.drewN 1)
              clear p5 hr5 hf5 hb5 hok C4 CK SR RT LT LI H2 HF2 c1 ck ck1 c4 hx
              simp only [List.zip_cons_cons, List.zip_nil_right, putsL]
              go_simp
              go_wp2_with ((with_reducible show wpList _ _ _ (Oper.mk _ (Op.store _ _ _) _ _ _ _ :: _) _ _); refine wpList_ritems rfl 56 _ _ rfl HD HFD HK4.out HA4 (by simp) HR5 HG5 HN5 rfl rfl s1Words ?_)
              intro w6 H6 HF6
              obtain ⟨M6, hM6⟩ : ∃ X, X = ({ M with items := M.items.set k T } : RSt) := ⟨_, rfl⟩
              obtain ⟨A6, hA6⟩ : ∃ X, X = upA A (6 + k) A5 := ⟨_, rfl⟩
              obtain ⟨c6, hc6⟩ : ∃ X, X = upC c (6 + k) c5 := ⟨_, rfl⟩
              rw [← hM6, ← hA6, ← hc6] at H6
              rw [← hA6] at HF6
              have hA1 : A6 1 = some ⟨g, 0, none⟩ := by rw [hA6]; unfold upA; rw [if_neg (by omega)]; exact HA.out
              have hk6 : k < M6.rs.length := by rw [hM6]; exact HK.out
              obtain ⟨g', hg', hc', _⟩ := H6.out.at1r hk6
              rw [hA1] at hg'
              injection hg' with e
              injection e with e
              subst e
              have c1 : w6.cell? ⟨R, 1, none⟩ = some (.slice (some ⟨g, 0, none⟩) m (c6 1)) := by rw [HM.out, ← hA1, show M.rs.length = M6.rs.length by rw [hM6]]; exact Mem.head H6.out (by decide)
              have ck1 : w6.cell? ⟨g, k * 3 + 1, none⟩ = some (.int .i64 cn) := by rw [HCN.out, show M.res k = M6.res k by rw [hM6]; rfl]; exact hc' 1 _ rfl
              have HM6 := Lib.hid hM6
              have HA61 := Lib.hid hA1
              have HK6 := Lib.hid hk6
              clear hM6 hA6 hc6 hA1 hk6 hc' HD HFD HR5 HG5 HN5
              go_wp2_with ((with_reducible show wpList _ _ _ (Oper.mk _ (Op.store _ _ _) _ _ _ _ :: _) _ _); refine wpList_rcount rfl 3 _ _ rfl H6 HF6 (cn - 1) HK6.out HA61 rfl rfl s1Int ?_)
              intro w7 H7 HF7
              have HEQ : Hid (cntM M6 k (cn - 1) = ciM M k (cn - 1) T) := Lib.hid (by rw [HM6.out]; rfl)
              rw [HEQ.out] at H7
              have hlt : T.length + 1 = li := by rw [HLI.out]; simp
              have HIC : Hid (RInv (ciM M k (cn - 1) T) b) := Lib.hid (HI.out.ci HK.out ⟨by have := HC0.out; omega, by have := HCM.out; omega⟩ (fun _ => by have := HLEN.out; omega) (by omega))
              obtain ⟨M7, hM7⟩ : ∃ X, X = ciM M k (cn - 1) T := ⟨_, rfl⟩
              rw [← hM7] at H7 HIC
              have HM7 := Lib.hid hM7
              clear hM7 hlt H6 HF6 c1 ck1 HEQ
              go_wp2_with fail
              refine (rqueue_calls w7 R M7 A6 c6 H7.out b HIC.out HBB.out (k : Int) (Int.natCast_nonneg _)).mono ?_
              rintro e w8 ⟨q, ⟨Aq, cq, rfl, hfl⟩, hqn, hqm⟩
              have H8 : Hid (RefM w8 R M7 A6 c6) := Lib.hid (Mem.below H7.out hfl.below)
              have HF8 : Hid (FrS R A w1 A6 w8) := Lib.hid (HF7.out.trans (FrS.below hfl.below))
              cases q with
              | nil =>
                have HBZ : Hid (Blk w8 b8 [.int .i64 0, .int .i64 0, .bool false]) := Lib.hid (HF8.out.blk HB1.out HNF.out)
                have HI6 := Lib.hid HIC.out.next
                clear hfl hqn hqm H7 HF7
                simp only [List.length_nil]
                go_wp2_with ((with_reducible show wpList _ _ _ (Oper.mk _ (Op.store 37 _ _) _ _ _ _ :: _) _ _); refine wpList_storeS sOut rfl _ _ rfl b8 [.int .i64 0, .int .i64 0, .bool false] (ocs (⟨0, x, false⟩ : Out)) rfl rfl HBZ.out rfl rfl (ocs_one _) ?_)
                intro w88 hb8 hg8
                have l8 := Lib.hid (run_loadS sOut b8 _ hb8 rfl)
                have HRS := Lib.hid (RetRI.of (RetOut.fin (u := (⟨0, x, false⟩ : Out)) HG1.out HBE.out HNF.out HBL.out HF8.out H8.out hg8) HI6.out)
                clear hb8 hg8
                go_wp2
                exact bodyPost_ret (v := .agg (ocs (⟨0, x, false⟩ : Out)).toArray) (by simp [results, Try.results42, asAddr, Sem.run_bind, Sem.run_pure, l8.out]) rfl HRS.out
              | cons p0 qs =>
                obtain ⟨gq, hAq, _, hcq, _⟩ := hfl.row.at (j := 0) (by simp [nums])
                have cq0 : w8.cell? ⟨gq, 0, none⟩ = some (.int .i64 (p0 : Int)) := by rw [hcq]; simp [nums]
                obtain ⟨lq, hlq⟩ : ∃ n, n = (p0 :: qs).length := ⟨_, rfl⟩
                have hlq1 : 0 < lq := by rw [hlq]; simp
                have hlq8 : lq ≤ 1000 := by have h1 := HIC.out.wl; have h2 := HBB.out; omega
                have HP0 : Hid (p0 < M7.prs.length) := Lib.hid (hqn p0 (by simp))
                have HR7 : Hid (M7.ready.length + 1 ≤ 200 * (b + 1)) := Lib.hid (by have h1 := HIC.out.rl; omega)
                rw [← hlq, hAq]
                clear hfl hqn hqm H7 HF7 hcq hlq hAq
                go_wp2_with fail
                refine (wakes_calls w8 R M7 A6 c6 H8.out b HIC.out HBB.out p0 HP0.out 0 0 false).mono ?_
                rintro e w9 ⟨z, rfl, A9, c9, h9, hf9⟩
                obtain ⟨M9, hM9⟩ : ∃ X, X = wakesM M7 p0 ⟨0, 0, false⟩ := ⟨_, rfl⟩
                rw [← hM9] at h9
                have HI9 : Hid (RInv M9 (b + 1)) := Lib.hid (by rw [hM9]; exact HIC.out.next.wakes HP0.out _ HR7.out)
                have hits : M9.items = M.items.set k T := by rw [hM9]; show M7.items = _; rw [HM7.out]; rfl
                have hrs9 : M9.rs = M.rs.set k { M.res k with count := cn - 1 } := by rw [hM9]; show M7.rs = _; rw [HM7.out]; rfl
                have hki9 : k < M9.items.length := by rw [hits, List.length_set]; exact HK4.out
                have hkr9 : k < M9.rs.length := by rw [hrs9, List.length_set]; exact HK.out
                have hit9 : M9.its k = T := by unfold RSt.its; rw [hits]; exact its_set HK4.out _
                have hre9 : M9.res k = { M.res k with count := cn - 1 } := by unfold RSt.res; rw [hrs9]; exact res_set HK.out _
                obtain ⟨g9, hA9, hc9, _⟩ := h9.at4 hki9
                obtain ⟨lt, hlt⟩ : ∃ n, n = T.length := ⟨_, rfl⟩
                obtain ⟨m9, hm9⟩ : ∃ n, n = M9.items.length := ⟨_, rfl⟩
                rw [hit9, ← hlt] at hc9
                have hkm9 : k < m9 := by rw [hm9]; exact hki9
                have hm98 : m9 ≤ 8 := by rw [hm9, HI9.out.ni]; exact HI9.out.m8
                have C4 : Hid (KnowC w9 ((A9 (6 + k)).map (·.block)) R 4 (.slice (some ⟨g9, 0, none⟩) m9 (c9 4))) := knowC (by rw [hm9, ← hA9]; exact Mem.head h9 (by decide)) (fun e => Mem.aps h9 _ e.symm)
                have CK : Hid (KnowC w9 ((A9 (6 + k)).map (·.block)) g9 k (.slice (A9 (6 + k)) lt (c9 (6 + k)))) := knowC hc9 (fun e => h9.ap 4 (6 + k) g9 (by omega) (by rw [hA9]; rfl) e.symm)
                have QR : Hid (Row w9 2 1 (A9 (6 + k)) (c9 (6 + k)) lt (wits T)) := Lib.hid (by have := h9.its_row k; rw [hit9, ← hlt] at this; exact this)
                have HROW : Hid (∀ j, (A9 (6 + k)).map (·.block) = some j → j < w9.heap.size) := Lib.hid fun j hj => Mem.lt h9 _ j hj
                have LT9 : Hid (lt ≤ 16) := Lib.hid (by have h1 := HLI.out; have h2 := LI6.out; simp at h1; omega)
                have HLT := Lib.hid hlt
                have H9 := Lib.hid h9
                have HF9 : Hid (FrS R A w1 A9 w9) := Lib.hid (HF8.out.trans hf9)
                have HA9 := Lib.hid hA9
                have HKI9 := Lib.hid hki9
                have HKR9 := Lib.hid hkr9
                have HRE9 := Lib.hid hre9
                clear h9 hf9 hlt hA9 hki9 hkr9 hre9 hit9 hits hrs9 hM9 hm9 hc9 cq0 H8 HF8 HIC HR7
                go_wp2_with fail
                refine region_relL 15 (AppR ((A9 (6 + k)).map (·.block)) 14) (fun ix9 => ([.is (.pointer (some ⟨R, 0, none⟩)), .is (.pointer (some ⟨R, 0, none⟩)), .is (.pointer (some ⟨R, 4, none⟩)), .is (.slice (some ⟨g9, 0, none⟩) m9 (c9 4)), .is (.int .i64 (k : Int)), .is (.pointer (some ⟨R, 0, none⟩)), .is (.pointer (some ⟨R, 0, none⟩)), .is (.pointer (some ⟨R, 4, none⟩)), .is (.slice (some ⟨g9, 0, none⟩) m9 (c9 4)), .is (.int .i64 (k : Int)), .is (.pointer (some ⟨g9, k, none⟩)), .is (.slice (A9 (6 + k)) lt (c9 (6 + k))), .is (.int .i64 z), .pr (Built1 w9 (.int .i64 z)), .pr (Apped w9 2 (A9 (6 + k)) lt (wits T) (.int .i64 z))] : List LD).getD ix9 (.is undef)) [some 108, some 109, some 110, some 111, some 112, some 113, some 114, some 115, some 116, some 117, some 118, some 119, some 120, some 121, some 122] (AppJ w9 ((A9 (6 + k)).map (·.block)) 14) (fun ii hii => ?_) (AppR.refl _ 14) (by kernel_rfl) (by kernel_rfl) (by kernel_rfl) (by kernel_rfl) rfl (AppJ.start w9 _ 14) (fun ii hii => ?_) ?_
                · match ii, hii with
                  | 0, _ => exact LD.keeps_is _ _ _
                  | 1, _ => exact LD.keeps_is _ _ _
                  | 2, _ => exact LD.keeps_is _ _ _
                  | 3, _ => exact LD.keeps_is _ _ _
                  | 4, _ => exact LD.keeps_is _ _ _
                  | 5, _ => exact LD.keeps_is _ _ _
                  | 6, _ => exact LD.keeps_is _ _ _
                  | 7, _ => exact LD.keeps_is _ _ _
                  | 8, _ => exact LD.keeps_is _ _ _
                  | 9, _ => exact LD.keeps_is _ _ _
                  | 10, _ => exact LD.keeps_is _ _ _
                  | 11, _ => exact LD.keeps_is _ _ _
                  | 12, _ => exact LD.keeps_is _ _ _
                  | 13, _ => exact keep_built 13 _ HROW.out
                  | 14, _ => exact keep_apped _ _ _ _ _
                  | n + 15, h => exact absurd h (by show ¬ (n + 15 < 15); omega)
                · match ii, hii with
                  | 0, _ => exact lstep_first (AppR.refl _ 14) rfl (lwant_none rfl) (AppJ.pure (by decide)) 0 (Or.inl rfl) (by kernel_rfl) (fun _ => rfl)
                  | 1, _ => exact lstep_pure (AppR.refl _ 14) rfl (lwant_none rfl) (AppJ.pure (by decide)) (fun LL aa ww cc => ⟨.pointer (some ⟨R, 0, none⟩), by have e0 : aa.tmps.getD 108 undef = .pointer (some ⟨R, 0, none⟩) := cc.slot 0 108 (by kernel_rfl) rfl; simp only [execOp, Act.eval, e0]; go_simp, rfl⟩)
                  | 2, _ => exact lstep_pure (AppR.refl _ 14) rfl (lwant_none rfl) (AppJ.pure (by decide)) (fun LL aa ww cc => ⟨.pointer (some ⟨R, 4, none⟩), by have e0 : aa.tmps.getD 109 undef = .pointer (some ⟨R, 0, none⟩) := cc.slot 1 109 (by kernel_rfl) rfl; simp only [execOp, Act.eval, e0]; go_simp, rfl⟩)
                  | 3, _ => exact lstep_pure (AppR.refl _ 14) rfl (lwant_none rfl) (AppJ.pure (by decide)) (fun LL aa ww cc => ⟨.slice (some ⟨g9, 0, none⟩) m9 (c9 4), by have e0 : aa.tmps.getD 110 undef = .pointer (some ⟨R, 4, none⟩) := cc.slot 2 110 (by kernel_rfl) rfl; have q := C4.out _ cc.world.1; simp only [execOp, Act.eval, e0]; go_simp, rfl⟩)
                  | 4, _ => exact lstep_first (AppR.refl _ 14) rfl (lwant_none rfl) (AppJ.pure (by decide)) 1 (Or.inl rfl) (by kernel_rfl) (fun _ => rfl)
                  | 5, _ => exact lstep_first (AppR.refl _ 14) rfl (lwant_none rfl) (AppJ.pure (by decide)) 0 (Or.inl rfl) (by kernel_rfl) (fun _ => rfl)
                  | 6, _ => exact lstep_pure (AppR.refl _ 14) rfl (lwant_none rfl) (AppJ.pure (by decide)) (fun LL aa ww cc => ⟨.pointer (some ⟨R, 0, none⟩), by have e0 : aa.tmps.getD 113 undef = .pointer (some ⟨R, 0, none⟩) := cc.slot 5 113 (by kernel_rfl) rfl; simp only [execOp, Act.eval, e0]; go_simp, rfl⟩)
                  | 7, _ => exact lstep_pure (AppR.refl _ 14) rfl (lwant_none rfl) (AppJ.pure (by decide)) (fun LL aa ww cc => ⟨.pointer (some ⟨R, 4, none⟩), by have e0 : aa.tmps.getD 114 undef = .pointer (some ⟨R, 0, none⟩) := cc.slot 6 114 (by kernel_rfl) rfl; simp only [execOp, Act.eval, e0]; go_simp, rfl⟩)
                  | 8, _ => exact lstep_pure (AppR.refl _ 14) rfl (lwant_none rfl) (AppJ.pure (by decide)) (fun LL aa ww cc => ⟨.slice (some ⟨g9, 0, none⟩) m9 (c9 4), by have e0 : aa.tmps.getD 115 undef = .pointer (some ⟨R, 4, none⟩) := cc.slot 7 115 (by kernel_rfl) rfl; have q := C4.out _ cc.world.1; simp only [execOp, Act.eval, e0]; go_simp, rfl⟩)
                  | 9, _ => exact lstep_first (AppR.refl _ 14) rfl (lwant_none rfl) (AppJ.pure (by decide)) 1 (Or.inl rfl) (by kernel_rfl) (fun _ => rfl)
                  | 10, _ => exact lstep_pure (AppR.refl _ 14) rfl (lwant_none rfl) (AppJ.pure (by decide)) (fun LL aa ww cc => ⟨.pointer (some ⟨g9, k, none⟩), by have e0 : aa.tmps.getD 116 undef = .slice (some ⟨g9, 0, none⟩) m9 (c9 4) := cc.slot 8 116 (by kernel_rfl) rfl; have e1 : aa.tmps.getD 117 undef = .int .i64 (k : Int) := cc.slot 9 117 (by kernel_rfl) rfl; simp only [execOp, Act.eval, e0, e1]; go_simp, rfl⟩)
                  | 11, _ => exact lstep_pure (AppR.refl _ 14) rfl (lwant_none rfl) (AppJ.pure (by decide)) (fun LL aa ww cc => ⟨.slice (A9 (6 + k)) lt (c9 (6 + k)), by have e0 : aa.tmps.getD 118 undef = .pointer (some ⟨g9, k, none⟩) := cc.slot 10 118 (by kernel_rfl) rfl; have q := CK.out _ cc.world.1; simp only [execOp, Act.eval, e0]; go_simp, rfl⟩)
                  | 12, _ => exact lstep_first (AppR.refl _ 14) rfl (lwant_none rfl) (AppJ.pure (by decide)) 11 (Or.inl rfl) (by kernel_rfl) (fun _ => rfl)
                  | 13, _ => exact lstep_build1 (by decide) rfl (lwant_none rfl) 120 rfl (.int .i64 z) (fun w => build1_i64 w _) (fun LL aa ww cc => cc.slot 12 120 (by kernel_rfl) rfl) rfl
                  | 14, _ => exact lstep_app1 Try.underlying56 Try.infoI64 rfl (by decide) rfl (lwant_none rfl) 119 121 rfl (A9 (6 + k)) (c9 (6 + k)) lt (wits T) (.int .i64 z) rfl QR.out rfl (by have := LT9.out; omega) (fun LL aa ww cc => cc.slot 11 119 (by kernel_rfl) rfl) (fun LL aa ww cc => cc.slot 13 121 (by kernel_rfl) rfl) rfl
                  | n + 15, h => exact absurd h (by show ¬ (n + 15 < 15); omega)
                · intro L9 VV w5 hall hlen hJ5 hok
                  match VV, hlen with
                  | [v0, v1, v2, v3, v4, v5, v6, v7, v8, v9, v10, v11, v12, v13, v14], _ =>
                    obtain rfl : v0 = .pointer (some ⟨R, 0, none⟩) := hok 0 108 rfl
                    obtain rfl : v1 = .pointer (some ⟨R, 0, none⟩) := hok 1 109 rfl
                    obtain rfl : v2 = .pointer (some ⟨R, 4, none⟩) := hok 2 110 rfl
                    obtain rfl : v3 = .slice (some ⟨g9, 0, none⟩) m9 (c9 4) := hok 3 111 rfl
                    obtain rfl : v4 = .int .i64 (k : Int) := hok 4 112 rfl
                    obtain rfl : v5 = .pointer (some ⟨R, 0, none⟩) := hok 5 113 rfl
                    obtain rfl : v6 = .pointer (some ⟨R, 0, none⟩) := hok 6 114 rfl
                    obtain rfl : v7 = .pointer (some ⟨R, 4, none⟩) := hok 7 115 rfl
                    obtain rfl : v8 = .slice (some ⟨g9, 0, none⟩) m9 (c9 4) := hok 8 116 rfl
                    obtain rfl : v9 = .int .i64 (k : Int) := hok 9 117 rfl
                    obtain rfl : v10 = .pointer (some ⟨g9, k, none⟩) := hok 10 118 rfl
                    obtain rfl : v11 = .slice (A9 (6 + k)) lt (c9 (6 + k)) := hok 11 119 rfl
                    obtain rfl : v12 = .int .i64 z := hok 12 120 rfl
                    have p13 := hok 13 121 rfl
                    have p14 := hok 14 122 rfl
                    have p14' : Apped w9 2 (A9 (6 + k)) lt (wits T) (.int .i64 z) v14 w5 := p14
                    obtain ⟨A10, c10, rfl, hrow, hnb⟩ := p14'
                    have HR10 : Hid (Row w5 2 1 A10 c10 (T ++ [z]).length ((T ++ [z]).map (Value.int .i64))) := Lib.hid (by
                      rw [show (T ++ [z]).length = lt + 1 by simp [HLT.out], show (T ++ [z]).map (Value.int .i64) = wits T ++ [.int .i64 z] by simp [wits]]
                      exact hrow)
                    have HG10 : Hid (w9.grownBy w5 ((A9 (6 + k)).map (·.block))) := Lib.hid hJ5.1
                    have HNB : Hid (NewB w9 (A9 (6 + k)) A10) := Lib.hid hnb
                    have HL10 : Hid (lt + 1 = (T ++ [z]).length) := Lib.hid (by simp [HLT.out])
                    clear p13 p14 hrow hnb hJ5 hok hall C4 CK QR HROW
                    simp only [List.zip_cons_cons, List.zip_nil_right, putsL]
                    go_simp
                    go_wp2_with ((with_reducible show wpList _ _ _ (Oper.mk _ (Op.store _ _ _) _ _ _ _ :: _) _ _); refine wpList_ritems rfl 56 _ _ rfl H9 HF9 HKI9.out HA9 HL10.out HR10 HG10 HNB rfl rfl s1Words ?_)
                    intro w11 H11 HF11
                    obtain ⟨M11, hM11⟩ : ∃ X, X = ({ M9 with items := M9.items.set k (T ++ [z]) } : RSt) := ⟨_, rfl⟩
                    obtain ⟨A11, hA11⟩ : ∃ X, X = upA A9 (6 + k) A10 := ⟨_, rfl⟩
                    obtain ⟨c11, hc11⟩ : ∃ X, X = upC c9 (6 + k) c10 := ⟨_, rfl⟩
                    rw [← hM11, ← hA11, ← hc11] at H11
                    rw [← hA11] at HF11
                    have hk11 : k < M11.rs.length := by rw [hM11]; exact HKR9.out
                    obtain ⟨ga, hga, hca, _⟩ := H11.out.at1r hk11
                    obtain ⟨ma, hma⟩ : ∃ n, n = M11.rs.length := ⟨_, rfl⟩
                    have hkma : k < ma := by rw [hma]; exact hk11
                    have hma8 : ma ≤ 8 := by rw [hma, hM11]; exact HI9.out.m8
                    have c1 : w11.cell? ⟨R, 1, none⟩ = some (.slice (some ⟨ga, 0, none⟩) ma (c11 1)) := by rw [hma, ← hga]; exact Mem.head H11.out (by decide)
                    obtain ⟨cv, hcv⟩ : ∃ x, x = cn - 1 := ⟨_, rfl⟩
                    have hcv16 : 0 ≤ cv ∧ cv ≤ 16 := by have h1 := HC0.out; omega
                    obtain ⟨hcv0, hcv1⟩ := hcv16
                    have ck1 : w11.cell? ⟨ga, k * 3 + 1, none⟩ = some (.int .i64 cv) := by rw [hca 1 _ rfl, show M11.res k = M9.res k by rw [hM11]; rfl, HRE9.out, hcv]
                    have HM11 := Lib.hid hM11
                    have HGA := Lib.hid hga
                    have HK11 := Lib.hid hk11
                    have HCV := Lib.hid hcv
                    clear hM11 hA11 hc11 hga hk11 hma hcv hca H9 HF9 HR10 HG10 HNB HL10
                    go_wp2_with ((with_reducible show wpList _ _ _ (Oper.mk _ (Op.store _ _ _) _ _ _ _ :: _) _ _); refine wpList_rcount rfl 3 _ _ rfl H11 HF11 (cv + 1) HK11.out HGA rfl rfl s1Int ?_)
                    intro w12 H12 HF12
                    have HEQ : Hid (cntM M11 k (cv + 1) = ciM M9 k (cv + 1) (T ++ [z])) := Lib.hid (by rw [HM11.out]; rfl)
                    have HIF : Hid (RInv (ciM M9 k (cv + 1) (T ++ [z])) (b + 1)) := Lib.hid (HI9.out.ci HKR9.out (by rw [HRE9.out]; show 0 ≤ cv + 1 ∧ cv + 1 ≤ (M.res k).most; have h1 := HC0.out; have h2 := HCM.out; have h3 := HCV.out; omega) (fun _ => by have h1 := HLEN.out; have h2 := HLI.out; have h3 := HCV.out; simp at h2 ⊢; omega) (by have h1 := HLT.out; have h2 := HLI.out; have h3 := LI6.out; simp at h2 ⊢; omega))
                    rw [HEQ.out] at H12
                    have HBZ : Hid (Blk w12 b8 [.int .i64 0, .int .i64 0, .bool false]) := Lib.hid (HF12.out.blk HB1.out HNF.out)
                    clear H11 HF11 c1 ck1 HEQ
                    go_wp2_with ((with_reducible show wpList _ _ _ (Oper.mk _ (Op.store 37 _ _) _ _ _ _ :: _) _ _); refine wpList_storeS sOut rfl _ _ rfl b8 [.int .i64 0, .int .i64 0, .bool false] (ocs (⟨0, x, false⟩ : Out)) rfl rfl HBZ.out rfl rfl (ocs_one _) ?_)
                    intro w88 hb8 hg8
                    have l8 := Lib.hid (run_loadS sOut b8 _ hb8 rfl)
                    have HRS := Lib.hid (RetRI.of (RetOut.fin (u := (⟨0, x, false⟩ : Out)) HG1.out HBE.out HNF.out HBL.out HF12.out H12.out hg8) HIF.out)
                    clear hb8 hg8
                    go_wp2
                    exact bodyPost_ret (v := .agg (ocs (⟨0, x, false⟩ : Out)).toArray) (by simp [results, Try.results42, asAddr, Sem.run_bind, Sem.run_pure, l8.out]) rfl HRS.out
        · have hk22 : (ki != 2) = true := by simpa using hk2
          have HBZ : Hid (Blk w2 b8 [.int .i64 0, .int .i64 0, .bool false]) := Lib.hid (HF2.out.blk HB1.out HNF.out)
          have HI6 := Lib.hid HI.out.next
          clear hk0 hk2
          go_wp2_with ((with_reducible show wpList _ _ _ (Oper.mk _ (Op.store 37 _ _) _ _ _ _ :: _) _ _); refine wpList_storeS sOut rfl _ _ rfl b8 [.int .i64 0, .int .i64 0, .bool false] (ocs ok) rfl rfl HBZ.out rfl rfl (ocs_one _) ?_)
          intro w8 hb8 hg8
          have l8 := Lib.hid (run_loadS sOut b8 _ hb8 rfl)
          have HRS := Lib.hid (RetRI.of (RetOut.fin (u := ok) HG1.out HBE.out HNF.out HBL.out HF2.out H2.out hg8) HI6.out)
          clear hb8 hg8
          go_wp2
          exact bodyPost_ret (v := .agg (ocs ok).toArray) (by simp [results, Try.results42, asAddr, Sem.run_bind, Sem.run_pure, l8.out]) rfl HRS.out
  · have he1 : (ea != 0) = true := by simpa using he
    have he2 : (ea == 0) = false := by simpa using he
    have HBZ : Hid (Blk w2 b8 [.int .i64 0, .int .i64 0, .bool false]) := Lib.hid (HF2.out.blk HB1.out HNF.out)
    have HI6 := Lib.hid HI.out.next
    clear he
    go_wp2_with ((with_reducible show wpList _ _ _ (Oper.mk _ (Op.store 37 _ _) _ _ _ _ :: _) _ _); refine wpList_storeS sOut rfl _ _ rfl b8 [.int .i64 0, .int .i64 0, .bool false] (ocs (errO ea)) rfl rfl HBZ.out rfl rfl (ocs_one _) ?_)
    intro w8 hb8 hg8
    have l8 := Lib.hid (run_loadS sOut b8 _ hb8 rfl)
    have HRS := Lib.hid (RetRI.of (RetOut.fin (u := errO ea) HG1.out HBE.out HNF.out HBL.out HF2.out H2.out hg8) HI6.out)
    clear hb8 hg8
    go_wp2
    exact bodyPost_ret (v := .agg (ocs (errO ea)).toArray) (by simp [results, Try.results42, asAddr, Sem.run_bind, Sem.run_pure, l8.out]) rfl HRS.out
end Go.Proofs.Ytgeffkdobnipgaa
/- The document's set: Give's pieces: two appends in one drawn region, the second onto what the first made; a new variable and a queue in one that draws. -/
namespace Nac
open Go Go.RowKit
section
variable {P : Program} {ops : Array Oper} {Q : Exit → Act → World → Prop} {R : (Nat → Bool) → Nat → World → World → Prop} {D : Nat → KD} {J : (Nat → Bool) → World → Prop} {a0 : Act} {i : Nat} {o : Oper}
theorem kstep_val (ho : ops[i]? = some o) (hw : ∀ L a w, KCtx ops R D J a0 i L a w → Region.wanted o (yielded ops a.tmps) = true)
    (h : ∀ L a w, KCtx ops R D J a0 i L a w → ∃ v w', (execOp a.eval o).run P w = .ok (.value v) w' ∧ (D i).ok (upd L i) v w' ∧ R L i w w' ∧ J (upd L i) w') : KStep P ops Q R D J a0 i := by
  intro o' ho' L a w c
  rw [ho] at ho'
  obtain rfl := Option.some.inj ho'
  rw [if_pos (hw L a w c)]
  obtain ⟨v, w', hr, hv, hR, hj⟩ := h L a w c
  unfold Oper.wp
  rw [hr]
  exact ⟨v, rfl, hv, hR, hj⟩
end
/-- until operation ia has run -/
def offKD (ia : Nat) (p : Value → World → Prop) : KD := .pr fun L v w => L ia = true ∨ p v w
def AftR (ia : Nat) (_ : (Nat → Bool)) (k : Nat) (w w' : World) : Prop := k ≠ ia → Below w.heap.size w w'
def AftJ (W : World) (ic ia : Nat) (L : Nat → Bool) (w : World) : Prop := Below W.heap.size W w ∧ (L ia = true → L ic = true)
theorem AftR.refl (ia : Nat) (L : Nat → Bool) (k : Nat) (w : World) : AftR ia L k w w := fun _ => Below.refl _ _
theorem upd_mono {L : Nat → Bool} {k j : Nat} (h : L j = true) : upd L k j = true := by
  unfold upd
  split
  · rfl
  · exact h
theorem upd_self (L : Nat → Bool) (k : Nat) : upd L k k = true := if_pos rfl
theorem upd_off {L : Nat → Bool} {k j : Nat} (h : j ≠ k) : upd L k j = L j := if_neg h
theorem AftJ.pure {W : World} {ic ia i : Nat} (h : i ≠ ia) (L : Nat → Bool) (w : World) (hj : AftJ W ic ia L w) : AftJ W ic ia (upd L i) w :=
  ⟨hj.1, fun e => upd_mono (hj.2 (by rw [upd_off (fun e' => h e'.symm)] at e; exact e))⟩
theorem AftJ.start (W : World) (ic ia : Nat) : AftJ W ic ia (fun _ => false) W.drew := ⟨⟨rfl, rfl, rfl, Nat.le_refl _, fun _ _ => rfl⟩, fun e => by cases e⟩
theorem keep_off {ia i : Nat} (p : Value → World → Prop) (hm : ∀ v w w', p v w → Below w.heap.size w w' → p v w') : KD.keeps (AftR ia) i (offKD ia p) := by
  rintro L k v w w' _ _ h hR
  by_cases hk : k = ia
  · subst hk; exact .inl (upd_self L k)
  · rcases h with h | h
    · exact .inl (upd_mono h)
    · exact .inr (hm v w w' h (hR hk))
theorem keep_last {ia : Nat} (p : Value → World → Prop) (hm : ∀ v w w', p v w → Below w.heap.size w w' → p v w') : KD.keeps (AftR ia) ia (.pr fun _ v w => p v w) := by
  rintro L k v w w' h1 h2 h hR
  exact hm v w w' h (hR fun e => by subst e; rw [h1] at h2; cases h2)
end Nac
namespace Go.Proofs.Ytgeffkdobnipgaa
open Go.RowKit Nac Nac.Procs
theorem Built1.mono {W : World} {u : Value} (v : Value) (w w' : World) (h : Built1 W u v w) (hb : Below w.heap.size w w') : Built1 W u v w' := by
  obtain ⟨g, c2, rfl, hc, hg⟩ := h
  refine ⟨g, c2, rfl, ?_, hg⟩
  rw [World.cell?_of_block (hb.block g (cell_lt hc))]
  exact hc
section
variable {ops : Array Oper} {Q : Exit → Act → World → Prop} {D : Nat → KD} {a0 : Act} {i ia ic : Nat} {o : Oper} {W : World}
theorem kstep_build0 {T E : TypeId} (hi : i ≠ ia) (ho : ops[i]? = some o) (hw : ∀ L a w, KCtx ops (AftR ia) D (AftJ W ic ia) a0 i L a w → Region.wanted o (yielded ops a.tmps) = true)
    (hop : o.op = .buildSlice T 0 #[]) (hr : ∀ w, (Instr.buildSlice T 0 #[]).run Try.prog w = .ok (.slice (some ⟨w.heap.size, 0, none⟩) 0 0) (w.alloc (.cells #[] E)))
    (hD : D i = offKD ia (Empt W E)) : KStep Try.prog ops Q (AftR ia) D (AftJ W ic ia) a0 i :=
  kstep_val ho hw fun L a w c => by
    have hb : Below w.heap.size w (w.alloc (.cells #[] E)) := (Below.refl _ _).alloc (Nat.le_refl _) _
    refine ⟨.slice (some ⟨w.heap.size, 0, none⟩) 0 0, w.alloc (.cells #[] E), by simp [execOp, hop, hr], by rw [hD]; exact .inr (empt_new w E c.world.1.size), fun _ => hb, AftJ.pure hi L _ ⟨c.world.1.alloc c.world.1.size _, c.world.2⟩⟩
theorem kstep_build1 {T E : TypeId} (hi : i ≠ ia) (ho : ops[i]? = some o) (hw : ∀ L a w, KCtx ops (AftR ia) D (AftJ W ic ia) a0 i L a w → Region.wanted o (yielded ops a.tmps) = true)
    (x : Tmp) (hop : o.op = .buildSlice T 1 #[(0, .tmp x)]) (u : Value)
    (hr : ∀ w, (Instr.buildSlice T 1 #[(0, u)]).run Try.prog w = .ok (.slice (some ⟨w.heap.size, 0, none⟩) 1 1) (w.alloc (.cells #[u] E)))
    (hx : ∀ L a w, KCtx ops (AftR ia) D (AftJ W ic ia) a0 i L a w → a.tmps.getD x undef = u) (hD : D i = offKD ia (Built1 W u)) : KStep Try.prog ops Q (AftR ia) D (AftJ W ic ia) a0 i :=
  kstep_val ho hw fun L a w c => by
    have hb : Below w.heap.size w (w.alloc (.cells #[u] E)) := (Below.refl _ _).alloc (Nat.le_refl _) _
    refine ⟨.slice (some ⟨w.heap.size, 0, none⟩) 1 1, w.alloc (.cells #[u] E), ?_, ?_, fun _ => hb, AftJ.pure hi L _ ⟨c.world.1.alloc c.world.1.size _, c.world.2⟩⟩
    · have e := hx L a w c
      unfold execOp
      simp only [hop, List.map_toArray, List.map_cons, List.map_nil, Act.eval, e, Sem.run_bind, hr, Result.andThen_ok, Sem.run_pure]
    · rw [hD]
      exact .inr ⟨w.heap.size, 1, rfl, by rw [World.cell?_alloc_at _ _ _ _ rfl]; rfl, c.world.1.size⟩
theorem kstep_appF {T E : TypeId} {z : Value} {bytes : Nat} (hi : ic ≠ ia) (hT : Try.prog.underlying T = some (.slice E)) (hinfo : (Try.prog.info? E).map (fun i => (i.zero, i.size, i.bytes)) = some (some z, 1, bytes)) (hz1 : z.cells.size = 1) (hby : bytes ≤ 8)
    (ho : ops[ic]? = some o) (hw : ∀ L a w, KCtx ops (AftR ia) D (AftJ W ic ia) a0 ic L a w → Region.wanted o (yielded ops a.tmps) = true) (s x : Tmp)
    (hop : o.op = .call { callee := .builtin .append, args := #[.tmp s, .tmp x], argTypes := #[T, T] })
    (A2 : Option Addr) (m c2 : Nat) (news : List Value) (hl : news.length = m) (h1 : ∀ u ∈ news, u.oneCell' = true) (hm : m ≤ 1000000)
    (hs : ∀ L a w, KCtx ops (AftR ia) D (AftJ W ic ia) a0 ic L a w → L ia = true ∨ Empt W E (a.tmps.getD s undef) w)
    (hx : ∀ L a w, KCtx ops (AftR ia) D (AftJ W ic ia) a0 ic L a w → a.tmps.getD x undef = .slice A2 m c2) (hsrc : ∀ w, Below W.heap.size W w → Src w A2 news) (hD : D ic = offKD ia (Copied W E news)) : KStep Try.prog ops Q (AftR ia) D (AftJ W ic ia) a0 ic := by
  subst hl
  refine kstep_val ho hw fun L a w c => ?_
  rcases hs L a w c with hs | ⟨g, hv, hrow, hg⟩
  · have := c.world.2 hs
    rw [c.fresh] at this
    cases this
  have hmul : news.length * bytes ≤ news.length * 8 := Nat.mul_le_mul_left _ hby
  obtain ⟨A', c', w', hr, h2, h3, h5⟩ := run_appF (P := Try.prog) w T o.type E z 1 bytes hT hinfo hz1 (by decide) g hrow A2 news.length c2 news (by omega) (hsrc w c.world.1) h1 (by omega) (by unfold maxLen; omega)
  have hb : Below w.heap.size w w' := (Below.refl _ _).grown h3 (Nat.le_refl _) fun k e => by cases e
  refine ⟨.slice A' news.length c', w', ?_, ?_, fun _ => hb, AftJ.pure hi L _ ⟨c.world.1.grown h3 c.world.1.size (fun k e => (by cases e)), c.world.2⟩⟩
  · have e1 := hx L a w c
    unfold execOp
    simp only [hop, resolve, invoke, builtin, Sem.run_bind, Sem.run_pure, Result.andThen_ok, List.map_toArray, List.map_cons, List.map_nil, Act.eval, e1, hv, hr]
  · rw [hD]
    refine .inr ⟨A', c', rfl, h2, fun k hk => ?_⟩
    rcases h5 with h5 | h5
    · rw [h5] at hk; injection hk with hk; omega
    · rw [h5] at hk; injection hk with hk; have := c.world.1.size; omega
theorem kstep_app1 {T E : TypeId} {z : Value} {bytes : Nat} (hT : Try.prog.underlying T = some (.slice E)) (hinfo : (Try.prog.info? E).map (fun i => (i.zero, i.size, i.bytes)) = some (some z, 1, bytes)) (hz1 : z.cells.size = 1) (hby : bytes ≤ 8)
    (ho : ops[ia]? = some o) (hw : ∀ L a w, KCtx ops (AftR ia) D (AftJ W ic ia) a0 ia L a w → Region.wanted o (yielded ops a.tmps) = true) (s x : Tmp)
    (hop : o.op = .call { callee := .builtin .append, args := #[.tmp s, .tmp x], argTypes := #[T, T] })
    (xs : List Value) (u : Value) (hu1 : u.oneCell' = true) (hlen : xs.length ≤ 1000000) (hic : (preds ops 3 ia).contains ic = true)
    (hs : ∀ L a w, KCtx ops (AftR ia) D (AftJ W ic ia) a0 ia L a w → L ia = true ∨ Copied W E xs (a.tmps.getD s undef) w)
    (hx : ∀ L a w, KCtx ops (AftR ia) D (AftJ W ic ia) a0 ia L a w → L ia = true ∨ Built1 W u (a.tmps.getD x undef) w) (hD : D ia = .pr fun _ v w => Copied W E (xs ++ [u]) v w) : KStep Try.prog ops Q (AftR ia) D (AftJ W ic ia) a0 ia := by
  obtain ⟨ti, hi, hz, hs1, hb1⟩ := info_parts hinfo
  refine kstep_val ho hw fun L a w cc => ?_
  rcases hs L a w cc with e | ⟨A, c, hsv, hown, hfr⟩
  · rw [cc.fresh] at e; cases e
  rcases hx L a w cc with e | ⟨g, c2, hxv, hsrc, hg⟩
  · rw [cc.fresh] at e; cases e
  have eb : Value.ownBlock (.slice A xs.length c) = A.map (·.block) := by cases A <;> rfl
  have hmul : (xs.length + 1) * bytes ≤ (xs.length + 1) * 8 := Nat.mul_le_mul_left _ hby
  obtain ⟨v', w', hr, h2, h3, _, h5⟩ := run_append_own_at (P := Try.prog) w 0 T o.type E ti z 1 bytes hT hi hz hs1 hb1 hz1 (by decide) _ xs.length xs hown ⟨g, 0, none⟩ 1 c2 [u] rfl
    (fun j v hv => by
      have hj : j = 0 := by have := (List.getElem?_eq_some_iff.1 hv).1; simpa using this
      subst hj
      simp at hv
      subst hv
      simpa [Addr.add] using hsrc) (fun v hv => by simp at hv; subst hv; exact hu1) (by unfold maxLen; omega) (by omega) (Nat.zero_le _)
  obtain ⟨A', c', rfl⟩ := own_formI h2
  have eb' : Value.ownBlock (.slice A' (xs.length + 1) c') = A'.map (·.block) := by cases A' <;> rfl
  rw [eb] at h3 h5
  rw [eb'] at h5
  refine ⟨.slice A' (xs.length + 1) c', w', ?_, ?_, fun e => absurd rfl e, ⟨cc.world.1.grown h3 cc.world.1.size fun k e => hfr k e, fun _ => upd_mono (cc.ahead ic (by simpa using hic))⟩⟩
  · unfold execOp
    simp only [hop, resolve, invoke, builtin, Sem.run_bind, Sem.run_pure, Result.andThen_ok, List.map_toArray, List.map_cons, List.map_nil, Act.eval, hsv, hxv, hr]
  · rw [hD]
    have hl : (xs ++ [u]).length = xs.length + 1 := by simp
    refine ⟨A', c', by rw [hl], by rw [hl]; exact h2, fun k hk => ?_⟩
    rcases h5 with h5 | h5
    · exact hfr k (by rw [← h5]; exact hk)
    · rw [h5] at hk; injection hk with hk; have := cc.world.1.size; omega
end
/-- a queue that was read: its processes, in a new row -/
def qlVD (B n m : Nat) : VD := .pr (fun v w => ∃ (q : List Nat) (A : Option Addr) (c : Nat), v = .slice A q.length c ∧ Row w 3 1 A c q.length (nums q) ∧ (∀ p ∈ q, p < n) ∧ q.length ≤ m ∧ ∀ g, A.map (·.block) = some g → B ≤ g)
  (fun _ _ _ ⟨q, A, c, h1, h2, h3, h4, h5⟩ hb => ⟨q, A, c, h1, h2.below hb, h3, h4, h5⟩)
/-- a new block, from B on -/
def alVD (T : TypeId) (cs : List Value) (B : Nat) : VD := .pr (fun v w => ∃ b, v = .pointer (some ⟨b, 0, none⟩) ∧ B ≤ b ∧ w.heap[b]? = some (.cells cs.toArray T (0, 0))) (fun _ _ _ ⟨b, h1, h2, h3⟩ hb => ⟨b, h1, h2, (hb.block b (Array.getElem?_eq_some_iff.1 h3).1).trans h3⟩)
section
variable {ops : Array Oper} {Q : Exit → Act → World → Prop} {D : Nat → VD} {a0 : Act} {i : Nat} {o : Oper} {W0 : World} {T : TypeId}
theorem mstep_allocT (cs : List Value) (hz : ((Try.prog.info? T).bind (·.zero)) = some (.agg cs.toArray)) (ho : ops[i]? = some o) (hw : ∀ a w, MCtx ops D a0 W0 i a w → Region.wanted o (yielded ops a.tmps) = true) (hop : o.op = .alloc T) (B : Nat) (hB : B ≤ W0.heap.size) (hD : D i = alVD T cs B) : MStep Try.prog ops Q D a0 W0 i := by
  have hzv : ∀ w, (zeroValue T).run Try.prog w = .ok (.agg cs.toArray) w := fun w => by
    cases hi : Try.prog.info? T with
    | none => simp [hi] at hz
    | some i =>
      simp [hi] at hz
      simp [zeroValue, typeInfo, hi, hz]
  refine mstep_val ho hw fun a w c => ?_
  have hr : (Instr.alloc T true (.tuple #[])).run Try.prog w = .ok (.pointer (some ⟨w.heap.size, 0, none⟩)) (w.alloc (.cells cs.toArray T)) := by
    simp [Instr.alloc, hzv, newVar, newRow, Value.cells]
  refine ⟨_, _, by unfold execOp; simp only [hop, Sem.run_bind, hr, Result.andThen_ok]; rfl, ?_, (Below.refl _ _).alloc (Nat.le_refl _) _⟩
  rw [hD]
  exact ⟨w.heap.size, rfl, Nat.le_trans hB c.below.size, heap_alloc_new w _⟩
end
/-- a row whose block is none of the set's is kept -/
theorem FrS.row {R : Nat} {A A' : Nat → Option Addr} {w w' : World} (hf : FrS R A w A' w') {E : TypeId} {sz : Nat} {Aq : Option Addr} {cq n : Nat} {L : List Value} (hr : Row w E sz Aq cq n L) (hn : ∀ g, Aq.map (·.block) = some g → ¬ Foot R A g) : Row w' E sz Aq cq n L := by
  refine ⟨hr.1, ?_⟩
  rcases hr.2 with h1 | ⟨g, cap, cur, hv, hb, hg, rest⟩
  · exact .inl h1
  · refine .inr ⟨g, cap, cur, hv, hb, ?_, rest⟩
    injection hv with h1
    have hlt : g < w.heap.size := (Array.getElem?_eq_some_iff.1 hg).1
    rw [hf.block g hlt (hn g (by rw [h1]; rfl))]
    exact hg
end Go.Proofs.Ytgeffkdobnipgaa
