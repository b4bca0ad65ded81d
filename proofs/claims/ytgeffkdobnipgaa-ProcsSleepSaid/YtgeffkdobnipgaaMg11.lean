/- Bundle 11 of the texts RefGi, RefMay. -/
import Derived.Test.YtgeffkdobnipgaaMg10
import Derived.Test.YtgeffkdobnipgaaMg7
/- The document's set: Give. -/
namespace Go.Proofs.Ytgeffkdobnipgaa
open Go.RowKit Nac Nac.Procs
theorem row_ne_alloc {w : World} {E T : TypeId} {sz : Nat} {A : Option Addr} {c n : Nat} {L : List Value} {b : Nat} {cs : Array Value} {x : Nat × Nat} (hr : Row w E sz A c n L) (hh : w.heap[b]? = some (.cells cs T x)) (hne : ¬ E = T) : A.map (·.block) = none ∨ A.map (·.block) ≠ some b := by
  rcases hr.2 with ⟨hv, _⟩ | ⟨g, cap, cur, hv, hb, hg, rest⟩
  · cases A with
    | none => exact .inl rfl
    | some a => cases hv
  · right
    injection hv with h1
    rw [h1]
    intro e
    injection e with e
    have e : g = b := e
    rw [e, hh] at hg
    injection hg with hg
    injection hg with _ hg _
    exact hne hg.symm
/-- while those who wait for a signal are woken: j are -/
def RGv (w1 : World) (R : Nat) (A : Nat → Option Addr) (n b j : Nat) (Aq : Option Addr) (cq lq : Nat) (q : List Nat) (wr : World) : Prop := ∃ M' A' c', RefM wr R M' A' c' ∧ FrS R A w1 A' wr ∧ RInv M' b ∧ M'.ready.length + 100 ≤ 200 * b + j ∧ M'.prs.length = n ∧ Row wr 3 1 Aq cq lq (nums q) ∧ ∀ g, Aq.map (·.block) = some g → ¬ Foot R A' g
set_option maxRecDepth 100000 in
set_option maxHeartbeats 1000000 in
theorem rgive_ref (w : World) (R : Nat) (M : RSt) (A : Nat → Option Addr) (c : Nat → Nat) (h : RefM w R M A c) (b : Nat) (hI : RInv M b) (hb : b < 100) (r v ticks e : Int) (hea : askedI M true r ticks = e) (he : e ≠ 0) :
    Calls Try.prog 43 #[.pointer (some ⟨R, 0, none⟩), .int .i64 r, .int .i64 v, .int .i64 ticks] w (RetRI w R A b isO) := by
  have H := Lib.hid h
  have HI := Lib.hid hI
  have HBB : Hid (b ≤ 100) := Lib.hid (Nat.le_of_lt hb)
  have HBX : Hid (b + 1 ≤ 100) := Lib.hid hb
  clear h hI hb
  have HEA := Lib.hid hea
  have he1 : (e != 0) = true := by simpa using he
  have he2 : (e == 0) = false := by simpa using he
  clear hea he
  go_enter Try.func43, Try.ntmps43
  go_wp2_with ((with_reducible show wpList _ _ _ (Oper.mk _ (Op.alloc 37) _ _ _ _ :: _) _ _); refine wpList_allocS _ zOut rfl rfl ?_)
  intro w1 hbk hg1 hs1
  obtain ⟨b8, hb8⟩ : ∃ b, b = w.heap.size := ⟨_, rfl⟩
  rw [← hb8] at hbk ⊢
  have HNF : Hid (¬ Foot R A b8) := Lib.hid (Mem.notFoot H.out (by omega))
  have HBL : Hid (b8 < w1.heap.size) := Lib.hid (by omega)
  have HB1 := Lib.hid hbk
  have HG1 := Lib.hid hg1
  have HBE : Hid (w.heap.size ≤ b8) := Lib.hid (by omega)
  have H1 : Hid (RefM w1 R M A c) := Lib.hid (Mem.apart H.out hg1 fun k e => by cases e)
  clear hbk hg1 hs1 hb8 H
  go_wp2_with fail
  refine (asked_calls w1 R M A c H1.out b HI.out HBB.out true _ ticks).mono ?_
  rintro e w2 ⟨rfl, d, hw2⟩
  have H2 : Hid (RefM w2 R M A c) := Lib.hid (by rw [hw2]; exact H1.out.drewN d)
  have HF2 : Hid (FrS R A w1 A w2) := Lib.hid (by rw [hw2]; exact (FrS.refl R A w1).drewN d)
  rw [HEA.out]
  clear hw2 H1
  have HBZ : Hid (Blk _ b8 [.int .i64 0, .int .i64 0, .bool false]) := Lib.hid (HF2.out.blk HB1.out HNF.out)
  go_wp2_with ((with_reducible show wpList _ _ _ (Oper.mk _ (Op.store 37 _ _) _ _ _ _ :: _) _ _); refine wpList_storeS sOut rfl _ _ rfl b8 [.int .i64 0, .int .i64 0, .bool false] (ocs (errO e)) rfl rfl HBZ.out rfl rfl (ocs_one _) ?_)
  intro w88 hb8 hg8
  have l8 := Lib.hid (run_loadS sOut b8 _ hb8 rfl)
  have HRS := Lib.hid (RetRI.of (RetOut.fin (u := (errO e)) HG1.out HBE.out HNF.out HBL.out HF2.out H2.out hg8) HI.out.next)
  clear hb8 hg8
  go_wp2
  exact bodyPost_ret (v := .agg (ocs (errO e)).toArray) (by simp [results, Try.results43, asAddr, Sem.run_bind, Sem.run_pure, l8.out]) rfl HRS.out
set_option maxRecDepth 100000 in
set_option maxHeartbeats 1000000 in
theorem rgive_sem (w : World) (R : Nat) (M : RSt) (A : Nat → Option Addr) (c : Nat → Nat) (h : RefM w R M A c) (b : Nat) (hI : RInv M b) (hb : b < 100) (k p : Nat) (v ticks : Int) (hea : askedI M true k ticks = 0) (hrun : rrun M = p) (hpn : p < M.prs.length) (hk : k < M.rs.length) (ki cn mo : Int) (hki : ki = (M.res k).kind) (hcn : cn = (M.res k).count) (hmo : mo = (M.res k).most) (hk0 : ki = 0) :
    Calls Try.prog 43 #[.pointer (some ⟨R, 0, none⟩), .int .i64 (k : Int), .int .i64 v, .int .i64 ticks] w (RetRI w R A b isO) := by
  have H := Lib.hid h
  have HI := Lib.hid hI
  have HBB : Hid (b ≤ 100) := Lib.hid (Nat.le_of_lt hb)
  have HBX : Hid (b + 1 ≤ 100) := Lib.hid hb
  clear h hI hb
  have HEA := Lib.hid hea
  have HRUN := Lib.hid hrun
  have HPN := Lib.hid hpn
  have HK := Lib.hid hk
  have HKI := Lib.hid hki
  have HCN := Lib.hid hcn
  have HMO := Lib.hid hmo
  have HCB : Hid (0 ≤ cn ∧ cn ≤ mo ∧ mo ≤ 16 ∧ 1 ≤ mo) := Lib.hid (by
    have h1 := HI.out.cnt k hk
    have h2 := HI.out.kd k hk
    rw [hcn, hmo]
    exact ⟨h1.1, h1.2.1, h1.2.2, h2.2.2⟩)
  clear hea hrun hpn hk hki hcn hmo
  have HK0 := Lib.hid hk0
  clear hk0
  go_enter Try.func43, Try.ntmps43
  go_wp2_with ((with_reducible show wpList _ _ _ (Oper.mk _ (Op.alloc 37) _ _ _ _ :: _) _ _); refine wpList_allocS _ zOut rfl rfl ?_)
  intro w1 hbk hg1 hs1
  obtain ⟨b8, hb8⟩ : ∃ b, b = w.heap.size := ⟨_, rfl⟩
  rw [← hb8] at hbk ⊢
  have HNF : Hid (¬ Foot R A b8) := Lib.hid (Mem.notFoot H.out (by omega))
  have HBL : Hid (b8 < w1.heap.size) := Lib.hid (by omega)
  have HB1 := Lib.hid hbk
  have HG1 := Lib.hid hg1
  have HBE : Hid (w.heap.size ≤ b8) := Lib.hid (by omega)
  have H1 : Hid (RefM w1 R M A c) := Lib.hid (Mem.apart H.out hg1 fun k e => by cases e)
  clear hbk hg1 hs1 hb8 H
  go_wp2_with fail
  refine (asked_calls w1 R M A c H1.out b HI.out HBB.out true _ ticks).mono ?_
  rintro e w2 ⟨rfl, d, hw2⟩
  have H2 : Hid (RefM w2 R M A c) := Lib.hid (by rw [hw2]; exact H1.out.drewN d)
  have HF2 : Hid (FrS R A w1 A w2) := Lib.hid (by rw [hw2]; exact (FrS.refl R A w1).drewN d)
  rw [HEA.out]
  clear hw2 H1
  obtain ⟨g, hA, hc, _⟩ := H2.out.at1r HK.out
  obtain ⟨m, hm⟩ : ∃ m, m = M.rs.length := ⟨_, rfl⟩
  have hm8 : m ≤ 8 := by rw [hm]; exact HI.out.m8
  have hkm : k < m := by rw [hm]; exact HK.out
  obtain ⟨np, hnp⟩ : ∃ m, m = M.prs.length := ⟨_, rfl⟩
  obtain ⟨nw, hnw⟩ : ∃ m, m = M.wts.length := ⟨_, rfl⟩
  have HD : Hid (RefM w2.drew R M A c) := Lib.hid (H2.out.drewN 1)
  have C1 : Hid (∀ w', Below w2.drew.heap.size w2.drew w' → w'.cell? ⟨R, 1, none⟩ = some (.slice (some ⟨g, 0, none⟩) m (c 1))) := Lib.hid fun w' hb' => by rw [hm, ← hA]; exact Mem.head (Mem.below HD.out hb') (by decide)
  have CK : Hid (∀ w', Below w2.drew.heap.size w2.drew w' → w'.cell? ⟨g, k * 3, none⟩ = some (.int .i64 ki) ∧ w'.cell? ⟨g, k * 3 + 1, none⟩ = some (.int .i64 cn) ∧ w'.cell? ⟨g, k * 3 + 2, none⟩ = some (.int .i64 mo)) := Lib.hid fun w' hb' => by
    obtain ⟨g', hA', hc', _⟩ := (show RefM w' R M A c from Mem.below HD.out hb').at1r HK.out
    rw [hA] at hA'
    injection hA' with e
    injection e with e
    subst e
    exact ⟨by rw [HKI.out]; exact hc' 0 _ rfl, by rw [HCN.out]; exact hc' 1 _ rfl, by rw [HMO.out]; exact hc' 2 _ rfl⟩
  have QC : Hid (∀ w', Below w2.drew.heap.size w2.drew w' → Calls Try.prog 54 #[.pointer (some ⟨R, 0, none⟩), .int .i64 (k : Int)] w' fun e w'' => ∃ v, e = .returned v ∧ (qlVD w2.heap.size np nw).ok v w'' ∧ Below w'.heap.size w' w'') := Lib.hid fun w' hb' => by
    refine (rqueue_calls w' R M A c (Mem.below HD.out hb') b HI.out HBB.out (k : Int) (Int.natCast_nonneg _)).mono ?_
    rintro e w'' ⟨q, ⟨Aq, cq, rfl, hfl⟩, hqn, hqm⟩
    exact ⟨_, rfl, ⟨q, Aq, cq, rfl, hfl.row, by rw [hnp]; exact hqn, by rw [hnw]; exact hqm, fun g hg => Nat.le_trans hb'.size (hfl.fresh g hg)⟩, hfl.below⟩
  have HA := Lib.hid hA
  have HNP := Lib.hid hnp
  have HNW : Hid (nw ≤ 100) := Lib.hid (by rw [hnw]; have h1 := HI.out.wl; have h2 := HBB.out; omega)
  have HM8 := Lib.hid hm
  clear hA hc hm hnp hnw
  go_wp2_with fail
  refine region_tails 11 (fun ix9 => ([.is (.pointer (some ⟨R, 0, none⟩)), .is (.pointer (some ⟨R, 0, none⟩)), .is (.pointer (some ⟨R, 1, none⟩)), .is (.slice (some ⟨g, 0, none⟩) m (c 1)), .is (.int .i64 (k : Int)), .is (.pointer (some ⟨g, k * 3, none⟩)), .is (.agg #[.int .i64 ki, .int .i64 cn, .int .i64 mo]), .is (.pointer (some ⟨R, 0, none⟩)), .is (.int .i64 (k : Int)), (qlVD w2.heap.size np nw), (alVD 30 [.int .i64 0, .int .i64 0, .int .i64 0] w2.heap.size)] : List VD).getD ix9 (.is undef)) [some 21, some 22, some 23, some 24, some 25, some 26, some 27, some 28, some 29, some 30, some 10] (by kernel_rfl) (by kernel_rfl) (by kernel_rfl) (by kernel_rfl) rfl (fun ii hii => ?_) ?_
  · match ii, hii with
    | 0, _ => exact mstep_first rfl (mwant_none rfl) 0 (Or.inl rfl) (by kernel_rfl) (fun _ _ => rfl)
    | 1, _ => exact mstep_pure rfl (mwant_none rfl) (fun aa ww cc => ⟨.pointer (some ⟨R, 0, none⟩), by have e0 : aa.tmps.getD 21 undef = .pointer (some ⟨R, 0, none⟩) := cc.slot 0 21 (by kernel_rfl) rfl; simp only [execOp, Act.eval, e0]; go_simp, rfl⟩)
    | 2, _ => exact mstep_pure rfl (mwant_none rfl) (fun aa ww cc => ⟨.pointer (some ⟨R, 1, none⟩), by have e0 : aa.tmps.getD 22 undef = .pointer (some ⟨R, 0, none⟩) := cc.slot 1 22 (by kernel_rfl) rfl; simp only [execOp, Act.eval, e0]; go_simp, rfl⟩)
    | 3, _ => exact mstep_pure rfl (mwant_none rfl) (fun aa ww cc => ⟨.slice (some ⟨g, 0, none⟩) m (c 1), by have e0 : aa.tmps.getD 23 undef = .pointer (some ⟨R, 1, none⟩) := cc.slot 2 23 (by kernel_rfl) rfl; have q := C1.out _ cc.below; simp only [execOp, Act.eval, e0]; go_simp, rfl⟩)
    | 4, _ => exact mstep_first rfl (mwant_none rfl) 1 (Or.inl rfl) (by kernel_rfl) (fun _ _ => rfl)
    | 5, _ => exact mstep_pure rfl (mwant_none rfl) (fun aa ww cc => ⟨.pointer (some ⟨g, k * 3, none⟩), by have e0 : aa.tmps.getD 24 undef = .slice (some ⟨g, 0, none⟩) m (c 1) := cc.slot 3 24 (by kernel_rfl) rfl; have e1 : aa.tmps.getD 25 undef = .int .i64 (k : Int) := cc.slot 4 25 (by kernel_rfl) rfl; simp only [execOp, Act.eval, e0, e1]; go_simp, rfl⟩)
    | 6, _ => exact mstep_pure rfl (mwant_none rfl) (fun aa ww cc => ⟨.agg #[.int .i64 ki, .int .i64 cn, .int .i64 mo], by have e0 : aa.tmps.getD 26 undef = .pointer (some ⟨g, k * 3, none⟩) := cc.slot 5 26 (by kernel_rfl) rfl; obtain ⟨q0, q1, q2⟩ := CK.out _ cc.below; simp only [execOp, Act.eval, e0]; go_simp, rfl⟩)
    | 7, _ => exact mstep_first rfl (mwant_none rfl) 0 (Or.inl rfl) (by kernel_rfl) (fun _ _ => rfl)
    | 8, _ => exact mstep_first rfl (mwant_none rfl) 1 (Or.inl rfl) (by kernel_rfl) (fun _ _ => rfl)
    | 9, _ => exact mstep_call rfl (mwant_none rfl) _ _ _ rfl (enters_of Try.func54 (by kernel_rfl) rfl) (fun aa ww cc => by have e0 : aa.tmps.getD 28 undef = .pointer (some ⟨R, 0, none⟩) := cc.slot 7 28 (by kernel_rfl) rfl; have e1 : aa.tmps.getD 29 undef = .int .i64 (k : Int) := cc.slot 8 29 (by kernel_rfl) rfl; simp only [List.map_toArray, List.map_cons, List.map_nil, Act.eval, e0, e1]; exact QC.out ww cc.below)
    | 10, _ => exact mstep_allocT _ zRin rfl (mwant_none rfl) rfl w2.heap.size (Nat.le_refl _) rfl
    | n + 11, h => exact absurd h (by show ¬ (n + 11 < 11); omega)
  · intro VV w5 hlen hb5 hok
    match VV, hlen with
    | [v0, v1, v2, v3, v4, v5, v6, v7, v8, v9, v10], _ =>
      obtain rfl : v0 = .pointer (some ⟨R, 0, none⟩) := hok 0 21 rfl
      obtain rfl : v1 = .pointer (some ⟨R, 0, none⟩) := hok 1 22 rfl
      obtain rfl : v2 = .pointer (some ⟨R, 1, none⟩) := hok 2 23 rfl
      obtain rfl : v3 = .slice (some ⟨g, 0, none⟩) m (c 1) := hok 3 24 rfl
      obtain rfl : v4 = .int .i64 (k : Int) := hok 4 25 rfl
      obtain rfl : v5 = .pointer (some ⟨g, k * 3, none⟩) := hok 5 26 rfl
      obtain rfl : v6 = .agg #[.int .i64 ki, .int .i64 cn, .int .i64 mo] := hok 6 27 rfl
      obtain rfl : v7 = .pointer (some ⟨R, 0, none⟩) := hok 7 28 rfl
      obtain rfl : v8 = .int .i64 (k : Int) := hok 8 29 rfl
      have p9 := hok 9 30 rfl
      have p10 := hok 10 10 rfl
      obtain ⟨q, Aq, cq, rfl, hrq, hqn, hqm, hqf⟩ := p9
      obtain ⟨b10, rfl, hb10, hh10⟩ := p10
      have H5 : Hid (RefM w5 R M A c) := Lib.hid (Mem.below H2.out hb5)
      have HF5 : Hid (FrS R A w1 A w5) := Lib.hid (HF2.out.trans (FrS.below hb5))
      have HB10 : Hid (Blk w5 b10 [.int .i64 0, .int .i64 0, .int .i64 0]) := Lib.hid ⟨_, hh10⟩
      have HNF10 : Hid (¬ Foot R A b10) := Lib.hid (Mem.notFoot H2.out hb10)
      have HW10 : Hid (w1.heap.size ≤ b10) := Lib.hid (Nat.le_trans HF2.out.size hb10)
      have HRQ5 := Lib.hid hrq
      have HNE : Hid (Aq.map (·.block) = none ∨ Aq.map (·.block) ≠ some b10) := Lib.hid (row_ne_alloc hrq hh10 (by decide))
      have HQN : Hid (∀ p ∈ q, p < M.prs.length) := Lib.hid (by rw [← HNP.out]; exact hqn)
      have HQF : Hid (∀ g, Aq.map (·.block) = some g → ¬ Foot R A g) := Lib.hid fun g hg => Mem.notFoot H2.out (hqf g hg)
      obtain ⟨lq, hlq⟩ : ∃ n, n = q.length := ⟨_, rfl⟩
      have hlq8 : lq ≤ 100 := by have := HNW.out; omega
      rw [← hlq]
      have HLQ := Lib.hid hlq
      clear hb5 hok hrq hqn hqm hqf hh10 hb10 hlq C1 CK QC H2 HF2 HD
      simp only [List.zip_cons_cons, List.zip_nil_right, putsL]
      go_simp
      go_wp2_with ((with_reducible show wpList _ _ _ (Oper.mk _ (Op.store 30 _ _) _ _ _ _ :: _) _ _); refine wpList_storeS sRin rfl _ _ rfl b10 [.int .i64 0, .int .i64 0, .int .i64 0] [.int .i64 ki, .int .i64 cn, .int .i64 mo] rfl rfl HB10.out rfl rfl rin_one ?_)
      intro w6 hb6 hg6
      have H6 : Hid (RefM w6 R M A c) := Lib.hid (Mem.apart H5.out hg6 (fun x e => by injection e with e; rw [← e]; exact HNF10.out))
      have HF6 : Hid (FrS R A w1 A w6) := Lib.hid (HF5.out.bump hg6 HW10.out)
      have HRQ : Hid (Row w6 3 1 Aq cq lq (nums q)) := Lib.hid (by rw [HLQ.out]; exact HRQ5.out.kept hg6 HNE.out)
      have cx0 : w6.cell? ⟨b10, 0, none⟩ = some (.int .i64 ki) := hb6.cell rfl
      have cx1 : w6.cell? ⟨b10, 1, none⟩ = some (.int .i64 cn) := hb6.cell rfl
      have cx2 : w6.cell? ⟨b10, 2, none⟩ = some (.int .i64 mo) := hb6.cell rfl
      clear hb6 hg6 H5 HF5 HB10 HNF10 HW10 HRQ5 HNE
      obtain rfl := HK0.out
      cases q with
      | nil =>
        obtain rfl : lq = 0 := HLQ.out
        by_cases hf : cn = mo
        · have hf1 : (cn == mo) = true := by simpa using hf
          have HBZ : Hid (Blk _ b8 [.int .i64 0, .int .i64 0, .bool false]) := Lib.hid (HF6.out.blk HB1.out HNF.out)
          go_wp2_with ((with_reducible show wpList _ _ _ (Oper.mk _ (Op.store 37 _ _) _ _ _ _ :: _) _ _); refine wpList_storeS sOut rfl _ _ rfl b8 [.int .i64 0, .int .i64 0, .bool false] (ocs (errO 5)) rfl rfl HBZ.out rfl rfl (ocs_one _) ?_)
          intro w88 hb8 hg8
          have l8 := Lib.hid (run_loadS sOut b8 _ hb8 rfl)
          have HRS := Lib.hid (RetRI.of (RetOut.fin (u := (errO 5)) HG1.out HBE.out HNF.out HBL.out HF6.out H6.out hg8) HI.out.next)
          clear hb8 hg8
          go_wp2
          exact bodyPost_ret (v := .agg (ocs (errO 5)).toArray) (by simp [results, Try.results43, asAddr, Sem.run_bind, Sem.run_pure, l8.out]) rfl HRS.out
        · have hf1 : (cn == mo) = false := by simpa using hf
          obtain ⟨m', hm'⟩ : ∃ m', m' = M.rs.length := ⟨_, rfl⟩
          have c1 : w6.cell? ⟨R, 1, none⟩ = some (.slice (some ⟨g, 0, none⟩) m (c 1)) := by rw [HM8.out, ← HA.out]; exact Mem.head H6.out (by decide)
          have ck1 : w6.cell? ⟨g, k * 3 + 1, none⟩ = some (.int .i64 cn) := by
            obtain ⟨g', hA', hc', _⟩ := H6.out.at1r HK.out
            rw [HA.out] at hA'
            injection hA' with e
            injection e with e
            subst e
            rw [HCN.out]; exact hc' 1 _ rfl
          clear hm' m'
          have hcb := HCB.out
          obtain ⟨hcb0, hcb1, hcb2, _⟩ := hcb
          have HLT : Hid (cn + 1 ≤ mo) := Lib.hid (by omega)
          have hcb3 : cn ≤ 16 := by omega
          clear hf hcb1 hcb2
          go_wp2_with ((with_reducible show wpList _ _ _ (Oper.mk _ (Op.store _ _ _) _ _ _ _ :: _) _ _); refine wpList_rcount rfl 3 _ _ rfl H6 HF6 (cn + 1) HK.out HA rfl rfl s1Int ?_)
          intro w7 H7 HF7
          have HI7 : Hid (RInv (cntM M k (cn + 1)) (b + 1)) := Lib.hid (HI.out.next.cntM HK.out ⟨by have := HCB.out.1; omega, by rw [← HMO.out]; exact HLT.out⟩ (fun e => by rw [← HKI.out] at e; exact absurd e (by decide)))
          clear H6 HF6 c1 ck1 cx0 cx1 cx2
          have HBZ : Hid (Blk _ b8 [.int .i64 0, .int .i64 0, .bool false]) := Lib.hid (HF7.out.blk HB1.out HNF.out)
          go_wp2_with ((with_reducible show wpList _ _ _ (Oper.mk _ (Op.store 37 _ _) _ _ _ _ :: _) _ _); refine wpList_storeS sOut rfl _ _ rfl b8 [.int .i64 0, .int .i64 0, .bool false] (ocs ok) rfl rfl HBZ.out rfl rfl (ocs_one _) ?_)
          intro w88 hb8 hg8
          have l8 := Lib.hid (run_loadS sOut b8 _ hb8 rfl)
          have HRS := Lib.hid (RetRI.of (RetOut.fin (u := ok) HG1.out HBE.out HNF.out HBL.out HF7.out H7.out hg8) HI7.out)
          clear hb8 hg8
          go_wp2
          exact bodyPost_ret (v := .agg (ocs ok).toArray) (by simp [results, Try.results43, asAddr, Sem.run_bind, Sem.run_pure, l8.out]) rfl HRS.out
      | cons p0 qs =>
        obtain ⟨gq, hAq, _, hcq, _⟩ := HRQ.out.at (j := 0) (by simp [nums])
        have cq0 : w6.cell? ⟨gq, 0, none⟩ = some (.int .i64 (p0 : Int)) := by rw [hcq]; simp [nums]
        have hlq1 : 0 < lq := by rw [HLQ.out]; simp
        have HP0 : Hid (p0 < M.prs.length) := Lib.hid (HQN.out p0 (by simp))
        have HR7 : Hid (M.ready.length + 1 ≤ 200 * (b + 1)) := Lib.hid (by have h1 := HI.out.rl; omega)
        rw [hAq]
        clear hcq hAq HRQ
        go_wp2_with fail
        refine (wakes_calls w6 R M A c H6.out b HI.out HBB.out p0 HP0.out 0 0 false).mono ?_
        rintro e w9 ⟨z, rfl, A9, c9, h9, hf9⟩
        have H9 := Lib.hid h9
        have HF9 : Hid (FrS R A w1 A9 w9) := Lib.hid (HF6.out.trans hf9)
        have HI9 : Hid (RInv (wakesM M p0 ⟨0, 0, false⟩) (b + 1)) := Lib.hid (HI.out.next.wakes HP0.out _ HR7.out)
        clear h9 hf9 H6 HF6 cx0 cx1 cx2 cq0
        have HBZ : Hid (Blk _ b8 [.int .i64 0, .int .i64 0, .bool false]) := Lib.hid (HF9.out.blk HB1.out HNF.out)
        go_wp2_with ((with_reducible show wpList _ _ _ (Oper.mk _ (Op.store 37 _ _) _ _ _ _ :: _) _ _); refine wpList_storeS sOut rfl _ _ rfl b8 [.int .i64 0, .int .i64 0, .bool false] (ocs ok) rfl rfl HBZ.out rfl rfl (ocs_one _) ?_)
        intro w88 hb8 hg8
        have l8 := Lib.hid (run_loadS sOut b8 _ hb8 rfl)
        have HRS := Lib.hid (RetRI.of (RetOut.fin (u := ok) HG1.out HBE.out HNF.out HBL.out HF9.out H9.out hg8) HI9.out)
        clear hb8 hg8
        go_wp2
        exact bodyPost_ret (v := .agg (ocs ok).toArray) (by simp [results, Try.results43, asAddr, Sem.run_bind, Sem.run_pure, l8.out]) rfl HRS.out
set_option maxRecDepth 100000 in
set_option maxHeartbeats 1000000 in
theorem rgive_sig (w : World) (R : Nat) (M : RSt) (A : Nat → Option Addr) (c : Nat → Nat) (h : RefM w R M A c) (b : Nat) (hI : RInv M b) (hb : b < 100) (k p : Nat) (v ticks : Int) (hea : askedI M true k ticks = 0) (hrun : rrun M = p) (hpn : p < M.prs.length) (hk : k < M.rs.length) (ki cn mo : Int) (hki : ki = (M.res k).kind) (hcn : cn = (M.res k).count) (hmo : mo = (M.res k).most) (hk0 : ki = 1) :
    Calls Try.prog 43 #[.pointer (some ⟨R, 0, none⟩), .int .i64 (k : Int), .int .i64 v, .int .i64 ticks] w (RetRI w R A b isO) := by
  have H := Lib.hid h
  have HI := Lib.hid hI
  have HBB : Hid (b ≤ 100) := Lib.hid (Nat.le_of_lt hb)
  have HBX : Hid (b + 1 ≤ 100) := Lib.hid hb
  clear h hI hb
  have HEA := Lib.hid hea
  have HRUN := Lib.hid hrun
  have HPN := Lib.hid hpn
  have HK := Lib.hid hk
  have HKI := Lib.hid hki
  have HCN := Lib.hid hcn
  have HMO := Lib.hid hmo
  have HCB : Hid (0 ≤ cn ∧ cn ≤ mo ∧ mo ≤ 16 ∧ 1 ≤ mo) := Lib.hid (by
    have h1 := HI.out.cnt k hk
    have h2 := HI.out.kd k hk
    rw [hcn, hmo]
    exact ⟨h1.1, h1.2.1, h1.2.2, h2.2.2⟩)
  clear hea hrun hpn hk hki hcn hmo
  have HK0 := Lib.hid hk0
  clear hk0
  go_enter Try.func43, Try.ntmps43
  go_wp2_with ((with_reducible show wpList _ _ _ (Oper.mk _ (Op.alloc 37) _ _ _ _ :: _) _ _); refine wpList_allocS _ zOut rfl rfl ?_)
  intro w1 hbk hg1 hs1
  obtain ⟨b8, hb8⟩ : ∃ b, b = w.heap.size := ⟨_, rfl⟩
  rw [← hb8] at hbk ⊢
  have HNF : Hid (¬ Foot R A b8) := Lib.hid (Mem.notFoot H.out (by omega))
  have HBL : Hid (b8 < w1.heap.size) := Lib.hid (by omega)
  have HB1 := Lib.hid hbk
  have HG1 := Lib.hid hg1
  have HBE : Hid (w.heap.size ≤ b8) := Lib.hid (by omega)
  have H1 : Hid (RefM w1 R M A c) := Lib.hid (Mem.apart H.out hg1 fun k e => by cases e)
  clear hbk hg1 hs1 hb8 H
  go_wp2_with fail
  refine (asked_calls w1 R M A c H1.out b HI.out HBB.out true _ ticks).mono ?_
  rintro e w2 ⟨rfl, d, hw2⟩
  have H2 : Hid (RefM w2 R M A c) := Lib.hid (by rw [hw2]; exact H1.out.drewN d)
  have HF2 : Hid (FrS R A w1 A w2) := Lib.hid (by rw [hw2]; exact (FrS.refl R A w1).drewN d)
  rw [HEA.out]
  clear hw2 H1
  obtain ⟨g, hA, hc, _⟩ := H2.out.at1r HK.out
  obtain ⟨m, hm⟩ : ∃ m, m = M.rs.length := ⟨_, rfl⟩
  have hm8 : m ≤ 8 := by rw [hm]; exact HI.out.m8
  have hkm : k < m := by rw [hm]; exact HK.out
  obtain ⟨np, hnp⟩ : ∃ m, m = M.prs.length := ⟨_, rfl⟩
  obtain ⟨nw, hnw⟩ : ∃ m, m = M.wts.length := ⟨_, rfl⟩
  have HD : Hid (RefM w2.drew R M A c) := Lib.hid (H2.out.drewN 1)
  have C1 : Hid (∀ w', Below w2.drew.heap.size w2.drew w' → w'.cell? ⟨R, 1, none⟩ = some (.slice (some ⟨g, 0, none⟩) m (c 1))) := Lib.hid fun w' hb' => by rw [hm, ← hA]; exact Mem.head (Mem.below HD.out hb') (by decide)
  have CK : Hid (∀ w', Below w2.drew.heap.size w2.drew w' → w'.cell? ⟨g, k * 3, none⟩ = some (.int .i64 ki) ∧ w'.cell? ⟨g, k * 3 + 1, none⟩ = some (.int .i64 cn) ∧ w'.cell? ⟨g, k * 3 + 2, none⟩ = some (.int .i64 mo)) := Lib.hid fun w' hb' => by
    obtain ⟨g', hA', hc', _⟩ := (show RefM w' R M A c from Mem.below HD.out hb').at1r HK.out
    rw [hA] at hA'
    injection hA' with e
    injection e with e
    subst e
    exact ⟨by rw [HKI.out]; exact hc' 0 _ rfl, by rw [HCN.out]; exact hc' 1 _ rfl, by rw [HMO.out]; exact hc' 2 _ rfl⟩
  have QC : Hid (∀ w', Below w2.drew.heap.size w2.drew w' → Calls Try.prog 54 #[.pointer (some ⟨R, 0, none⟩), .int .i64 (k : Int)] w' fun e w'' => ∃ v, e = .returned v ∧ (qlVD w2.heap.size np nw).ok v w'' ∧ Below w'.heap.size w' w'') := Lib.hid fun w' hb' => by
    refine (rqueue_calls w' R M A c (Mem.below HD.out hb') b HI.out HBB.out (k : Int) (Int.natCast_nonneg _)).mono ?_
    rintro e w'' ⟨q, ⟨Aq, cq, rfl, hfl⟩, hqn, hqm⟩
    exact ⟨_, rfl, ⟨q, Aq, cq, rfl, hfl.row, by rw [hnp]; exact hqn, by rw [hnw]; exact hqm, fun g hg => Nat.le_trans hb'.size (hfl.fresh g hg)⟩, hfl.below⟩
  have HA := Lib.hid hA
  have HNP := Lib.hid hnp
  have HNW : Hid (nw ≤ 100) := Lib.hid (by rw [hnw]; have h1 := HI.out.wl; have h2 := HBB.out; omega)
  have HM8 := Lib.hid hm
  clear hA hc hm hnp hnw
  go_wp2_with fail
  refine region_tails 11 (fun ix9 => ([.is (.pointer (some ⟨R, 0, none⟩)), .is (.pointer (some ⟨R, 0, none⟩)), .is (.pointer (some ⟨R, 1, none⟩)), .is (.slice (some ⟨g, 0, none⟩) m (c 1)), .is (.int .i64 (k : Int)), .is (.pointer (some ⟨g, k * 3, none⟩)), .is (.agg #[.int .i64 ki, .int .i64 cn, .int .i64 mo]), .is (.pointer (some ⟨R, 0, none⟩)), .is (.int .i64 (k : Int)), (qlVD w2.heap.size np nw), (alVD 30 [.int .i64 0, .int .i64 0, .int .i64 0] w2.heap.size)] : List VD).getD ix9 (.is undef)) [some 21, some 22, some 23, some 24, some 25, some 26, some 27, some 28, some 29, some 30, some 10] (by kernel_rfl) (by kernel_rfl) (by kernel_rfl) (by kernel_rfl) rfl (fun ii hii => ?_) ?_
  · match ii, hii with
    | 0, _ => exact mstep_first rfl (mwant_none rfl) 0 (Or.inl rfl) (by kernel_rfl) (fun _ _ => rfl)
    | 1, _ => exact mstep_pure rfl (mwant_none rfl) (fun aa ww cc => ⟨.pointer (some ⟨R, 0, none⟩), by have e0 : aa.tmps.getD 21 undef = .pointer (some ⟨R, 0, none⟩) := cc.slot 0 21 (by kernel_rfl) rfl; simp only [execOp, Act.eval, e0]; go_simp, rfl⟩)
    | 2, _ => exact mstep_pure rfl (mwant_none rfl) (fun aa ww cc => ⟨.pointer (some ⟨R, 1, none⟩), by have e0 : aa.tmps.getD 22 undef = .pointer (some ⟨R, 0, none⟩) := cc.slot 1 22 (by kernel_rfl) rfl; simp only [execOp, Act.eval, e0]; go_simp, rfl⟩)
    | 3, _ => exact mstep_pure rfl (mwant_none rfl) (fun aa ww cc => ⟨.slice (some ⟨g, 0, none⟩) m (c 1), by have e0 : aa.tmps.getD 23 undef = .pointer (some ⟨R, 1, none⟩) := cc.slot 2 23 (by kernel_rfl) rfl; have q := C1.out _ cc.below; simp only [execOp, Act.eval, e0]; go_simp, rfl⟩)
    | 4, _ => exact mstep_first rfl (mwant_none rfl) 1 (Or.inl rfl) (by kernel_rfl) (fun _ _ => rfl)
    | 5, _ => exact mstep_pure rfl (mwant_none rfl) (fun aa ww cc => ⟨.pointer (some ⟨g, k * 3, none⟩), by have e0 : aa.tmps.getD 24 undef = .slice (some ⟨g, 0, none⟩) m (c 1) := cc.slot 3 24 (by kernel_rfl) rfl; have e1 : aa.tmps.getD 25 undef = .int .i64 (k : Int) := cc.slot 4 25 (by kernel_rfl) rfl; simp only [execOp, Act.eval, e0, e1]; go_simp, rfl⟩)
    | 6, _ => exact mstep_pure rfl (mwant_none rfl) (fun aa ww cc => ⟨.agg #[.int .i64 ki, .int .i64 cn, .int .i64 mo], by have e0 : aa.tmps.getD 26 undef = .pointer (some ⟨g, k * 3, none⟩) := cc.slot 5 26 (by kernel_rfl) rfl; obtain ⟨q0, q1, q2⟩ := CK.out _ cc.below; simp only [execOp, Act.eval, e0]; go_simp, rfl⟩)
    | 7, _ => exact mstep_first rfl (mwant_none rfl) 0 (Or.inl rfl) (by kernel_rfl) (fun _ _ => rfl)
    | 8, _ => exact mstep_first rfl (mwant_none rfl) 1 (Or.inl rfl) (by kernel_rfl) (fun _ _ => rfl)
    | 9, _ => exact mstep_call rfl (mwant_none rfl) _ _ _ rfl (enters_of Try.func54 (by kernel_rfl) rfl) (fun aa ww cc => by have e0 : aa.tmps.getD 28 undef = .pointer (some ⟨R, 0, none⟩) := cc.slot 7 28 (by kernel_rfl) rfl; have e1 : aa.tmps.getD 29 undef = .int .i64 (k : Int) := cc.slot 8 29 (by kernel_rfl) rfl; simp only [List.map_toArray, List.map_cons, List.map_nil, Act.eval, e0, e1]; exact QC.out ww cc.below)
    | 10, _ => exact mstep_allocT _ zRin rfl (mwant_none rfl) rfl w2.heap.size (Nat.le_refl _) rfl
    | n + 11, h => exact absurd h (by show ¬ (n + 11 < 11); omega)
  · intro VV w5 hlen hb5 hok
    match VV, hlen with
    | [v0, v1, v2, v3, v4, v5, v6, v7, v8, v9, v10], _ =>
      obtain rfl : v0 = .pointer (some ⟨R, 0, none⟩) := hok 0 21 rfl
      obtain rfl : v1 = .pointer (some ⟨R, 0, none⟩) := hok 1 22 rfl
      obtain rfl : v2 = .pointer (some ⟨R, 1, none⟩) := hok 2 23 rfl
      obtain rfl : v3 = .slice (some ⟨g, 0, none⟩) m (c 1) := hok 3 24 rfl
      obtain rfl : v4 = .int .i64 (k : Int) := hok 4 25 rfl
      obtain rfl : v5 = .pointer (some ⟨g, k * 3, none⟩) := hok 5 26 rfl
      obtain rfl : v6 = .agg #[.int .i64 ki, .int .i64 cn, .int .i64 mo] := hok 6 27 rfl
      obtain rfl : v7 = .pointer (some ⟨R, 0, none⟩) := hok 7 28 rfl
      obtain rfl : v8 = .int .i64 (k : Int) := hok 8 29 rfl
      have p9 := hok 9 30 rfl
      have p10 := hok 10 10 rfl
      obtain ⟨q, Aq, cq, rfl, hrq, hqn, hqm, hqf⟩ := p9
      obtain ⟨b10, rfl, hb10, hh10⟩ := p10
      have H5 : Hid (RefM w5 R M A c) := Lib.hid (Mem.below H2.out hb5)
      have HF5 : Hid (FrS R A w1 A w5) := Lib.hid (HF2.out.trans (FrS.below hb5))
      have HB10 : Hid (Blk w5 b10 [.int .i64 0, .int .i64 0, .int .i64 0]) := Lib.hid ⟨_, hh10⟩
      have HNF10 : Hid (¬ Foot R A b10) := Lib.hid (Mem.notFoot H2.out hb10)
      have HW10 : Hid (w1.heap.size ≤ b10) := Lib.hid (Nat.le_trans HF2.out.size hb10)
      have HRQ5 := Lib.hid hrq
      have HNE : Hid (Aq.map (·.block) = none ∨ Aq.map (·.block) ≠ some b10) := Lib.hid (row_ne_alloc hrq hh10 (by decide))
      have HQN : Hid (∀ p ∈ q, p < M.prs.length) := Lib.hid (by rw [← HNP.out]; exact hqn)
      have HQF : Hid (∀ g, Aq.map (·.block) = some g → ¬ Foot R A g) := Lib.hid fun g hg => Mem.notFoot H2.out (hqf g hg)
      obtain ⟨lq, hlq⟩ : ∃ n, n = q.length := ⟨_, rfl⟩
      have hlq8 : lq ≤ 100 := by have := HNW.out; omega
      rw [← hlq]
      have HLQ := Lib.hid hlq
      clear hb5 hok hrq hqn hqm hqf hh10 hb10 hlq C1 CK QC H2 HF2 HD
      simp only [List.zip_cons_cons, List.zip_nil_right, putsL]
      go_simp
      go_wp2_with ((with_reducible show wpList _ _ _ (Oper.mk _ (Op.store 30 _ _) _ _ _ _ :: _) _ _); refine wpList_storeS sRin rfl _ _ rfl b10 [.int .i64 0, .int .i64 0, .int .i64 0] [.int .i64 ki, .int .i64 cn, .int .i64 mo] rfl rfl HB10.out rfl rfl rin_one ?_)
      intro w6 hb6 hg6
      have H6 : Hid (RefM w6 R M A c) := Lib.hid (Mem.apart H5.out hg6 (fun x e => by injection e with e; rw [← e]; exact HNF10.out))
      have HF6 : Hid (FrS R A w1 A w6) := Lib.hid (HF5.out.bump hg6 HW10.out)
      have HRQ : Hid (Row w6 3 1 Aq cq lq (nums q)) := Lib.hid (by rw [HLQ.out]; exact HRQ5.out.kept hg6 HNE.out)
      have cx0 : w6.cell? ⟨b10, 0, none⟩ = some (.int .i64 ki) := hb6.cell rfl
      have cx1 : w6.cell? ⟨b10, 1, none⟩ = some (.int .i64 cn) := hb6.cell rfl
      have cx2 : w6.cell? ⟨b10, 2, none⟩ = some (.int .i64 mo) := hb6.cell rfl
      clear hb6 hg6 H5 HF5 HB10 HNF10 HW10 HRQ5 HNE
      obtain rfl := HK0.out
      obtain ⟨m', hm'⟩ : ∃ m', m' = M.rs.length := ⟨_, rfl⟩
      have c1 : w6.cell? ⟨R, 1, none⟩ = some (.slice (some ⟨g, 0, none⟩) m (c 1)) := by rw [HM8.out, ← HA.out]; exact Mem.head H6.out (by decide)
      have ck1 : w6.cell? ⟨g, k * 3 + 1, none⟩ = some (.int .i64 cn) := by
        obtain ⟨g', hA', hc', _⟩ := H6.out.at1r HK.out
        rw [HA.out] at hA'
        injection hA' with e
        injection e with e
        subst e
        rw [HCN.out]; exact hc' 1 _ rfl
      clear hm' m'
      go_wp2_with ((with_reducible show wpList _ _ _ (Oper.mk _ (Op.store _ _ _) _ _ _ _ :: _) _ _); refine wpList_rcount rfl 3 _ _ rfl H6 (Lib.hid (FrS.refl R A w6)) 1 HK.out HA rfl rfl s1Int ?_)
      intro w7 H7 HF67
      have HF7 := Lib.hid (HF6.out.trans HF67.out)
      have HI7 : Hid (RInv (cntM M k 1) (b + 1)) := Lib.hid (HI.out.next.cntM HK.out ⟨by decide, by rw [← HMO.out]; exact HCB.out.2.2.2⟩ (fun e => by rw [← HKI.out] at e; exact absurd e (by decide)))
      have f67 : FrS R A w6 A w7 := HF67.out
      have HR0 : Hid (RGv w1 R A M.prs.length (b + 1) 0 Aq cq lq q w7) := Lib.hid ⟨_, A, c, H7.out, HF7.out, HI7.out, by show M.ready.length + 100 ≤ _; have := HI.out.rl; omega, rfl, f67.row HRQ.out HQF.out, HQF.out⟩
      clear H7 HF7 H6 HF6 c1 ck1 cx0 cx1 cx2 HI7 f67 HRQ
      go_wp2
      go_loopw [12] (fun s12 wr => ∃ j : Nat, j ≤ lq ∧ s12 = .int .i64 (j : Int) ∧ RGv w1 R A M.prs.length (b + 1) j Aq cq lq q wr) (fun s12 _ => lq - (intOf s12).toNat)
      case atStart => exact ⟨0, Nat.zero_le _, rfl, HR0.out⟩
      case round =>
        obtain ⟨j, hj, rfl, M', A', c', hm, hf, hinv, hrl, hpn, hrow, hnf⟩ := hrel
        have HM := Lib.hid hm
        have HF := Lib.hid hf
        have HINV := Lib.hid hinv
        have HRL := Lib.hid hrl
        have HPN' := Lib.hid hpn
        have HROW := Lib.hid hrow
        have HNQ := Lib.hid hnf
        clear hm hf hinv hrl hpn hrow hnf HR0
        by_cases hlt : j < lq
        · obtain ⟨gq, hAq, hgl, hcq, _⟩ := HROW.out.at (j := j) (by simp [nums]; rw [← HLQ.out]; exact hlt)
          obtain ⟨x, hx⟩ : ∃ x, x = q.getD j 0 := ⟨_, rfl⟩
          have hjq : j < q.length := by rw [← HLQ.out]; exact hlt
          have hxe : q[j] = x := by rw [hx]; simp [List.getD, hjq]
          have cq0 : wr.cell? ⟨gq, j, none⟩ = some (.int .i64 (x : Int)) := by rw [hcq]; simp [nums, hxe]
          have HP0 : Hid (x < M'.prs.length) := Lib.hid (by rw [HPN'.out, ← hxe]; exact HQN.out _ (List.getElem_mem hjq))
          have HR7 : Hid (M'.ready.length + 1 ≤ 200 * (b + 1)) := Lib.hid (by have h1 := HRL.out; omega)
          have HAQ := Lib.hid hAq
          rw [hAq]
          clear hcq hAq hx hxe hjq hgl
          go_wp2_with fail
          refine (wakes_calls wr R M' A' c' HM.out (b + 1) HINV.out HBX.out x HP0.out 0 0 false).mono ?_
          rintro e w9 ⟨z, rfl, A9, c9, h9, hf9⟩
          have HR9 : Hid (RGv w1 R A M.prs.length (b + 1) (j + 1) Aq cq lq q w9) := Lib.hid ⟨_, A9, c9, h9, HF.out.trans hf9, HINV.out.wakes HP0.out _ HR7.out, by show (M'.ready ++ [x]).length + 100 ≤ _; have := HRL.out; simp; omega, HPN'.out, hf9.row HROW.out HNQ.out, fun g hg => hf9.nf (HNQ.out g hg) (HROW.out.lt g hg)⟩
          clear h9 hf9 HM HF HINV HRL HROW HNQ cq0
          go_wp2
          go_roundw
          case rel => exact ⟨j + 1, by omega, by go_num, by rw [← HAQ.out]; exact HR9.out⟩
          case measure => simp [intOf]; omega
        · obtain rfl : j = lq := by omega
          have HBZ : Hid (Blk _ b8 [.int .i64 0, .int .i64 0, .bool false]) := Lib.hid (HF.out.blk HB1.out HNF.out)
          go_wp2_with ((with_reducible show wpList _ _ _ (Oper.mk _ (Op.store 37 _ _) _ _ _ _ :: _) _ _); refine wpList_storeS sOut rfl _ _ rfl b8 [.int .i64 0, .int .i64 0, .bool false] (ocs ok) rfl rfl HBZ.out rfl rfl (ocs_one _) ?_)
          intro w88 hb8 hg8
          have l8 := Lib.hid (run_loadS sOut b8 _ hb8 rfl)
          have HRS := Lib.hid (RetRI.of (RetOut.fin (u := ok) HG1.out HBE.out HNF.out HBL.out HF.out HM.out hg8) HINV.out)
          clear hb8 hg8
          go_wp2
          exact bodyPost_ret (v := .agg (ocs ok).toArray) (by simp [results, Try.results43, asAddr, Sem.run_bind, Sem.run_pure, l8.out]) rfl HRS.out
set_option maxRecDepth 100000 in
set_option maxHeartbeats 1000000 in
theorem rgive_buf (w : World) (R : Nat) (M : RSt) (A : Nat → Option Addr) (c : Nat → Nat) (h : RefM w R M A c) (b : Nat) (hI : RInv M b) (hb : b < 100) (k p : Nat) (v ticks : Int) (hea : askedI M true k ticks = 0) (hrun : rrun M = p) (hpn : p < M.prs.length) (hk : k < M.rs.length) (ki cn mo : Int) (hki : ki = (M.res k).kind) (hcn : cn = (M.res k).count) (hmo : mo = (M.res k).most) (hk0 : ki = 2) :
    Calls Try.prog 43 #[.pointer (some ⟨R, 0, none⟩), .int .i64 (k : Int), .int .i64 v, .int .i64 ticks] w (RetRI w R A b isO) := by
  have H := Lib.hid h
  have HI := Lib.hid hI
  have HBB : Hid (b ≤ 100) := Lib.hid (Nat.le_of_lt hb)
  have HBX : Hid (b + 1 ≤ 100) := Lib.hid hb
  clear h hI hb
  have HEA := Lib.hid hea
  have HRUN := Lib.hid hrun
  have HPN := Lib.hid hpn
  have HK := Lib.hid hk
  have HKI := Lib.hid hki
  have HCN := Lib.hid hcn
  have HMO := Lib.hid hmo
  have HCB : Hid (0 ≤ cn ∧ cn ≤ mo ∧ mo ≤ 16 ∧ 1 ≤ mo) := Lib.hid (by
    have h1 := HI.out.cnt k hk
    have h2 := HI.out.kd k hk
    rw [hcn, hmo]
    exact ⟨h1.1, h1.2.1, h1.2.2, h2.2.2⟩)
  clear hea hrun hpn hk hki hcn hmo
  have HK0 := Lib.hid hk0
  clear hk0
  have HT : Hid (0 ≤ ticks ∧ ticks ≤ 1048576) := Lib.hid (asked_ok HI.out HEA.out).2.2
  go_enter Try.func43, Try.ntmps43
  go_wp2_with ((with_reducible show wpList _ _ _ (Oper.mk _ (Op.alloc 37) _ _ _ _ :: _) _ _); refine wpList_allocS _ zOut rfl rfl ?_)
  intro w1 hbk hg1 hs1
  obtain ⟨b8, hb8⟩ : ∃ b, b = w.heap.size := ⟨_, rfl⟩
  rw [← hb8] at hbk ⊢
  have HNF : Hid (¬ Foot R A b8) := Lib.hid (Mem.notFoot H.out (by omega))
  have HBL : Hid (b8 < w1.heap.size) := Lib.hid (by omega)
  have HB1 := Lib.hid hbk
  have HG1 := Lib.hid hg1
  have HBE : Hid (w.heap.size ≤ b8) := Lib.hid (by omega)
  have H1 : Hid (RefM w1 R M A c) := Lib.hid (Mem.apart H.out hg1 fun k e => by cases e)
  clear hbk hg1 hs1 hb8 H
  go_wp2_with fail
  refine (asked_calls w1 R M A c H1.out b HI.out HBB.out true _ ticks).mono ?_
  rintro e w2 ⟨rfl, d, hw2⟩
  have H2 : Hid (RefM w2 R M A c) := Lib.hid (by rw [hw2]; exact H1.out.drewN d)
  have HF2 : Hid (FrS R A w1 A w2) := Lib.hid (by rw [hw2]; exact (FrS.refl R A w1).drewN d)
  rw [HEA.out]
  clear hw2 H1
  obtain ⟨g, hA, hc, _⟩ := H2.out.at1r HK.out
  obtain ⟨m, hm⟩ : ∃ m, m = M.rs.length := ⟨_, rfl⟩
  have hm8 : m ≤ 8 := by rw [hm]; exact HI.out.m8
  have hkm : k < m := by rw [hm]; exact HK.out
  obtain ⟨np, hnp⟩ : ∃ m, m = M.prs.length := ⟨_, rfl⟩
  obtain ⟨nw, hnw⟩ : ∃ m, m = M.wts.length := ⟨_, rfl⟩
  have HD : Hid (RefM w2.drew R M A c) := Lib.hid (H2.out.drewN 1)
  have C1 : Hid (∀ w', Below w2.drew.heap.size w2.drew w' → w'.cell? ⟨R, 1, none⟩ = some (.slice (some ⟨g, 0, none⟩) m (c 1))) := Lib.hid fun w' hb' => by rw [hm, ← hA]; exact Mem.head (Mem.below HD.out hb') (by decide)
  have CK : Hid (∀ w', Below w2.drew.heap.size w2.drew w' → w'.cell? ⟨g, k * 3, none⟩ = some (.int .i64 ki) ∧ w'.cell? ⟨g, k * 3 + 1, none⟩ = some (.int .i64 cn) ∧ w'.cell? ⟨g, k * 3 + 2, none⟩ = some (.int .i64 mo)) := Lib.hid fun w' hb' => by
    obtain ⟨g', hA', hc', _⟩ := (show RefM w' R M A c from Mem.below HD.out hb').at1r HK.out
    rw [hA] at hA'
    injection hA' with e
    injection e with e
    subst e
    exact ⟨by rw [HKI.out]; exact hc' 0 _ rfl, by rw [HCN.out]; exact hc' 1 _ rfl, by rw [HMO.out]; exact hc' 2 _ rfl⟩
  have QC : Hid (∀ w', Below w2.drew.heap.size w2.drew w' → Calls Try.prog 54 #[.pointer (some ⟨R, 0, none⟩), .int .i64 (k : Int)] w' fun e w'' => ∃ v, e = .returned v ∧ (qlVD w2.heap.size np nw).ok v w'' ∧ Below w'.heap.size w' w'') := Lib.hid fun w' hb' => by
    refine (rqueue_calls w' R M A c (Mem.below HD.out hb') b HI.out HBB.out (k : Int) (Int.natCast_nonneg _)).mono ?_
    rintro e w'' ⟨q, ⟨Aq, cq, rfl, hfl⟩, hqn, hqm⟩
    exact ⟨_, rfl, ⟨q, Aq, cq, rfl, hfl.row, by rw [hnp]; exact hqn, by rw [hnw]; exact hqm, fun g hg => Nat.le_trans hb'.size (hfl.fresh g hg)⟩, hfl.below⟩
  have HA := Lib.hid hA
  have HNP := Lib.hid hnp
  have HNW : Hid (nw ≤ 100) := Lib.hid (by rw [hnw]; have h1 := HI.out.wl; have h2 := HBB.out; omega)
  have HM8 := Lib.hid hm
  clear hA hc hm hnp hnw
  go_wp2_with fail
  refine region_tails 11 (fun ix9 => ([.is (.pointer (some ⟨R, 0, none⟩)), .is (.pointer (some ⟨R, 0, none⟩)), .is (.pointer (some ⟨R, 1, none⟩)), .is (.slice (some ⟨g, 0, none⟩) m (c 1)), .is (.int .i64 (k : Int)), .is (.pointer (some ⟨g, k * 3, none⟩)), .is (.agg #[.int .i64 ki, .int .i64 cn, .int .i64 mo]), .is (.pointer (some ⟨R, 0, none⟩)), .is (.int .i64 (k : Int)), (qlVD w2.heap.size np nw), (alVD 30 [.int .i64 0, .int .i64 0, .int .i64 0] w2.heap.size)] : List VD).getD ix9 (.is undef)) [some 21, some 22, some 23, some 24, some 25, some 26, some 27, some 28, some 29, some 30, some 10] (by kernel_rfl) (by kernel_rfl) (by kernel_rfl) (by kernel_rfl) rfl (fun ii hii => ?_) ?_
  · match ii, hii with
    | 0, _ => exact mstep_first rfl (mwant_none rfl) 0 (Or.inl rfl) (by kernel_rfl) (fun _ _ => rfl)
    | 1, _ => exact mstep_pure rfl (mwant_none rfl) (fun aa ww cc => ⟨.pointer (some ⟨R, 0, none⟩), by have e0 : aa.tmps.getD 21 undef = .pointer (some ⟨R, 0, none⟩) := cc.slot 0 21 (by kernel_rfl) rfl; simp only [execOp, Act.eval, e0]; go_simp, rfl⟩)
    | 2, _ => exact mstep_pure rfl (mwant_none rfl) (fun aa ww cc => ⟨.pointer (some ⟨R, 1, none⟩), by have e0 : aa.tmps.getD 22 undef = .pointer (some ⟨R, 0, none⟩) := cc.slot 1 22 (by kernel_rfl) rfl; simp only [execOp, Act.eval, e0]; go_simp, rfl⟩)
    | 3, _ => exact mstep_pure rfl (mwant_none rfl) (fun aa ww cc => ⟨.slice (some ⟨g, 0, none⟩) m (c 1), by have e0 : aa.tmps.getD 23 undef = .pointer (some ⟨R, 1, none⟩) := cc.slot 2 23 (by kernel_rfl) rfl; have q := C1.out _ cc.below; simp only [execOp, Act.eval, e0]; go_simp, rfl⟩)
    | 4, _ => exact mstep_first rfl (mwant_none rfl) 1 (Or.inl rfl) (by kernel_rfl) (fun _ _ => rfl)
    | 5, _ => exact mstep_pure rfl (mwant_none rfl) (fun aa ww cc => ⟨.pointer (some ⟨g, k * 3, none⟩), by have e0 : aa.tmps.getD 24 undef = .slice (some ⟨g, 0, none⟩) m (c 1) := cc.slot 3 24 (by kernel_rfl) rfl; have e1 : aa.tmps.getD 25 undef = .int .i64 (k : Int) := cc.slot 4 25 (by kernel_rfl) rfl; simp only [execOp, Act.eval, e0, e1]; go_simp, rfl⟩)
    | 6, _ => exact mstep_pure rfl (mwant_none rfl) (fun aa ww cc => ⟨.agg #[.int .i64 ki, .int .i64 cn, .int .i64 mo], by have e0 : aa.tmps.getD 26 undef = .pointer (some ⟨g, k * 3, none⟩) := cc.slot 5 26 (by kernel_rfl) rfl; obtain ⟨q0, q1, q2⟩ := CK.out _ cc.below; simp only [execOp, Act.eval, e0]; go_simp, rfl⟩)
    | 7, _ => exact mstep_first rfl (mwant_none rfl) 0 (Or.inl rfl) (by kernel_rfl) (fun _ _ => rfl)
    | 8, _ => exact mstep_first rfl (mwant_none rfl) 1 (Or.inl rfl) (by kernel_rfl) (fun _ _ => rfl)
    | 9, _ => exact mstep_call rfl (mwant_none rfl) _ _ _ rfl (enters_of Try.func54 (by kernel_rfl) rfl) (fun aa ww cc => by have e0 : aa.tmps.getD 28 undef = .pointer (some ⟨R, 0, none⟩) := cc.slot 7 28 (by kernel_rfl) rfl; have e1 : aa.tmps.getD 29 undef = .int .i64 (k : Int) := cc.slot 8 29 (by kernel_rfl) rfl; simp only [List.map_toArray, List.map_cons, List.map_nil, Act.eval, e0, e1]; exact QC.out ww cc.below)
    | 10, _ => exact mstep_allocT _ zRin rfl (mwant_none rfl) rfl w2.heap.size (Nat.le_refl _) rfl
    | n + 11, h => exact absurd h (by show ¬ (n + 11 < 11); omega)
  · intro VV w5 hlen hb5 hok
    match VV, hlen with
    | [v0, v1, v2, v3, v4, v5, v6, v7, v8, v9, v10], _ =>
      obtain rfl : v0 = .pointer (some ⟨R, 0, none⟩) := hok 0 21 rfl
      obtain rfl : v1 = .pointer (some ⟨R, 0, none⟩) := hok 1 22 rfl
      obtain rfl : v2 = .pointer (some ⟨R, 1, none⟩) := hok 2 23 rfl
      obtain rfl : v3 = .slice (some ⟨g, 0, none⟩) m (c 1) := hok 3 24 rfl
      obtain rfl : v4 = .int .i64 (k : Int) := hok 4 25 rfl
      obtain rfl : v5 = .pointer (some ⟨g, k * 3, none⟩) := hok 5 26 rfl
      obtain rfl : v6 = .agg #[.int .i64 ki, .int .i64 cn, .int .i64 mo] := hok 6 27 rfl
      obtain rfl : v7 = .pointer (some ⟨R, 0, none⟩) := hok 7 28 rfl
      obtain rfl : v8 = .int .i64 (k : Int) := hok 8 29 rfl
      have p9 := hok 9 30 rfl
      have p10 := hok 10 10 rfl
      obtain ⟨q, Aq, cq, rfl, hrq, hqn, hqm, hqf⟩ := p9
      obtain ⟨b10, rfl, hb10, hh10⟩ := p10
      have H5 : Hid (RefM w5 R M A c) := Lib.hid (Mem.below H2.out hb5)
      have HF5 : Hid (FrS R A w1 A w5) := Lib.hid (HF2.out.trans (FrS.below hb5))
      have HB10 : Hid (Blk w5 b10 [.int .i64 0, .int .i64 0, .int .i64 0]) := Lib.hid ⟨_, hh10⟩
      have HNF10 : Hid (¬ Foot R A b10) := Lib.hid (Mem.notFoot H2.out hb10)
      have HW10 : Hid (w1.heap.size ≤ b10) := Lib.hid (Nat.le_trans HF2.out.size hb10)
      have HRQ5 := Lib.hid hrq
      have HNE : Hid (Aq.map (·.block) = none ∨ Aq.map (·.block) ≠ some b10) := Lib.hid (row_ne_alloc hrq hh10 (by decide))
      have HQN : Hid (∀ p ∈ q, p < M.prs.length) := Lib.hid (by rw [← HNP.out]; exact hqn)
      have HQF : Hid (∀ g, Aq.map (·.block) = some g → ¬ Foot R A g) := Lib.hid fun g hg => Mem.notFoot H2.out (hqf g hg)
      obtain ⟨lq, hlq⟩ : ∃ n, n = q.length := ⟨_, rfl⟩
      have hlq8 : lq ≤ 100 := by have := HNW.out; omega
      rw [← hlq]
      have HLQ := Lib.hid hlq
      clear hb5 hok hrq hqn hqm hqf hh10 hb10 hlq C1 CK QC H2 HF2 HD
      simp only [List.zip_cons_cons, List.zip_nil_right, putsL]
      go_simp
      go_wp2_with ((with_reducible show wpList _ _ _ (Oper.mk _ (Op.store 30 _ _) _ _ _ _ :: _) _ _); refine wpList_storeS sRin rfl _ _ rfl b10 [.int .i64 0, .int .i64 0, .int .i64 0] [.int .i64 ki, .int .i64 cn, .int .i64 mo] rfl rfl HB10.out rfl rfl rin_one ?_)
      intro w6 hb6 hg6
      have H6 : Hid (RefM w6 R M A c) := Lib.hid (Mem.apart H5.out hg6 (fun x e => by injection e with e; rw [← e]; exact HNF10.out))
      have HF6 : Hid (FrS R A w1 A w6) := Lib.hid (HF5.out.bump hg6 HW10.out)
      have HRQ : Hid (Row w6 3 1 Aq cq lq (nums q)) := Lib.hid (by rw [HLQ.out]; exact HRQ5.out.kept hg6 HNE.out)
      have cx0 : w6.cell? ⟨b10, 0, none⟩ = some (.int .i64 ki) := hb6.cell rfl
      have cx1 : w6.cell? ⟨b10, 1, none⟩ = some (.int .i64 cn) := hb6.cell rfl
      have cx2 : w6.cell? ⟨b10, 2, none⟩ = some (.int .i64 mo) := hb6.cell rfl
      clear hb6 hg6 H5 HF5 HB10 HNF10 HW10 HRQ5 HNE
      obtain rfl := HK0.out
      cases q with
      | nil =>
        obtain rfl : lq = 0 := HLQ.out
        by_cases hf : cn < mo
        · have hf1 : (decide (cn < mo)) = true := by simpa using hf
          obtain ⟨m', hm'⟩ : ∃ m', m' = M.rs.length := ⟨_, rfl⟩
          have c1 : w6.cell? ⟨R, 1, none⟩ = some (.slice (some ⟨g, 0, none⟩) m (c 1)) := by rw [HM8.out, ← HA.out]; exact Mem.head H6.out (by decide)
          have ck1 : w6.cell? ⟨g, k * 3 + 1, none⟩ = some (.int .i64 cn) := by
            obtain ⟨g', hA', hc', _⟩ := H6.out.at1r HK.out
            rw [HA.out] at hA'
            injection hA' with e
            injection e with e
            subst e
            rw [HCN.out]; exact hc' 1 _ rfl
          clear hm' m'
          have hki4 : k < M.items.length := by rw [HI.out.ni]; exact HK.out
          obtain ⟨g4, hA4, hc4, _⟩ := H6.out.at4 hki4
          obtain ⟨LI, hLI⟩ : ∃ L, L = M.its k := ⟨_, rfl⟩
          obtain ⟨li, hli⟩ : ∃ n, n = LI.length := ⟨_, rfl⟩
          obtain ⟨m4, hm4⟩ : ∃ n, n = M.items.length := ⟨_, rfl⟩
          rw [← hLI, ← hli] at hc4
          have hkm4 : k < m4 := by rw [hm4]; exact hki4
          have hm48 : m4 ≤ 8 := by rw [hm4, HI.out.ni]; exact HI.out.m8
          have HD6 : Hid (RefM w6.drew R M A c) := Lib.hid (H6.out.drewN 1)
          have HLEN : Hid (cn = (li : Int)) := Lib.hid (by rw [hli, hLI, HCN.out]; exact HI.out.it k HK.out HKI.out.symm)
          have L16 : Hid (li ≤ 16) := Lib.hid (by have h1 := HCB.out; have h2 := HLEN.out; omega)
          have C4 : Hid (∀ w', Below w6.heap.size w6 w' → w'.cell? ⟨R, 4, none⟩ = some (.slice (some ⟨g4, 0, none⟩) m4 (c 4))) := Lib.hid fun w' hb' => by rw [hm4, ← hA4]; exact Mem.head (Mem.below H6.out hb') (by decide)
          have CK4 : Hid (∀ w', Below w6.heap.size w6 w' → w'.cell? ⟨g4, k, none⟩ = some (.slice (A (6 + k)) li (c (6 + k)))) := Lib.hid fun w' hb' => by
            obtain ⟨g', hA', hc', _⟩ := (show RefM w' R M A c from Mem.below H6.out hb').at4 hki4
            rw [hA4] at hA'
            injection hA' with e
            injection e with e
            subst e
            rw [hc', ← hLI, ← hli]
          have SR : Hid (∀ w', Below w6.heap.size w6 w' → Src w' (A (6 + k)) (wits LI)) := Lib.hid fun w' hb' hne => by
            have hro : Row w' 2 1 (A (6 + k)) (c (6 + k)) (M.its k).length ((M.its k).map (Value.int .i64)) := (show RefM w' R M A c from Mem.below H6.out hb').its_row k
            rw [← hLI] at hro
            have h0 : 0 < (LI.map (Value.int .i64)).length := List.length_pos_iff.2 hne
            obtain ⟨g', hg', _, _, _⟩ := hro.at h0
            refine ⟨_, hg', fun j u hu => ?_⟩
            have hj := (List.getElem?_eq_some_iff.1 hu).1
            obtain ⟨g2, hg2, _, hc', _⟩ := hro.at hj
            rw [hg'] at hg2
            injection hg2 with e
            injection e with e
            subst e
            rw [Addr.add_mid, Nat.zero_add, hc', ← (List.getElem?_eq_some_iff.1 hu).2]
            rfl
          have LL : Hid ((wits LI).length = li) := Lib.hid (by rw [hli]; simp [wits])
          have HLI := Lib.hid hLI
          have HLN := Lib.hid hli
          have HA4 := Lib.hid hA4
          have HK4 := Lib.hid hki4
          have CK := CK4
          have hcb := HCB.out
          obtain ⟨hcb0, _, _, _⟩ := hcb
          have HLT : Hid (cn + 1 ≤ mo) := Lib.hid (by omega)
          have hcb3 : cn ≤ 16 := by have := HCB.out; omega
          have HIT : Hid (∀ (w' : World), Row w' 2 1 (A (6 + k)) (c (6 + k)) LI.length (LI.map (Value.int .i64)) → True) := Lib.hid fun _ _ => trivial
          clear hLI hli hA4 hki4 hm4 hc4 HIT CK4 HD6 hf
          go_wp2_with fail
          refine region_relK 17 (AftR 16) (fun ix9 => ([.is (.pointer (some ⟨R, 0, none⟩)), .is (.pointer (some ⟨R, 0, none⟩)), .is (.pointer (some ⟨R, 4, none⟩)), .is (.slice (some ⟨g4, 0, none⟩) m4 (c 4)), .is (.int .i64 (k : Int)), offKD 16 (Empt w6 2), .is (.pointer (some ⟨R, 0, none⟩)), .is (.pointer (some ⟨R, 0, none⟩)), .is (.pointer (some ⟨R, 4, none⟩)), .is (.slice (some ⟨g4, 0, none⟩) m4 (c 4)), .is (.int .i64 (k : Int)), .is (.pointer (some ⟨g4, k, none⟩)), .is (.slice (A (6 + k)) li (c (6 + k))), offKD 16 (Copied w6 2 (wits LI)), .is (.int .i64 v), offKD 16 (Built1 w6 (.int .i64 v)), .pr (fun _ v9 w9 => Copied w6 2 (wits LI ++ [Value.int .i64 v]) v9 w9)] : List KD).getD ix9 (.is undef)) [some 55, some 56, some 57, some 58, some 59, some 60, some 61, some 62, some 63, some 64, some 65, some 66, some 67, some 68, some 69, some 70, some 71] (AftJ w6 13 16) (fun ii hii => ?_) (AftR.refl 16) (by kernel_rfl) (by kernel_rfl) (by kernel_rfl) (by kernel_rfl) rfl (AftJ.start w6 13 16) (fun ii hii => ?_) ?_
          · match ii, hii with
            | 0, _ => exact KD.keeps_is _ _ _
            | 1, _ => exact KD.keeps_is _ _ _
            | 2, _ => exact KD.keeps_is _ _ _
            | 3, _ => exact KD.keeps_is _ _ _
            | 4, _ => exact KD.keeps_is _ _ _
            | 5, _ => exact keep_off _ Empt.mono
            | 6, _ => exact KD.keeps_is _ _ _
            | 7, _ => exact KD.keeps_is _ _ _
            | 8, _ => exact KD.keeps_is _ _ _
            | 9, _ => exact KD.keeps_is _ _ _
            | 10, _ => exact KD.keeps_is _ _ _
            | 11, _ => exact KD.keeps_is _ _ _
            | 12, _ => exact KD.keeps_is _ _ _
            | 13, _ => exact keep_off _ Copied.mono
            | 14, _ => exact KD.keeps_is _ _ _
            | 15, _ => exact keep_off _ Built1.mono
            | 16, _ => exact keep_last _ Copied.mono
            | n + 17, h => exact absurd h (by show ¬ (n + 17 < 17); omega)
          · match ii, hii with
            | 0, _ => exact kstep_first (AftR.refl 16) rfl (kwant_none rfl) (AftJ.pure (by decide)) 0 (Or.inl rfl) (by kernel_rfl) (fun _ _ => rfl)
            | 1, _ => exact kstep_pure (AftR.refl 16) rfl (kwant_none rfl) (AftJ.pure (by decide)) (fun LL aa ww cc => ⟨.pointer (some ⟨R, 0, none⟩), by have e0 : aa.tmps.getD 55 undef = .pointer (some ⟨R, 0, none⟩) := cc.slot 0 55 (by kernel_rfl) rfl; simp only [execOp, Act.eval, e0]; go_simp, rfl⟩)
            | 2, _ => exact kstep_pure (AftR.refl 16) rfl (kwant_none rfl) (AftJ.pure (by decide)) (fun LL aa ww cc => ⟨.pointer (some ⟨R, 4, none⟩), by have e0 : aa.tmps.getD 56 undef = .pointer (some ⟨R, 0, none⟩) := cc.slot 1 56 (by kernel_rfl) rfl; simp only [execOp, Act.eval, e0]; go_simp, rfl⟩)
            | 3, _ => exact kstep_pure (AftR.refl 16) rfl (kwant_none rfl) (AftJ.pure (by decide)) (fun LL aa ww cc => ⟨.slice (some ⟨g4, 0, none⟩) m4 (c 4), by have e0 : aa.tmps.getD 57 undef = .pointer (some ⟨R, 4, none⟩) := cc.slot 2 57 (by kernel_rfl) rfl; have q := C4.out _ cc.world.1; simp only [execOp, Act.eval, e0]; go_simp, rfl⟩)
            | 4, _ => exact kstep_first (AftR.refl 16) rfl (kwant_none rfl) (AftJ.pure (by decide)) 1 (Or.inl rfl) (by kernel_rfl) (fun _ _ => rfl)
            | 5, _ => exact kstep_build0 (by decide) rfl (kwant_none rfl) rfl build0_i64 rfl
            | 6, _ => exact kstep_first (AftR.refl 16) rfl (kwant_none rfl) (AftJ.pure (by decide)) 0 (Or.inl rfl) (by kernel_rfl) (fun _ _ => rfl)
            | 7, _ => exact kstep_pure (AftR.refl 16) rfl (kwant_none rfl) (AftJ.pure (by decide)) (fun LL aa ww cc => ⟨.pointer (some ⟨R, 0, none⟩), by have e0 : aa.tmps.getD 61 undef = .pointer (some ⟨R, 0, none⟩) := cc.slot 6 61 (by kernel_rfl) rfl; simp only [execOp, Act.eval, e0]; go_simp, rfl⟩)
            | 8, _ => exact kstep_pure (AftR.refl 16) rfl (kwant_none rfl) (AftJ.pure (by decide)) (fun LL aa ww cc => ⟨.pointer (some ⟨R, 4, none⟩), by have e0 : aa.tmps.getD 62 undef = .pointer (some ⟨R, 0, none⟩) := cc.slot 7 62 (by kernel_rfl) rfl; simp only [execOp, Act.eval, e0]; go_simp, rfl⟩)
            | 9, _ => exact kstep_pure (AftR.refl 16) rfl (kwant_none rfl) (AftJ.pure (by decide)) (fun LL aa ww cc => ⟨.slice (some ⟨g4, 0, none⟩) m4 (c 4), by have e0 : aa.tmps.getD 63 undef = .pointer (some ⟨R, 4, none⟩) := cc.slot 8 63 (by kernel_rfl) rfl; have q := C4.out _ cc.world.1; simp only [execOp, Act.eval, e0]; go_simp, rfl⟩)
            | 10, _ => exact kstep_first (AftR.refl 16) rfl (kwant_none rfl) (AftJ.pure (by decide)) 1 (Or.inl rfl) (by kernel_rfl) (fun _ _ => rfl)
            | 11, _ => exact kstep_pure (AftR.refl 16) rfl (kwant_none rfl) (AftJ.pure (by decide)) (fun LL aa ww cc => ⟨.pointer (some ⟨g4, k, none⟩), by have e0 : aa.tmps.getD 64 undef = .slice (some ⟨g4, 0, none⟩) m4 (c 4) := cc.slot 9 64 (by kernel_rfl) rfl; have e1 : aa.tmps.getD 65 undef = .int .i64 (k : Int) := cc.slot 10 65 (by kernel_rfl) rfl; simp only [execOp, Act.eval, e0, e1]; go_simp, rfl⟩)
            | 12, _ => exact kstep_pure (AftR.refl 16) rfl (kwant_none rfl) (AftJ.pure (by decide)) (fun LL aa ww cc => ⟨.slice (A (6 + k)) li (c (6 + k)), by have e0 : aa.tmps.getD 66 undef = .pointer (some ⟨g4, k, none⟩) := cc.slot 11 66 (by kernel_rfl) rfl; have q := CK.out _ cc.world.1; simp only [execOp, Act.eval, e0]; go_simp, rfl⟩)
            | 13, _ => exact kstep_appF (by decide) Try.underlying56 Try.infoI64 rfl (by decide) rfl (kwant_none rfl) 60 67 rfl (A (6 + k)) li (c (6 + k)) (wits LI) LL.out (wits_one LI) (by have := L16.out; omega) (fun LL aa ww cc => cc.slot 5 60 (by kernel_rfl) rfl) (fun LL aa ww cc => cc.slot 12 67 (by kernel_rfl) rfl) SR.out rfl
            | 14, _ => exact kstep_first (AftR.refl 16) rfl (kwant_none rfl) (AftJ.pure (by decide)) 2 (Or.inl rfl) (by kernel_rfl) (fun _ _ => rfl)
            | 15, _ => exact kstep_build1 (by decide) rfl (kwant_none rfl) 69 rfl (.int .i64 v) (fun w => build1_i64 w _) (fun LL aa ww cc => cc.slot 14 69 (by kernel_rfl) rfl) rfl
            | 16, _ => exact kstep_app1 Try.underlying56 Try.infoI64 rfl (by decide) rfl (kwant_none rfl) 68 70 rfl (wits LI) (.int .i64 v) rfl (by have h1 := L16.out; have h2 := LL.out; omega) (by kernel_rfl) (fun LL aa ww cc => cc.slot 13 68 (by kernel_rfl) rfl) (fun LL aa ww cc => cc.slot 15 70 (by kernel_rfl) rfl) rfl
            | n + 17, h => exact absurd h (by show ¬ (n + 17 < 17); omega)
          · intro L9 VV w5 hall hlen hJ5 hok
            match VV, hlen with
            | [v0, v1, v2, v3, v4, v5, v6, v7, v8, v9, v10, v11, v12, v13, v14, v15, v16], _ =>
              obtain rfl : v0 = .pointer (some ⟨R, 0, none⟩) := hok 0 55 rfl
              obtain rfl : v1 = .pointer (some ⟨R, 0, none⟩) := hok 1 56 rfl
              obtain rfl : v2 = .pointer (some ⟨R, 4, none⟩) := hok 2 57 rfl
              obtain rfl : v3 = .slice (some ⟨g4, 0, none⟩) m4 (c 4) := hok 3 58 rfl
              obtain rfl : v4 = .int .i64 (k : Int) := hok 4 59 rfl
              have p5 := hok 5 60 rfl
              obtain rfl : v6 = .pointer (some ⟨R, 0, none⟩) := hok 6 61 rfl
              obtain rfl : v7 = .pointer (some ⟨R, 0, none⟩) := hok 7 62 rfl
              obtain rfl : v8 = .pointer (some ⟨R, 4, none⟩) := hok 8 63 rfl
              obtain rfl : v9 = .slice (some ⟨g4, 0, none⟩) m4 (c 4) := hok 9 64 rfl
              obtain rfl : v10 = .int .i64 (k : Int) := hok 10 65 rfl
              obtain rfl : v11 = .pointer (some ⟨g4, k, none⟩) := hok 11 66 rfl
              obtain rfl : v12 = .slice (A (6 + k)) li (c (6 + k)) := hok 12 67 rfl
              have p13 := hok 13 68 rfl
              obtain rfl : v14 = .int .i64 v := hok 14 69 rfl
              have p15 := hok 15 70 rfl
              have p16 := hok 16 71 rfl
              obtain ⟨A7, c7, rfl, hr7, hf7⟩ := (p16 : Copied w6 2 (wits LI ++ [Value.int .i64 v]) v16 w5)
              have HE : Hid (wits LI ++ [Value.int .i64 v] = (LI ++ [v]).map (Value.int .i64)) := Lib.hid (by simp [wits])
              have hr7 : Row w5 2 1 A7 c7 (LI ++ [v]).length ((LI ++ [v]).map (Value.int .i64)) := by rw [HE.out, List.length_map] at hr7; exact hr7
              obtain ⟨n7, hn7⟩ : ∃ n, n = (wits LI ++ [Value.int .i64 v]).length := ⟨_, rfl⟩
              have HR7 := Lib.hid hr7
              have HN7 : Hid (n7 = (LI ++ [v]).length) := Lib.hid (by rw [hn7]; simp [wits])
              rw [← hn7]
              have HB5 : Hid (Below w6.heap.size w6 w5) := Lib.hid hJ5.1
              have HG7 : Hid (w6.grownBy w5 ((A (6 + k)).map (·.block))) := Lib.hid ⟨HB5.out.os, HB5.out.tape, HB5.out.output, HB5.out.size, fun x hx _ => HB5.out.block x hx⟩
              have HNB : Hid (NewB w6 (A (6 + k)) A7) := Lib.hid (.inr hf7)
              clear p5 p13 p15 hr7 hf7 hJ5 hok hall C4 CK SR cx0 cx1 cx2 hn7
              simp only [List.zip_cons_cons, List.zip_nil_right, putsL]
              go_simp
              go_wp2_with ((with_reducible show wpList _ _ _ (Oper.mk _ (Op.store _ _ _) _ _ _ _ :: _) _ _); refine wpList_ritems rfl 56 _ _ rfl H6 HF6 HK4.out HA4 HN7.out HR7 HG7 HNB rfl rfl s1Words ?_)
              intro w11 H11 HF11
              obtain ⟨M11, hM11⟩ : ∃ X, X = ({ M with items := M.items.set k (LI ++ [v]) } : RSt) := ⟨_, rfl⟩
              obtain ⟨A11, hA11⟩ : ∃ X, X = upA A (6 + k) A7 := ⟨_, rfl⟩
              obtain ⟨c11, hc11⟩ : ∃ X, X = upC c (6 + k) c7 := ⟨_, rfl⟩
              rw [← hM11, ← hA11, ← hc11] at H11
              rw [← hA11] at HF11
              have hk11 : k < M11.rs.length := by rw [hM11]; exact HK.out
              obtain ⟨ga, hga, hca, _⟩ := H11.out.at1r hk11
              obtain ⟨ma, hma⟩ : ∃ n, n = M11.rs.length := ⟨_, rfl⟩
              have hkma : k < ma := by rw [hma]; exact hk11
              have hma8 : ma ≤ 8 := by rw [hma, hM11]; exact HI.out.m8
              have d1 : w11.cell? ⟨R, 1, none⟩ = some (.slice (some ⟨ga, 0, none⟩) ma (c11 1)) := by rw [hma, ← hga]; exact Mem.head H11.out (by decide)
              have dk1 : w11.cell? ⟨ga, k * 3 + 1, none⟩ = some (.int .i64 cn) := by rw [hca 1 _ rfl, show M11.res k = M.res k by rw [hM11]; rfl, HCN.out]
              have HM11 := Lib.hid hM11
              have HGA := Lib.hid hga
              have HK11 := Lib.hid hk11
              clear hM11 hA11 hc11 hga hk11 hma hca H6 HF6 HR7 HG7 HNB HB5 c1 ck1
              go_wp2_with ((with_reducible show wpList _ _ _ (Oper.mk _ (Op.store _ _ _) _ _ _ _ :: _) _ _); refine wpList_rcount rfl 3 _ _ rfl H11 HF11 (cn + 1) HK11.out HGA rfl rfl s1Int ?_)
              intro w12 H12 HF12
              have HEQ : Hid (cntM M11 k (cn + 1) = ciM M k (cn + 1) (LI ++ [v])) := Lib.hid (by rw [HM11.out]; rfl)
              have HIF : Hid (RInv (ciM M k (cn + 1) (LI ++ [v])) (b + 1)) := Lib.hid (HI.out.next.ci HK.out ⟨by have := HCB.out; omega, by rw [← HMO.out]; exact HLT.out⟩ (fun _ => by have h1 := HLEN.out; have h2 := HLN.out; simp; omega) (by have h1 := HLEN.out; have h2 := HLN.out; have h3 := HLT.out; have h4 := HCB.out; simp; omega))
              rw [HEQ.out] at H12
              clear H11 HF11 d1 dk1 HEQ
              have HBZ : Hid (Blk _ b8 [.int .i64 0, .int .i64 0, .bool false]) := Lib.hid (HF12.out.blk HB1.out HNF.out)
              go_wp2_with ((with_reducible show wpList _ _ _ (Oper.mk _ (Op.store 37 _ _) _ _ _ _ :: _) _ _); refine wpList_storeS sOut rfl _ _ rfl b8 [.int .i64 0, .int .i64 0, .bool false] (ocs ok) rfl rfl HBZ.out rfl rfl (ocs_one _) ?_)
              intro w88 hb8 hg8
              have l8 := Lib.hid (run_loadS sOut b8 _ hb8 rfl)
              have HRS := Lib.hid (RetRI.of (RetOut.fin (u := ok) HG1.out HBE.out HNF.out HBL.out HF12.out H12.out hg8) HIF.out)
              clear hb8 hg8
              go_wp2
              exact bodyPost_ret (v := .agg (ocs ok).toArray) (by simp [results, Try.results43, asAddr, Sem.run_bind, Sem.run_pure, l8.out]) rfl HRS.out
        · have hf1 : (decide (cn < mo)) = false := by simpa using hf
          by_cases ht : ticks = 0
          · subst ht
            have HBZ : Hid (Blk _ b8 [.int .i64 0, .int .i64 0, .bool false]) := Lib.hid (HF6.out.blk HB1.out HNF.out)
            go_wp2_with ((with_reducible show wpList _ _ _ (Oper.mk _ (Op.store 37 _ _) _ _ _ _ :: _) _ _); refine wpList_storeS sOut rfl _ _ rfl b8 [.int .i64 0, .int .i64 0, .bool false] (ocs (errO 130)) rfl rfl HBZ.out rfl rfl (ocs_one _) ?_)
            intro w88 hb8 hg8
            have l8 := Lib.hid (run_loadS sOut b8 _ hb8 rfl)
            have HRS := Lib.hid (RetRI.of (RetOut.fin (u := (errO 130)) HG1.out HBE.out HNF.out HBL.out HF6.out H6.out hg8) HI.out.next)
            clear hb8 hg8
            go_wp2
            exact bodyPost_ret (v := .agg (ocs (errO 130)).toArray) (by simp [results, Try.results43, asAddr, Sem.run_bind, Sem.run_pure, l8.out]) rfl HRS.out
          · have ht1 : (ticks == 0) = false := by simpa using ht
            clear ht
            go_wp2_with fail
            refine (rwaits_calls w6 R M A c H6.out b HI.out HBB.out p HRUN.out (k : Int) ticks v).mono ?_
            rintro e w9 ⟨rfl, A9, c9, h9, hf9⟩
            have H9 := Lib.hid h9
            have HF9 := Lib.hid (HF6.out.trans hf9)
            have HI9 := Lib.hid (HI.out.waits HPN.out (k : Int) ticks v HT.out)
            clear h9 hf9 H6 HF6 cx0 cx1 cx2
            have HBZ : Hid (Blk _ b8 [.int .i64 0, .int .i64 0, .bool false]) := Lib.hid (HF9.out.blk HB1.out HNF.out)
            go_wp2_with ((with_reducible show wpList _ _ _ (Oper.mk _ (Op.store 37 _ _) _ _ _ _ :: _) _ _); refine wpList_storeS sOut rfl _ _ rfl b8 [.int .i64 0, .int .i64 0, .bool false] (ocs waits) rfl rfl HBZ.out rfl rfl (ocs_one _) ?_)
            intro w88 hb8 hg8
            have l8 := Lib.hid (run_loadS sOut b8 _ hb8 rfl)
            have HRS := Lib.hid (RetRI.of (RetOut.fin (u := waits) HG1.out HBE.out HNF.out HBL.out HF9.out H9.out hg8) HI9.out)
            clear hb8 hg8
            go_wp2
            exact bodyPost_ret (v := .agg (ocs waits).toArray) (by simp [results, Try.results43, asAddr, Sem.run_bind, Sem.run_pure, l8.out]) rfl HRS.out
      | cons p0 qs =>
        have hlq0 : 0 < lq := by rw [HLQ.out]; simp
        by_cases hf : cn < mo
        · have hf1 : (decide (cn < mo)) = true := by simpa using hf
          obtain ⟨gq, hAq, _, hcq, _⟩ := HRQ.out.at (j := 0) (by simp [nums])
          have cq0 : w6.cell? ⟨gq, 0, none⟩ = some (.int .i64 (p0 : Int)) := by rw [hcq]; simp [nums]
          have hlq1 : 0 < lq := by rw [HLQ.out]; simp
          have HP0 : Hid (p0 < M.prs.length) := Lib.hid (HQN.out p0 (by simp))
          have HR7 : Hid (M.ready.length + 1 ≤ 200 * (b + 1)) := Lib.hid (by have h1 := HI.out.rl; omega)
          rw [hAq]
          clear hcq hAq HRQ
          go_wp2_with fail
          refine (wakes_calls w6 R M A c H6.out b HI.out HBB.out p0 HP0.out 0 v false).mono ?_
          rintro e w9 ⟨z, rfl, A9, c9, h9, hf9⟩
          have H9 := Lib.hid h9
          have HF9 : Hid (FrS R A w1 A9 w9) := Lib.hid (HF6.out.trans hf9)
          have HI9 : Hid (RInv (wakesM M p0 ⟨0, v, false⟩) (b + 1)) := Lib.hid (HI.out.next.wakes HP0.out _ HR7.out)
          clear h9 hf9 H6 HF6 cx0 cx1 cx2 cq0
          have HBZ : Hid (Blk _ b8 [.int .i64 0, .int .i64 0, .bool false]) := Lib.hid (HF9.out.blk HB1.out HNF.out)
          go_wp2_with ((with_reducible show wpList _ _ _ (Oper.mk _ (Op.store 37 _ _) _ _ _ _ :: _) _ _); refine wpList_storeS sOut rfl _ _ rfl b8 [.int .i64 0, .int .i64 0, .bool false] (ocs ok) rfl rfl HBZ.out rfl rfl (ocs_one _) ?_)
          intro w88 hb8 hg8
          have l8 := Lib.hid (run_loadS sOut b8 _ hb8 rfl)
          have HRS := Lib.hid (RetRI.of (RetOut.fin (u := ok) HG1.out HBE.out HNF.out HBL.out HF9.out H9.out hg8) HI9.out)
          clear hb8 hg8
          go_wp2
          exact bodyPost_ret (v := .agg (ocs ok).toArray) (by simp [results, Try.results43, asAddr, Sem.run_bind, Sem.run_pure, l8.out]) rfl HRS.out
        · have hf1 : (decide (cn < mo)) = false := by simpa using hf
          by_cases ht : ticks = 0
          · subst ht
            have HBZ : Hid (Blk _ b8 [.int .i64 0, .int .i64 0, .bool false]) := Lib.hid (HF6.out.blk HB1.out HNF.out)
            go_wp2_with ((with_reducible show wpList _ _ _ (Oper.mk _ (Op.store 37 _ _) _ _ _ _ :: _) _ _); refine wpList_storeS sOut rfl _ _ rfl b8 [.int .i64 0, .int .i64 0, .bool false] (ocs (errO 130)) rfl rfl HBZ.out rfl rfl (ocs_one _) ?_)
            intro w88 hb8 hg8
            have l8 := Lib.hid (run_loadS sOut b8 _ hb8 rfl)
            have HRS := Lib.hid (RetRI.of (RetOut.fin (u := (errO 130)) HG1.out HBE.out HNF.out HBL.out HF6.out H6.out hg8) HI.out.next)
            clear hb8 hg8
            go_wp2
            exact bodyPost_ret (v := .agg (ocs (errO 130)).toArray) (by simp [results, Try.results43, asAddr, Sem.run_bind, Sem.run_pure, l8.out]) rfl HRS.out
          · have ht1 : (ticks == 0) = false := by simpa using ht
            clear ht
            go_wp2_with fail
            refine (rwaits_calls w6 R M A c H6.out b HI.out HBB.out p HRUN.out (k : Int) ticks v).mono ?_
            rintro e w9 ⟨rfl, A9, c9, h9, hf9⟩
            have H9 := Lib.hid h9
            have HF9 := Lib.hid (HF6.out.trans hf9)
            have HI9 := Lib.hid (HI.out.waits HPN.out (k : Int) ticks v HT.out)
            clear h9 hf9 H6 HF6 cx0 cx1 cx2
            have HBZ : Hid (Blk _ b8 [.int .i64 0, .int .i64 0, .bool false]) := Lib.hid (HF9.out.blk HB1.out HNF.out)
            go_wp2_with ((with_reducible show wpList _ _ _ (Oper.mk _ (Op.store 37 _ _) _ _ _ _ :: _) _ _); refine wpList_storeS sOut rfl _ _ rfl b8 [.int .i64 0, .int .i64 0, .bool false] (ocs waits) rfl rfl HBZ.out rfl rfl (ocs_one _) ?_)
            intro w88 hb8 hg8
            have l8 := Lib.hid (run_loadS sOut b8 _ hb8 rfl)
            have HRS := Lib.hid (RetRI.of (RetOut.fin (u := waits) HG1.out HBE.out HNF.out HBL.out HF9.out H9.out hg8) HI9.out)
            clear hb8 hg8
            go_wp2
            exact bodyPost_ret (v := .agg (ocs waits).toArray) (by simp [results, Try.results43, asAddr, Sem.run_bind, Sem.run_pure, l8.out]) rfl HRS.out
theorem rgive_calls (w : World) (R : Nat) (M : RSt) (A : Nat → Option Addr) (c : Nat → Nat) (h : RefM w R M A c) (b : Nat) (hI : RInv M b) (hb : b < 100) (r v ticks : Int) :
    Calls Try.prog 43 #[.pointer (some ⟨R, 0, none⟩), .int .i64 r, .int .i64 v, .int .i64 ticks] w (RetRI w R A b isO) := by
  by_cases he : askedI M true r ticks = 0
  · obtain ⟨⟨p, hrun, hpn⟩, hrr, ht0, ht1⟩ := asked_ok hI he
    obtain ⟨hr0, hr1⟩ := hrr rfl
    obtain ⟨k, rfl⟩ : ∃ k : Nat, r = k := ⟨r.toNat, by omega⟩
    have hk : k < M.rs.length := by omega
    have hd := hI.kd k hk
    rcases (by omega : (M.rs.getD k default).kind = 0 ∨ (M.rs.getD k default).kind = 1 ∨ (M.rs.getD k default).kind = 2) with h0 | h0 | h0
    · exact rgive_sem w R M A c h b hI hb k p v ticks he hrun hpn hk _ _ _ rfl rfl rfl h0
    · exact rgive_sig w R M A c h b hI hb k p v ticks he hrun hpn hk _ _ _ rfl rfl rfl h0
    · exact rgive_buf w R M A c h b hI hb k p v ticks he hrun hpn hk _ _ _ rfl rfl rfl h0
  · exact rgive_ref w R M A c h b hI hb r v ticks _ rfl he
end Go.Proofs.Ytgeffkdobnipgaa
/- The document's set: May. -/
namespace Nac.Procs
def mayB (r : RIn) : Bool := decide (0 ≤ r.kind ∧ r.kind ≤ 2 ∧ 1 ≤ r.most ∧ r.most ≤ 16 ∧ 0 ≤ r.count ∧ r.count ≤ r.most ∧ (r.kind = 1 → r.most = 1) ∧ (r.kind = 2 → r.count = 0))
theorem mayB_ok {r : RIn} (h : mayB r = true) : r.Ok := by
  unfold mayB at h
  have h := of_decide_eq_true h
  exact ⟨by omega, h.2.2.1, h.2.2.2.1, h.2.2.2.2.2.2.1, h.2.2.2.2.1, h.2.2.2.2.2.1, h.2.2.2.2.2.2.2⟩
end Nac.Procs
namespace Go.Proofs.Ytgeffkdobnipgaa
open Go.RowKit Nac Nac.Procs
set_option maxRecDepth 100000 in
set_option maxHeartbeats 2000000 in
theorem may_calls (w : World) (r : RIn) : Calls Try.prog 38 #[.agg #[.int .i64 r.kind, .int .i64 r.count, .int .i64 r.most]] w (RetBb w (mayB r)) := by
  obtain ⟨k, cn, mo⟩ := r
  have HBL : Hid (Below w.heap.size w (w.alloc (.cells #[.int .i64 k, .int .i64 cn, .int .i64 mo] 30))) := Lib.hid ((Below.refl _ _).alloc (Nat.le_refl _) _)
  show Calls _ _ #[.agg #[.int .i64 k, .int .i64 cn, .int .i64 mo]] w _
  by_cases h1 : k < 0
  · have HX : Hid (mayB ⟨k, cn, mo⟩ = false) := Lib.hid (decide_eq_false (by show ¬ (0 ≤ k ∧ _); omega))
    rw [HX.out]
    go_enter Try.func38, Try.ntmps38
    go_wp2
    go_ret
    exact ⟨rfl, HBL.out⟩
  by_cases h2 : 2 < k
  · have HX : Hid (mayB ⟨k, cn, mo⟩ = false) := Lib.hid (decide_eq_false (by show ¬ (0 ≤ k ∧ k ≤ 2 ∧ _); omega))
    rw [HX.out]
    go_enter Try.func38, Try.ntmps38
    go_wp2
    go_ret
    exact ⟨rfl, HBL.out⟩
  by_cases h3 : mo < 1
  · have HX : Hid (mayB ⟨k, cn, mo⟩ = false) := Lib.hid (decide_eq_false (by show ¬ (0 ≤ k ∧ k ≤ 2 ∧ 1 ≤ mo ∧ _); omega))
    rw [HX.out]
    go_enter Try.func38, Try.ntmps38
    go_wp2
    go_ret
    exact ⟨rfl, HBL.out⟩
  by_cases h4 : 16 < mo
  · have HX : Hid (mayB ⟨k, cn, mo⟩ = false) := Lib.hid (decide_eq_false (by show ¬ (0 ≤ k ∧ k ≤ 2 ∧ 1 ≤ mo ∧ mo ≤ 16 ∧ _); omega))
    rw [HX.out]
    go_enter Try.func38, Try.ntmps38
    go_wp2
    go_ret
    exact ⟨rfl, HBL.out⟩
  by_cases h5 : cn < 0
  · have HX : Hid (mayB ⟨k, cn, mo⟩ = false) := Lib.hid (decide_eq_false (by show ¬ (0 ≤ k ∧ k ≤ 2 ∧ 1 ≤ mo ∧ mo ≤ 16 ∧ 0 ≤ cn ∧ _); omega))
    rw [HX.out]
    go_enter Try.func38, Try.ntmps38
    go_wp2
    go_ret
    exact ⟨rfl, HBL.out⟩
  by_cases h6 : mo < cn
  · have HX : Hid (mayB ⟨k, cn, mo⟩ = false) := Lib.hid (decide_eq_false (by show ¬ (0 ≤ k ∧ k ≤ 2 ∧ 1 ≤ mo ∧ mo ≤ 16 ∧ 0 ≤ cn ∧ cn ≤ mo ∧ _); omega))
    rw [HX.out]
    go_enter Try.func38, Try.ntmps38
    go_wp2
    go_ret
    exact ⟨rfl, HBL.out⟩
  have hk : k = 0 ∨ k = 1 ∨ k = 2 := by omega
  rcases hk with rfl | rfl | rfl
  · have HX : Hid (mayB ⟨0, cn, mo⟩ = true) := Lib.hid (decide_eq_true (by show (0 : Int) ≤ 0 ∧ (0 : Int) ≤ 2 ∧ 1 ≤ mo ∧ mo ≤ 16 ∧ 0 ≤ cn ∧ cn ≤ mo ∧ ((0 : Int) = 1 → mo = 1) ∧ ((0 : Int) = 2 → cn = 0); omega))
    rw [HX.out]
    go_enter Try.func38, Try.ntmps38
    go_wp2
    go_ret
    exact ⟨rfl, HBL.out⟩
  · by_cases h7 : mo = 1
    · have HX : Hid (mayB ⟨1, cn, mo⟩ = true) := Lib.hid (decide_eq_true (by show (0 : Int) ≤ 1 ∧ (1 : Int) ≤ 2 ∧ 1 ≤ mo ∧ mo ≤ 16 ∧ 0 ≤ cn ∧ cn ≤ mo ∧ ((1 : Int) = 1 → mo = 1) ∧ ((1 : Int) = 2 → cn = 0); omega))
      rw [HX.out]
      subst h7
      go_enter Try.func38, Try.ntmps38
      go_wp2
      go_ret
      exact ⟨rfl, HBL.out⟩
    · have HX : Hid (mayB ⟨1, cn, mo⟩ = false) := Lib.hid (decide_eq_false (by show ¬ ((0 : Int) ≤ 1 ∧ (1 : Int) ≤ 2 ∧ 1 ≤ mo ∧ mo ≤ 16 ∧ 0 ≤ cn ∧ cn ≤ mo ∧ ((1 : Int) = 1 → mo = 1) ∧ ((1 : Int) = 2 → cn = 0)); omega))
      have h71 : (mo == 1) = false := by simpa using h7
      have h72 : (mo != 1) = true := by simpa using h7
      rw [HX.out]
      clear h7
      go_enter Try.func38, Try.ntmps38
      go_wp2
      go_ret
      exact ⟨rfl, HBL.out⟩
  · by_cases h7 : cn = 0
    · have HX : Hid (mayB ⟨2, cn, mo⟩ = true) := Lib.hid (decide_eq_true (by show (0 : Int) ≤ 2 ∧ (2 : Int) ≤ 2 ∧ 1 ≤ mo ∧ mo ≤ 16 ∧ 0 ≤ cn ∧ cn ≤ mo ∧ ((2 : Int) = 1 → mo = 1) ∧ ((2 : Int) = 2 → cn = 0); omega))
      rw [HX.out]
      subst h7
      go_enter Try.func38, Try.ntmps38
      go_wp2
      go_ret
      exact ⟨rfl, HBL.out⟩
    · have HX : Hid (mayB ⟨2, cn, mo⟩ = false) := Lib.hid (decide_eq_false (by show ¬ ((0 : Int) ≤ 2 ∧ (2 : Int) ≤ 2 ∧ 1 ≤ mo ∧ mo ≤ 16 ∧ 0 ≤ cn ∧ cn ≤ mo ∧ ((2 : Int) = 1 → mo = 1) ∧ ((2 : Int) = 2 → cn = 0)); omega))
      have h71 : (cn == 0) = false := by simpa using h7
      have h72 : (cn != 0) = true := by simpa using h7
      rw [HX.out]
      clear h7
      go_enter Try.func38, Try.ntmps38
      go_wp2
      go_ret
      exact ⟨rfl, HBL.out⟩
end Go.Proofs.Ytgeffkdobnipgaa
