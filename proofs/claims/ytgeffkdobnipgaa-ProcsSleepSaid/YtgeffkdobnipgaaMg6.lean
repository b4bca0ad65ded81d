/- Bundle 6 of the texts ProcGive, ProcInv, ProcInv2. -/
import Derived.Test.YtgeffkdobnipgaaMg5
/- procs: Give. -/
namespace Nac.Procs
/-- while all are woken that wait for resource k -/
structure Qok (P : PSet) (k m : Nat) : Prop where
  wf : Wf P m
  room : m + (P.rsc k).q.length ≤ 100
  nd : (P.rsc k).q.Nodup
  all : ∀ p ∈ (P.rsc k).q, p < P.ps.length ∧ (P.proc p).st = 2 ∧ (P.proc p).res = k
  lt : k < P.rs.length
theorem release_ready (P : PSet) (p : Nat) (o : Out) : (release P p o).ready = without P.ready p ++ [p] := by
  unfold release wake
  show ((leave P p).setP p _).ready ++ [p] = _
  rw [show ((leave P p).setP p { (leave P p).proc p with last := o }).ready = (leave P p).ready from rfl, leave_ready]
theorem release_rsc (P : PSet) (p : Nat) (o : Out) (r : Nat) : (release P p o).rsc r = (leave P p).rsc r := rfl
theorem release_proc {P : PSet} {p : Nat} (hp : p < P.ps.length) (o : Out) : (release P p o).proc p = { P.proc p with st := 1, last := o, res := -1, left := 0, item := 0 } := by
  unfold release wake
  have h1 : p < (leave P p).ps.length := by rw [leave_n]; exact hp
  show (((leave P p).setP p { (leave P p).proc p with last := o }).setP p { ((leave P p).setP p { (leave P p).proc p with last := o }).proc p with st := 1 }).proc p = _
  rw [proc_setP (by rw [ps_setP]; exact h1), proc_setP h1, leave_proc hp]
theorem release_proc_ne {P : PSet} {p q : Nat} (h : q ≠ p) (o : Out) : (release P p o).proc q = P.proc q := by
  unfold release wake
  show (((leave P p).setP p { (leave P p).proc p with last := o }).setP p _).proc q = _
  rw [proc_setP_ne h, proc_setP_ne h, leave_proc_ne h]
theorem leave_q_in {P : PSet} {p r : Nat} (hr : r < P.rs.length) (h2 : (P.proc p).st = 2) (h3 : (P.proc p).res = r) : (leave P p).rsc r = { P.rsc r with q := without (P.rsc r).q p } := by
  rw [leave_in h2 h3 (by omega)]
  exact rsc_setR (P := readyOf P p) hr _
theorem without_head {f : Nat} {l : List Nat} (h : (f :: l).Nodup) : without (f :: l) f = l := by
  rw [List.nodup_cons] at h
  unfold without
  rw [List.filter_cons_of_neg (by simp), List.filter_eq_self]
  intro x hx
  have : x ≠ f := fun e => h.1 (e ▸ hx)
  simp [this]
theorem release_wf {P : PSet} {m p : Nat} (h : Wf P m) (hp : p < P.ps.length) (o : Out) : Wf (release P p o) (m + 1) :=
  ⟨by rw [release_n]; exact h.n, by rw [release_m]; exact h.m, by rw [release_ready]; have := without_le P.ready p; have := h.rd; simp; omega, fun r => by rw [release_rsc]; have := leave_q (P := P) p r; have := h.q r; omega, fun q h1 h2 => by
    by_cases e : q = p
    · subst e; rw [release_proc hp] at h2; exact absurd rfl h2
    · rw [release_proc_ne e] at h1 h2 ⊢; rw [release_m]; exact h.res q h1 h2⟩
theorem Qok.step {P : PSet} {k m f : Nat} {rest : List Nat} (h : Qok P k m) (hq : (P.rsc k).q = f :: rest) : Qok (release P f ok) k (m + 1) ∧ ((release P f ok).rsc k).q = rest := by
  obtain ⟨h1, h2, h3⟩ := h.all f (by rw [hq]; simp)
  have hnd := h.nd
  rw [hq] at hnd
  have e : ((release P f ok).rsc k).q = rest := by
    rw [release_rsc, leave_q_in h.lt h2 h3]
    show without (P.rsc k).q f = rest
    rw [hq, without_head hnd]
  have hr := h.room
  rw [hq] at hr
  refine ⟨⟨release_wf h.wf h1 _, by rw [e]; simp at hr; omega, by rw [e]; exact (List.nodup_cons.1 hnd).2, fun p hp => ?_, by rw [release_m]; exact h.lt⟩, e⟩
  rw [e] at hp
  have hne : p ≠ f := fun e => (List.nodup_cons.1 hnd).1 (e ▸ hp)
  rw [release_proc_ne hne, release_n]
  exact h.all p (by rw [hq]; simp [hp])
theorem Qok.start {P : PSet} {k : Nat} (h : Inv P) (hk : k < P.rs.length) : Qok (upR P k) k 8 := by
  have e : (upR P k).rsc k = { P.rsc k with count := 1 } := rsc_setR hk _
  refine ⟨h.wf.setR (h.qlen k), by rw [e]; have := h.qlen k; show 8 + (P.rsc k).q.length ≤ 100; omega, by rw [e]; exact h.qnd k hk, fun p hp => ?_, by unfold upR; rw [rs_setR]; exact hk⟩
  rw [e] at hp
  have := (h.qin k hk p).1 hp
  exact ⟨this.1, this.2.1, this.2.2.1⟩
end Nac.Procs
namespace Go.Proofs.Ytgeffkdobnipgaa
open Go.RowKit Nac Nac.Procs
theorem FrS.drewN {S : Nat} {A A' : Nat → Option Addr} {w w' : World} (h : FrS S A w A' w') (n : Nat) : FrS S A w A' (w'.drewN n) := ⟨h.os, h.tape, h.output, h.size, h.block, h.foot, h.p0, h.p1⟩
def lenV : Option Value → Nat
  | some (.slice _ n _) => n
  | _ => 0
def SigRel (S : Nat) (A : Nat → Option Addr) (w1 : World) (g1 k : Nat) (F : PSet) (wr : World) : Prop :=
  ∃ (P : PSet) (A' : Nat → Option Addr) (c' : Nat → Nat) (m : Nat), SetM wr S P A' c' ∧ FrS S A w1 A' wr ∧ A' 1 = some ⟨g1, 0, none⟩ ∧ Qok P k m ∧ wakeAll P (P.rsc k).q = F
set_option maxRecDepth 100000 in
set_option maxHeartbeats 1000000 in
theorem give_refused (w : World) (S : Nat) (P : PSet) (A : Nat → Option Addr) (c : Nat → Nat) (h : SetM w S P A c) (hI : Inv P) (r v ticks e : Int) (hrf : refusedI P (runI P) r ticks = e) (he : e ≠ 0) :
    Calls Try.prog 15 #[.pointer (some ⟨S, 0, none⟩), .int .i64 r, .int .i64 v, .int .i64 ticks] w (RetSet w S A (.agg (ocs (errO e)).toArray) P) := by
  have H := Lib.hid h
  have HI := Lib.hid hI
  clear h hI
  have HRF := Lib.hid hrf
  have he1 : (e != 0) = true := by simpa using he
  have he2 : (e == 0) = false := by simpa using he
  clear hrf he
  go_enter Try.func15, Try.ntmps15
  go_wp2_with ((with_reducible show wpList _ _ _ (Oper.mk _ (Op.alloc 37) _ _ _ _ :: _) _ _); refine wpList_allocS _ zOut rfl rfl ?_)
  intro w1 hbk hg1 hs1
  obtain ⟨b, hb⟩ : ∃ b, b = w.heap.size := ⟨_, rfl⟩
  rw [← hb] at hbk ⊢
  have HNF : Hid (¬ Foot S A b) := Lib.hid (H.out.notFoot (by rw [hb]; exact Nat.le_refl _))
  have HBL : Hid (b < w1.heap.size) := Lib.hid (by omega)
  have HB1 := Lib.hid hbk
  have HG1 := Lib.hid hg1
  have HBE : Hid (w.heap.size ≤ b) := Lib.hid (by omega)
  have H1 : Hid (SetM w1 S P A c) := Lib.hid (H.out.apart hg1 fun k e => by cases e)
  clear hbk hg1 hs1 hb H
  go_wp2_with fail
  refine (Running_calls w1 S P A c H1.out HI.out.wf.n (by have := HI.out.rlen; omega) HI.out.rin).mono ?_
  rintro e w2 ⟨rfl, hb2⟩
  have H2 : Hid (SetM w2 S P A c) := Lib.hid (H1.out.below hb2)
  have HF2 : Hid (FrS S A w1 A w2) := Lib.hid (FrS.below hb2)
  clear hb2 H1
  go_wp2_with fail
  refine (refused_calls w2 S P A c H2.out (runI P) _ ticks).mono ?_
  rintro e w3 ⟨rfl, rfl⟩
  rw [HRF.out]
  have HBZ : Hid (Blk _ b [.int .i64 0, .int .i64 0, .bool false]) := Lib.hid (HF2.out.blk HB1.out HNF.out)
  go_wp2_with ((with_reducible show wpList _ _ _ (Oper.mk _ (Op.store 37 _ _) _ _ _ _ :: _) _ _); refine wpList_storeS sOut rfl _ _ rfl b [.int .i64 0, .int .i64 0, .bool false] (ocs (errO e)) rfl rfl HBZ.out rfl rfl (ocs_one _) ?_)
  intro w8 hb8 hg8
  have l8 := Lib.hid (run_loadS sOut b _ hb8 rfl)
  have HRS := Lib.hid (RetSet.fin (v := .agg (ocs (errO e)).toArray) HG1.out HBE.out HNF.out HBL.out HF2.out H2.out hg8)
  clear hb8 hg8
  go_wp2
  exact bodyPost_ret (v := .agg (ocs (errO e)).toArray) (by simp [results, Try.results15, asAddr, Sem.run_bind, Sem.run_pure, l8.out]) rfl HRS.out
set_option maxRecDepth 100000 in
set_option maxHeartbeats 1000000 in
theorem give_sig (w : World) (S : Nat) (P : PSet) (A : Nat → Option Addr) (c : Nat → Nat) (h : SetM w S P A c) (hI : Inv P) (k p : Nat) (v ticks : Int) (hrf : refusedI P (runI P) k ticks = 0) (hru : runI P = p) (hp : p < P.ps.length) (hk : k < P.rs.length) (ki cn mo : Int) (hki : ki = (P.rsc k).kind) (hcn : cn = (P.rsc k).count) (hmo : mo = (P.rsc k).most) (hkk : ki = 1) :
    Calls Try.prog 15 #[.pointer (some ⟨S, 0, none⟩), .int .i64 (k : Int), .int .i64 v, .int .i64 ticks] w (RetSet w S A (.agg (ocs ok).toArray) (wakeAll (upR P k) (P.rsc k).q)) := by
  have H := Lib.hid h
  have HI := Lib.hid hI
  clear h hI
  have HRF := Lib.hid hrf
  have HRU := Lib.hid hru
  have HP := Lib.hid hp
  have HK := Lib.hid hk
  have HKI := Lib.hid hki
  have HCN := Lib.hid hcn
  have HMO := Lib.hid hmo
  clear hrf hru hp hk hki hcn hmo
  subst hkk
  go_enter Try.func15, Try.ntmps15
  go_wp2_with ((with_reducible show wpList _ _ _ (Oper.mk _ (Op.alloc 37) _ _ _ _ :: _) _ _); refine wpList_allocS _ zOut rfl rfl ?_)
  intro w1 hbk hg1 hs1
  obtain ⟨b, hb⟩ : ∃ b, b = w.heap.size := ⟨_, rfl⟩
  rw [← hb] at hbk ⊢
  have HNF : Hid (¬ Foot S A b) := Lib.hid (H.out.notFoot (by rw [hb]; exact Nat.le_refl _))
  have HBL : Hid (b < w1.heap.size) := Lib.hid (by omega)
  have HB1 := Lib.hid hbk
  have HG1 := Lib.hid hg1
  have HBE : Hid (w.heap.size ≤ b) := Lib.hid (by omega)
  have H1 : Hid (SetM w1 S P A c) := Lib.hid (H.out.apart hg1 fun k e => by cases e)
  clear hbk hg1 hs1 hb H
  go_wp2_with fail
  refine (Running_calls w1 S P A c H1.out HI.out.wf.n (by have := HI.out.rlen; omega) HI.out.rin).mono ?_
  rintro e w2 ⟨rfl, hb2⟩
  have H2 : Hid (SetM w2 S P A c) := Lib.hid (H1.out.below hb2)
  have HF2 : Hid (FrS S A w1 A w2) := Lib.hid (FrS.below hb2)
  clear hb2 H1
  go_wp2_with fail
  refine (refused_calls w2 S P A c H2.out (runI P) _ ticks).mono ?_
  rintro e w3 ⟨rfl, rfl⟩
  rw [HRF.out]
  obtain ⟨g1, hA1, _⟩ := H2.out.rcell HK.out
  obtain ⟨n1, hn1⟩ : ∃ n, n = P.rs.length := ⟨_, rfl⟩
  have c1 := H2.out.head1 hA1 hn1
  have ck0 : w2.cell? ⟨g1, k * 5, none⟩ = some (.int .i64 (P.rsc k).kind) := H2.out.rget (f := 0) HK.out hA1 rfl
  have ck1 : w2.cell? ⟨g1, k * 5 + 1, none⟩ = some (.int .i64 (P.rsc k).count) := H2.out.rget (f := 1) HK.out hA1 rfl
  have ck2 : w2.cell? ⟨g1, k * 5 + 2, none⟩ = some (.int .i64 (P.rsc k).most) := H2.out.rget (f := 2) HK.out hA1 rfl
  have hkn : k < n1 := by rw [hn1]; exact HK.out
  have hn18 : n1 ≤ 1000 := by rw [hn1]; exact HI.out.wf.m
  have HA1 := Lib.hid hA1
  have HN1 := Lib.hid hn1
  rw [← HKI.out] at ck0
  rw [← HCN.out] at ck1
  rw [← HMO.out] at ck2
  clear hA1 hn1
  have HQS := Lib.hid (Qok.start HI.out HK.out)
  have HUQ : Hid (((upR P k).rsc k).q = (P.rsc k).q) := Lib.hid (by unfold upR; rw [rsc_setR HK.out])
  go_wp2_with ((with_reducible show wpList _ _ _ (Oper.mk _ (Op.store _ _ _) _ _ _ _ :: _) _ _); refine wpList_storeR rfl 3 _ _ rfl H2 HF2 1 (.int .i64 1) HK.out HA1 (by decide) { P.rsc k with count := 1 } (by rfl) rfl rfl rfl rfl s1Int rfl ?_)
  intro w4 H4 HF4
  have HS0 : Hid (SigRel S A w1 g1 k (wakeAll (upR P k) (P.rsc k).q) w4) := Lib.hid ⟨upR P k, A, c, 8, H4.out, HF4.out, HA1.out, HQS.out, by rw [HUQ.out]⟩
  clear c1 ck0 ck1 ck2 H4 HF4 H2 HF2 HQS HUQ
  go_wp2
  go_loopw [56] (fun _ wr => SigRel S A w1 g1 k (wakeAll (upR P k) (P.rsc k).q) wr) (fun _ wr => lenV (wr.cell? ⟨g1, k * 5 + 3, none⟩))
  case atStart => exact HS0.out
  case round =>
    obtain ⟨Pj, Aj, cj, m, hm, hf, ha1, hqk, hfin⟩ := hrel
    have HQK := Lib.hid hqk
    have HMJ := Lib.hid hm
    have HFJ := Lib.hid hf
    have HA1J := Lib.hid ha1
    obtain ⟨lq, hlq⟩ : ∃ n, n = (Pj.rsc k).q.length := ⟨_, rfl⟩
    have cq : wr.cell? ⟨g1, k * 5 + 3, none⟩ = some (.slice (Aj (3 + 2 * k)) lq (cj (3 + 2 * k))) := by rw [hlq]; exact hm.rget (f := 3) hqk.lt ha1 rfl
    cases hq : (Pj.rsc k).q with
    | nil =>
      have HE : Hid (SetM wr S (wakeAll (upR P k) (P.rsc k).q) Aj cj) := Lib.hid (by rw [← hfin, hq]; exact hm)
      obtain rfl : lq = 0 := by rw [hlq, hq]; rfl
      clear hm hf ha1 hqk hfin hlq hq HS0 HQK HMJ HA1J
      have HBZ : Hid (Blk _ b [.int .i64 0, .int .i64 0, .bool false]) := Lib.hid (HFJ.out.blk HB1.out HNF.out)
      go_wp2_with ((with_reducible show wpList _ _ _ (Oper.mk _ (Op.store 37 _ _) _ _ _ _ :: _) _ _); refine wpList_storeS sOut rfl _ _ rfl b [.int .i64 0, .int .i64 0, .bool false] (ocs ok) rfl rfl HBZ.out rfl rfl (ocs_one _) ?_)
      intro w8 hb8 hg8
      have l8 := Lib.hid (run_loadS sOut b _ hb8 rfl)
      have HRS := Lib.hid (RetSet.fin (v := .agg (ocs ok).toArray) HG1.out HBE.out HNF.out HBL.out HFJ.out HE.out hg8)
      clear hb8 hg8
      go_wp2
      exact bodyPost_ret (v := .agg (ocs ok).toArray) (by simp [results, Try.results15, asAddr, Sem.run_bind, Sem.run_pure, l8.out]) rfl HRS.out
    | cons f rest =>
      obtain ⟨hq2, he2⟩ := hqk.step hq
      have HQ2 := Lib.hid hq2
      have hfl := (hqk.all f (by rw [hq]; simp)).1
      have HFL := Lib.hid hfl
      have HE2 := Lib.hid he2
      have HFIN2 : Hid (wakeAll (release Pj f ok) ((release Pj f ok).rsc k).q = wakeAll (upR P k) (P.rsc k).q) := Lib.hid (by rw [he2, ← hfin, hq]; rfl)
      have HW9 : Hid (Wf Pj 999) := Lib.hid (hqk.wf.mono (by have := hqk.room; omega))
      have hlq1 : 0 < lq := by rw [hlq, hq]; exact Nat.succ_pos _
      have hlq8 : lq ≤ 1000 := by have := hqk.room; omega
      have HLR : Hid (rest.length < lq) := Lib.hid (by rw [hlq, hq]; simp)
      obtain ⟨gq, hAq, _, hcq, _⟩ := (hm.qo k hqk.lt).at (j := 0) (by rw [hq]; simp [nums])
      have cq0 : wr.cell? ⟨gq, 0, none⟩ = some (.int .i64 (f : Int)) := by rw [hcq]; simp [hq, nums]
      rw [hAq] at cq
      have CQ := Lib.hid cq
      clear hm hf ha1 hqk hfin hlq hq HS0 hq2 he2 hfl hcq hAq
      go_wp2_with fail
      refine (release_calls wr S Pj Aj cj HMJ.out HW9.out f HFL.out 0 0 false).mono ?_
      rintro e w7 ⟨rfl, A7, c7, h7, hf7⟩
      have hA7 : A7 1 = some ⟨g1, 0, none⟩ := hf7.p1.trans HA1J.out
      have HS7 : Hid (SigRel S A w1 g1 k (wakeAll (upR P k) (P.rsc k).q) w7) := Lib.hid ⟨release Pj f ok, A7, c7, m + 1, h7, HFJ.out.trans hf7, hA7, HQ2.out, HFIN2.out⟩
      have HC7 : Hid (w7.cell? ⟨g1, k * 5 + 3, none⟩ = some (.slice (A7 (3 + 2 * k)) rest.length (c7 (3 + 2 * k)))) := Lib.hid (by rw [← HE2.out]; exact h7.rget (f := 3) HQ2.out.lt hA7 rfl)
      clear h7 hf7 hA7 cq cq0
      go_wp2
      go_roundw
      case rel => exact HS7.out
      case measure => rw [HC7.out, CQ.out]; exact HLR.out
set_option maxRecDepth 100000 in
set_option maxHeartbeats 1000000 in
theorem give_sem1 (w : World) (S : Nat) (P : PSet) (A : Nat → Option Addr) (c : Nat → Nat) (h : SetM w S P A c) (hI : Inv P) (k p : Nat) (v ticks : Int) (hrf : refusedI P (runI P) k ticks = 0) (hru : runI P = p) (hp : p < P.ps.length) (hk : k < P.rs.length) (ki cn mo : Int) (hki : ki = (P.rsc k).kind) (hcn : cn = (P.rsc k).count) (hmo : mo = (P.rsc k).most) (f : Nat) (rest : List Nat) (hq : (P.rsc k).q = f :: rest) (hkk : ki = 0) :
    Calls Try.prog 15 #[.pointer (some ⟨S, 0, none⟩), .int .i64 (k : Int), .int .i64 v, .int .i64 ticks] w (RetSet w S A (.agg (ocs ok).toArray) (release P f ok)) := by
  have H := Lib.hid h
  have HI := Lib.hid hI
  clear h hI
  have HQ := Lib.hid hq
  have hf : f < P.ps.length := ((HI.out.qin k hk f).1 (by rw [hq]; simp)).1
  have HFN := Lib.hid hf
  obtain ⟨lq, hlq⟩ : ∃ n, n = (f :: rest).length := ⟨_, rfl⟩
  have HLQ := Lib.hid hlq
  have hlq1 : 0 < lq := by rw [hlq]; exact Nat.succ_pos _
  have hlq8 : lq ≤ 1000 := by have := HI.out.qlen k; rw [hq] at this; omega
  clear hq hf hlq
  have HRF := Lib.hid hrf
  have HRU := Lib.hid hru
  have HP := Lib.hid hp
  have HK := Lib.hid hk
  have HKI := Lib.hid hki
  have HCN := Lib.hid hcn
  have HMO := Lib.hid hmo
  clear hrf hru hp hk hki hcn hmo
  subst hkk
  go_enter Try.func15, Try.ntmps15
  go_wp2_with ((with_reducible show wpList _ _ _ (Oper.mk _ (Op.alloc 37) _ _ _ _ :: _) _ _); refine wpList_allocS _ zOut rfl rfl ?_)
  intro w1 hbk hg1 hs1
  obtain ⟨b, hb⟩ : ∃ b, b = w.heap.size := ⟨_, rfl⟩
  rw [← hb] at hbk ⊢
  have HNF : Hid (¬ Foot S A b) := Lib.hid (H.out.notFoot (by rw [hb]; exact Nat.le_refl _))
  have HBL : Hid (b < w1.heap.size) := Lib.hid (by omega)
  have HB1 := Lib.hid hbk
  have HG1 := Lib.hid hg1
  have HBE : Hid (w.heap.size ≤ b) := Lib.hid (by omega)
  have H1 : Hid (SetM w1 S P A c) := Lib.hid (H.out.apart hg1 fun k e => by cases e)
  clear hbk hg1 hs1 hb H
  go_wp2_with fail
  refine (Running_calls w1 S P A c H1.out HI.out.wf.n (by have := HI.out.rlen; omega) HI.out.rin).mono ?_
  rintro e w2 ⟨rfl, hb2⟩
  have H2 : Hid (SetM w2 S P A c) := Lib.hid (H1.out.below hb2)
  have HF2 : Hid (FrS S A w1 A w2) := Lib.hid (FrS.below hb2)
  clear hb2 H1
  go_wp2_with fail
  refine (refused_calls w2 S P A c H2.out (runI P) _ ticks).mono ?_
  rintro e w3 ⟨rfl, rfl⟩
  rw [HRF.out]
  obtain ⟨g1, hA1, _⟩ := H2.out.rcell HK.out
  obtain ⟨n1, hn1⟩ : ∃ n, n = P.rs.length := ⟨_, rfl⟩
  have c1 := H2.out.head1 hA1 hn1
  have ck0 : w2.cell? ⟨g1, k * 5, none⟩ = some (.int .i64 (P.rsc k).kind) := H2.out.rget (f := 0) HK.out hA1 rfl
  have ck1 : w2.cell? ⟨g1, k * 5 + 1, none⟩ = some (.int .i64 (P.rsc k).count) := H2.out.rget (f := 1) HK.out hA1 rfl
  have ck2 : w2.cell? ⟨g1, k * 5 + 2, none⟩ = some (.int .i64 (P.rsc k).most) := H2.out.rget (f := 2) HK.out hA1 rfl
  have hkn : k < n1 := by rw [hn1]; exact HK.out
  have hn18 : n1 ≤ 1000 := by rw [hn1]; exact HI.out.wf.m
  have HA1 := Lib.hid hA1
  have HN1 := Lib.hid hn1
  rw [← HKI.out] at ck0
  rw [← HCN.out] at ck1
  rw [← HMO.out] at ck2
  clear hA1 hn1
  obtain ⟨gq, hAq, _, hcq, _⟩ := (H2.out.qo k HK.out).at (j := 0) (by rw [HQ.out]; simp [nums])
  have cq0 : w2.cell? ⟨gq, 0, none⟩ = some (.int .i64 (f : Int)) := by rw [hcq]; simp [HQ.out, nums]
  have cq : w2.cell? ⟨g1, k * 5 + 3, none⟩ = some (.slice (some ⟨gq, 0, none⟩) lq (c (3 + 2 * k))) := by rw [← hAq, HLQ.out, ← HQ.out]; exact H2.out.rget (f := 3) HK.out HA1.out rfl
  clear hAq hcq
  go_wp2_with fail
  refine (release_calls _ S P A c H2.out (HI.out.wf.mono (by decide)) f HFN.out 0 0 false).mono ?_
  rintro e w7 ⟨rfl, A7, c7, h7, hf7⟩
  have H7 := Lib.hid h7
  have HF7 := Lib.hid (HF2.out.trans hf7)
  clear h7 hf7
  clear c1 ck0 ck1 ck2 cq0 cq H2 HF2
  have HBZ : Hid (Blk _ b [.int .i64 0, .int .i64 0, .bool false]) := Lib.hid (HF7.out.blk HB1.out HNF.out)
  go_wp2_with ((with_reducible show wpList _ _ _ (Oper.mk _ (Op.store 37 _ _) _ _ _ _ :: _) _ _); refine wpList_storeS sOut rfl _ _ rfl b [.int .i64 0, .int .i64 0, .bool false] (ocs ok) rfl rfl HBZ.out rfl rfl (ocs_one _) ?_)
  intro w8 hb8 hg8
  have l8 := Lib.hid (run_loadS sOut b _ hb8 rfl)
  have HRS := Lib.hid (RetSet.fin (v := .agg (ocs ok).toArray) HG1.out HBE.out HNF.out HBL.out HF7.out H7.out hg8)
  clear hb8 hg8
  go_wp2
  exact bodyPost_ret (v := .agg (ocs ok).toArray) (by simp [results, Try.results15, asAddr, Sem.run_bind, Sem.run_pure, l8.out]) rfl HRS.out
set_option maxRecDepth 100000 in
set_option maxHeartbeats 1000000 in
theorem give_sem0 (w : World) (S : Nat) (P : PSet) (A : Nat → Option Addr) (c : Nat → Nat) (h : SetM w S P A c) (hI : Inv P) (k p : Nat) (v ticks : Int) (hrf : refusedI P (runI P) k ticks = 0) (hru : runI P = p) (hp : p < P.ps.length) (hk : k < P.rs.length) (ki cn mo : Int) (hki : ki = (P.rsc k).kind) (hcn : cn = (P.rsc k).count) (hmo : mo = (P.rsc k).most) (hq : (P.rsc k).q = []) (hkk : ki = 0) (hcm : cn = mo) :
    Calls Try.prog 15 #[.pointer (some ⟨S, 0, none⟩), .int .i64 (k : Int), .int .i64 v, .int .i64 ticks] w (RetSet w S A (.agg (ocs (errO 5)).toArray) P) := by
  have H := Lib.hid h
  have HI := Lib.hid hI
  clear h hI
  have hcm1 : (cn == mo) = true := by simp; omega
  have hcm2 : (cn != mo) = false := by simp; omega
  have HQ := Lib.hid hq
  clear hq
  have HRF := Lib.hid hrf
  have HRU := Lib.hid hru
  have HP := Lib.hid hp
  have HK := Lib.hid hk
  have HKI := Lib.hid hki
  have HCN := Lib.hid hcn
  have HMO := Lib.hid hmo
  clear hrf hru hp hk hki hcn hmo
  subst hkk
  clear hcm
  go_enter Try.func15, Try.ntmps15
  go_wp2_with ((with_reducible show wpList _ _ _ (Oper.mk _ (Op.alloc 37) _ _ _ _ :: _) _ _); refine wpList_allocS _ zOut rfl rfl ?_)
  intro w1 hbk hg1 hs1
  obtain ⟨b, hb⟩ : ∃ b, b = w.heap.size := ⟨_, rfl⟩
  rw [← hb] at hbk ⊢
  have HNF : Hid (¬ Foot S A b) := Lib.hid (H.out.notFoot (by rw [hb]; exact Nat.le_refl _))
  have HBL : Hid (b < w1.heap.size) := Lib.hid (by omega)
  have HB1 := Lib.hid hbk
  have HG1 := Lib.hid hg1
  have HBE : Hid (w.heap.size ≤ b) := Lib.hid (by omega)
  have H1 : Hid (SetM w1 S P A c) := Lib.hid (H.out.apart hg1 fun k e => by cases e)
  clear hbk hg1 hs1 hb H
  go_wp2_with fail
  refine (Running_calls w1 S P A c H1.out HI.out.wf.n (by have := HI.out.rlen; omega) HI.out.rin).mono ?_
  rintro e w2 ⟨rfl, hb2⟩
  have H2 : Hid (SetM w2 S P A c) := Lib.hid (H1.out.below hb2)
  have HF2 : Hid (FrS S A w1 A w2) := Lib.hid (FrS.below hb2)
  clear hb2 H1
  go_wp2_with fail
  refine (refused_calls w2 S P A c H2.out (runI P) _ ticks).mono ?_
  rintro e w3 ⟨rfl, rfl⟩
  rw [HRF.out]
  obtain ⟨g1, hA1, _⟩ := H2.out.rcell HK.out
  obtain ⟨n1, hn1⟩ : ∃ n, n = P.rs.length := ⟨_, rfl⟩
  have c1 := H2.out.head1 hA1 hn1
  have ck0 : w2.cell? ⟨g1, k * 5, none⟩ = some (.int .i64 (P.rsc k).kind) := H2.out.rget (f := 0) HK.out hA1 rfl
  have ck1 : w2.cell? ⟨g1, k * 5 + 1, none⟩ = some (.int .i64 (P.rsc k).count) := H2.out.rget (f := 1) HK.out hA1 rfl
  have ck2 : w2.cell? ⟨g1, k * 5 + 2, none⟩ = some (.int .i64 (P.rsc k).most) := H2.out.rget (f := 2) HK.out hA1 rfl
  have hkn : k < n1 := by rw [hn1]; exact HK.out
  have hn18 : n1 ≤ 1000 := by rw [hn1]; exact HI.out.wf.m
  have HA1 := Lib.hid hA1
  have HN1 := Lib.hid hn1
  rw [← HKI.out] at ck0
  rw [← HCN.out] at ck1
  rw [← HMO.out] at ck2
  clear hA1 hn1
  have cq : w2.cell? ⟨g1, k * 5 + 3, none⟩ = some (.slice (A (3 + 2 * k)) 0 (c (3 + 2 * k))) := by rw [show (0 : Nat) = (P.rsc k).q.length by rw [HQ.out]; rfl]; exact H2.out.rget (f := 3) HK.out HA1.out rfl
  go_wp2_with fail
  go_quiet (fail)
  have H3 : Hid (SetM (w2.drewN nq) S P A c) := Lib.hid (H2.out.drewN nq)
  have HF3 : Hid (FrS S A w1 A (w2.drewN nq)) := Lib.hid (HF2.out.drewN nq)
  have HBZ : Hid (Blk _ b [.int .i64 0, .int .i64 0, .bool false]) := Lib.hid (HF3.out.blk HB1.out HNF.out)
  go_wp2_with ((with_reducible show wpList _ _ _ (Oper.mk _ (Op.store 37 _ _) _ _ _ _ :: _) _ _); refine wpList_storeS sOut rfl _ _ rfl b [.int .i64 0, .int .i64 0, .bool false] (ocs (errO 5)) rfl rfl HBZ.out rfl rfl (ocs_one _) ?_)
  intro w8 hb8 hg8
  have l8 := Lib.hid (run_loadS sOut b _ hb8 rfl)
  have HRS := Lib.hid (RetSet.fin (v := .agg (ocs (errO 5)).toArray) HG1.out HBE.out HNF.out HBL.out HF3.out H3.out hg8)
  clear hb8 hg8
  go_wp2
  exact bodyPost_ret (v := .agg (ocs (errO 5)).toArray) (by simp [results, Try.results15, asAddr, Sem.run_bind, Sem.run_pure, l8.out]) rfl HRS.out
set_option maxRecDepth 100000 in
set_option maxHeartbeats 1000000 in
theorem give_sem2 (w : World) (S : Nat) (P : PSet) (A : Nat → Option Addr) (c : Nat → Nat) (h : SetM w S P A c) (hI : Inv P) (k p : Nat) (v ticks : Int) (hrf : refusedI P (runI P) k ticks = 0) (hru : runI P = p) (hp : p < P.ps.length) (hk : k < P.rs.length) (ki cn mo : Int) (hki : ki = (P.rsc k).kind) (hcn : cn = (P.rsc k).count) (hmo : mo = (P.rsc k).most) (hq : (P.rsc k).q = []) (hkk : ki = 0) (hcm : cn ≠ mo) :
    Calls Try.prog 15 #[.pointer (some ⟨S, 0, none⟩), .int .i64 (k : Int), .int .i64 v, .int .i64 ticks] w (RetSet w S A (.agg (ocs ok).toArray) (P.setR k { P.rsc k with count := (P.rsc k).count + 1 })) := by
  have H := Lib.hid h
  have HI := Lib.hid hI
  clear h hI
  have hcm1 : (cn == mo) = false := by simp; omega
  have hcm2 : (cn != mo) = true := by simp; omega
  have hb1 : 0 ≤ cn ∧ cn ≤ 16 := by have := HI.out.cnt k hk; have := HI.out.most k hk; omega
  obtain ⟨hb1, hb2'⟩ := hb1
  have HQ := Lib.hid hq
  clear hq
  have HRF := Lib.hid hrf
  have HRU := Lib.hid hru
  have HP := Lib.hid hp
  have HK := Lib.hid hk
  have HKI := Lib.hid hki
  have HCN := Lib.hid hcn
  have HMO := Lib.hid hmo
  clear hrf hru hp hk hki hcn hmo
  subst hkk
  clear hcm
  go_enter Try.func15, Try.ntmps15
  go_wp2_with ((with_reducible show wpList _ _ _ (Oper.mk _ (Op.alloc 37) _ _ _ _ :: _) _ _); refine wpList_allocS _ zOut rfl rfl ?_)
  intro w1 hbk hg1 hs1
  obtain ⟨b, hb⟩ : ∃ b, b = w.heap.size := ⟨_, rfl⟩
  rw [← hb] at hbk ⊢
  have HNF : Hid (¬ Foot S A b) := Lib.hid (H.out.notFoot (by rw [hb]; exact Nat.le_refl _))
  have HBL : Hid (b < w1.heap.size) := Lib.hid (by omega)
  have HB1 := Lib.hid hbk
  have HG1 := Lib.hid hg1
  have HBE : Hid (w.heap.size ≤ b) := Lib.hid (by omega)
  have H1 : Hid (SetM w1 S P A c) := Lib.hid (H.out.apart hg1 fun k e => by cases e)
  clear hbk hg1 hs1 hb H
  go_wp2_with fail
  refine (Running_calls w1 S P A c H1.out HI.out.wf.n (by have := HI.out.rlen; omega) HI.out.rin).mono ?_
  rintro e w2 ⟨rfl, hb2⟩
  have H2 : Hid (SetM w2 S P A c) := Lib.hid (H1.out.below hb2)
  have HF2 : Hid (FrS S A w1 A w2) := Lib.hid (FrS.below hb2)
  clear hb2 H1
  go_wp2_with fail
  refine (refused_calls w2 S P A c H2.out (runI P) _ ticks).mono ?_
  rintro e w3 ⟨rfl, rfl⟩
  rw [HRF.out]
  obtain ⟨g1, hA1, _⟩ := H2.out.rcell HK.out
  obtain ⟨n1, hn1⟩ : ∃ n, n = P.rs.length := ⟨_, rfl⟩
  have c1 := H2.out.head1 hA1 hn1
  have ck0 : w2.cell? ⟨g1, k * 5, none⟩ = some (.int .i64 (P.rsc k).kind) := H2.out.rget (f := 0) HK.out hA1 rfl
  have ck1 : w2.cell? ⟨g1, k * 5 + 1, none⟩ = some (.int .i64 (P.rsc k).count) := H2.out.rget (f := 1) HK.out hA1 rfl
  have ck2 : w2.cell? ⟨g1, k * 5 + 2, none⟩ = some (.int .i64 (P.rsc k).most) := H2.out.rget (f := 2) HK.out hA1 rfl
  have hkn : k < n1 := by rw [hn1]; exact HK.out
  have hn18 : n1 ≤ 1000 := by rw [hn1]; exact HI.out.wf.m
  have HA1 := Lib.hid hA1
  have HN1 := Lib.hid hn1
  rw [← HKI.out] at ck0
  rw [← HCN.out] at ck1
  rw [← HMO.out] at ck2
  clear hA1 hn1
  have cq : w2.cell? ⟨g1, k * 5 + 3, none⟩ = some (.slice (A (3 + 2 * k)) 0 (c (3 + 2 * k))) := by rw [show (0 : Nat) = (P.rsc k).q.length by rw [HQ.out]; rfl]; exact H2.out.rget (f := 3) HK.out HA1.out rfl
  go_wp2_with fail
  go_quiet (fail)
  have H3 : Hid (SetM (w2.drewN nq) S P A c) := Lib.hid (H2.out.drewN nq)
  have HF3 : Hid (FrS S A w1 A (w2.drewN nq)) := Lib.hid (HF2.out.drewN nq)
  go_wp2_with ((with_reducible show wpList _ _ _ (Oper.mk _ (Op.store _ _ _) _ _ _ _ :: _) _ _); refine wpList_storeR rfl 3 _ _ rfl H3 HF3 1 (.int .i64 (cn + 1)) HK.out HA1 (by decide) { P.rsc k with count := (P.rsc k).count + 1 } (by rw [HCN.out]; rfl) rfl rfl rfl rfl s1Int rfl ?_)
  intro w4 H4 HF4
  clear c1 ck0 ck1 ck2 cq
  have HBZ : Hid (Blk _ b [.int .i64 0, .int .i64 0, .bool false]) := Lib.hid (HF4.out.blk HB1.out HNF.out)
  go_wp2_with ((with_reducible show wpList _ _ _ (Oper.mk _ (Op.store 37 _ _) _ _ _ _ :: _) _ _); refine wpList_storeS sOut rfl _ _ rfl b [.int .i64 0, .int .i64 0, .bool false] (ocs ok) rfl rfl HBZ.out rfl rfl (ocs_one _) ?_)
  intro w8 hb8 hg8
  have l8 := Lib.hid (run_loadS sOut b _ hb8 rfl)
  have HRS := Lib.hid (RetSet.fin (v := .agg (ocs ok).toArray) HG1.out HBE.out HNF.out HBL.out HF4.out H4.out hg8)
  clear hb8 hg8
  go_wp2
  exact bodyPost_ret (v := .agg (ocs ok).toArray) (by simp [results, Try.results15, asAddr, Sem.run_bind, Sem.run_pure, l8.out]) rfl HRS.out
set_option maxRecDepth 100000 in
set_option maxHeartbeats 1000000 in
theorem give_busy (w : World) (S : Nat) (P : PSet) (A : Nat → Option Addr) (c : Nat → Nat) (h : SetM w S P A c) (hI : Inv P) (k p : Nat) (v ticks : Int) (hrf : refusedI P (runI P) k ticks = 0) (hru : runI P = p) (hp : p < P.ps.length) (hk : k < P.rs.length) (ki cn mo : Int) (hki : ki = (P.rsc k).kind) (hcn : cn = (P.rsc k).count) (hmo : mo = (P.rsc k).most) (hkk : ki = 2) (hcm : cn = mo) (ht : ticks = 0) :
    Calls Try.prog 15 #[.pointer (some ⟨S, 0, none⟩), .int .i64 (k : Int), .int .i64 v, .int .i64 ticks] w (RetSet w S A (.agg (ocs busy).toArray) P) := by
  have H := Lib.hid h
  have HI := Lib.hid hI
  clear h hI
  have hcm1 : (cn == mo) = true := by simp; omega
  have hcm2 : (cn != mo) = false := by simp; omega
  have HRF := Lib.hid hrf
  have HRU := Lib.hid hru
  have HP := Lib.hid hp
  have HK := Lib.hid hk
  have HKI := Lib.hid hki
  have HCN := Lib.hid hcn
  have HMO := Lib.hid hmo
  clear hrf hru hp hk hki hcn hmo
  subst hkk ht
  clear hcm
  go_enter Try.func15, Try.ntmps15
  go_wp2_with ((with_reducible show wpList _ _ _ (Oper.mk _ (Op.alloc 37) _ _ _ _ :: _) _ _); refine wpList_allocS _ zOut rfl rfl ?_)
  intro w1 hbk hg1 hs1
  obtain ⟨b, hb⟩ : ∃ b, b = w.heap.size := ⟨_, rfl⟩
  rw [← hb] at hbk ⊢
  have HNF : Hid (¬ Foot S A b) := Lib.hid (H.out.notFoot (by rw [hb]; exact Nat.le_refl _))
  have HBL : Hid (b < w1.heap.size) := Lib.hid (by omega)
  have HB1 := Lib.hid hbk
  have HG1 := Lib.hid hg1
  have HBE : Hid (w.heap.size ≤ b) := Lib.hid (by omega)
  have H1 : Hid (SetM w1 S P A c) := Lib.hid (H.out.apart hg1 fun k e => by cases e)
  clear hbk hg1 hs1 hb H
  go_wp2_with fail
  refine (Running_calls w1 S P A c H1.out HI.out.wf.n (by have := HI.out.rlen; omega) HI.out.rin).mono ?_
  rintro e w2 ⟨rfl, hb2⟩
  have H2 : Hid (SetM w2 S P A c) := Lib.hid (H1.out.below hb2)
  have HF2 : Hid (FrS S A w1 A w2) := Lib.hid (FrS.below hb2)
  clear hb2 H1
  go_wp2_with fail
  refine (refused_calls w2 S P A c H2.out (runI P) _ 0).mono ?_
  rintro e w3 ⟨rfl, rfl⟩
  rw [HRF.out]
  obtain ⟨g1, hA1, _⟩ := H2.out.rcell HK.out
  obtain ⟨n1, hn1⟩ : ∃ n, n = P.rs.length := ⟨_, rfl⟩
  have c1 := H2.out.head1 hA1 hn1
  have ck0 : w2.cell? ⟨g1, k * 5, none⟩ = some (.int .i64 (P.rsc k).kind) := H2.out.rget (f := 0) HK.out hA1 rfl
  have ck1 : w2.cell? ⟨g1, k * 5 + 1, none⟩ = some (.int .i64 (P.rsc k).count) := H2.out.rget (f := 1) HK.out hA1 rfl
  have ck2 : w2.cell? ⟨g1, k * 5 + 2, none⟩ = some (.int .i64 (P.rsc k).most) := H2.out.rget (f := 2) HK.out hA1 rfl
  have hkn : k < n1 := by rw [hn1]; exact HK.out
  have hn18 : n1 ≤ 1000 := by rw [hn1]; exact HI.out.wf.m
  have HA1 := Lib.hid hA1
  have HN1 := Lib.hid hn1
  rw [← HKI.out] at ck0
  rw [← HCN.out] at ck1
  rw [← HMO.out] at ck2
  clear hA1 hn1
  go_wp2_with fail
  go_quiet (fail)
  have H3 : Hid (SetM (w2.drewN nq) S P A c) := Lib.hid (H2.out.drewN nq)
  have HF3 : Hid (FrS S A w1 A (w2.drewN nq)) := Lib.hid (HF2.out.drewN nq)
  have HBZ : Hid (Blk _ b [.int .i64 0, .int .i64 0, .bool false]) := Lib.hid (HF3.out.blk HB1.out HNF.out)
  go_wp2_with ((with_reducible show wpList _ _ _ (Oper.mk _ (Op.store 37 _ _) _ _ _ _ :: _) _ _); refine wpList_storeS sOut rfl _ _ rfl b [.int .i64 0, .int .i64 0, .bool false] (ocs busy) rfl rfl HBZ.out rfl rfl (ocs_one _) ?_)
  intro w8 hb8 hg8
  have l8 := Lib.hid (run_loadS sOut b _ hb8 rfl)
  have HRS := Lib.hid (RetSet.fin (v := .agg (ocs busy).toArray) HG1.out HBE.out HNF.out HBL.out HF3.out H3.out hg8)
  clear hb8 hg8
  go_wp2
  exact bodyPost_ret (v := .agg (ocs busy).toArray) (by simp [results, Try.results15, asAddr, Sem.run_bind, Sem.run_pure, l8.out]) rfl HRS.out
set_option maxRecDepth 100000 in
set_option maxHeartbeats 1000000 in
theorem give_wait (w : World) (S : Nat) (P : PSet) (A : Nat → Option Addr) (c : Nat → Nat) (h : SetM w S P A c) (hI : Inv P) (k p : Nat) (v ticks : Int) (hrf : refusedI P (runI P) k ticks = 0) (hru : runI P = p) (hp : p < P.ps.length) (hk : k < P.rs.length) (ki cn mo : Int) (hki : ki = (P.rsc k).kind) (hcn : cn = (P.rsc k).count) (hmo : mo = (P.rsc k).most) (hkk : ki = 2) (hcm : cn = mo) (ht : ticks ≠ 0) :
    Calls Try.prog 15 #[.pointer (some ⟨S, 0, none⟩), .int .i64 (k : Int), .int .i64 v, .int .i64 ticks] w (RetSet w S A (.agg (ocs waits).toArray) (park P p k ticks v)) := by
  have H := Lib.hid h
  have HI := Lib.hid hI
  clear h hI
  have hcm1 : (cn == mo) = true := by simp; omega
  have hcm2 : (cn != mo) = false := by simp; omega
  have ht1 : (ticks == 0) = false := by simpa using ht
  have ht2 : (ticks != 0) = true := by simpa using ht
  have HRF := Lib.hid hrf
  have HRU := Lib.hid hru
  have HP := Lib.hid hp
  have HK := Lib.hid hk
  have HKI := Lib.hid hki
  have HCN := Lib.hid hcn
  have HMO := Lib.hid hmo
  clear hrf hru hp hk hki hcn hmo
  subst hkk
  clear hcm ht
  go_enter Try.func15, Try.ntmps15
  go_wp2_with ((with_reducible show wpList _ _ _ (Oper.mk _ (Op.alloc 37) _ _ _ _ :: _) _ _); refine wpList_allocS _ zOut rfl rfl ?_)
  intro w1 hbk hg1 hs1
  obtain ⟨b, hb⟩ : ∃ b, b = w.heap.size := ⟨_, rfl⟩
  rw [← hb] at hbk ⊢
  have HNF : Hid (¬ Foot S A b) := Lib.hid (H.out.notFoot (by rw [hb]; exact Nat.le_refl _))
  have HBL : Hid (b < w1.heap.size) := Lib.hid (by omega)
  have HB1 := Lib.hid hbk
  have HG1 := Lib.hid hg1
  have HBE : Hid (w.heap.size ≤ b) := Lib.hid (by omega)
  have H1 : Hid (SetM w1 S P A c) := Lib.hid (H.out.apart hg1 fun k e => by cases e)
  clear hbk hg1 hs1 hb H
  go_wp2_with fail
  refine (Running_calls w1 S P A c H1.out HI.out.wf.n (by have := HI.out.rlen; omega) HI.out.rin).mono ?_
  rintro e w2 ⟨rfl, hb2⟩
  have H2 : Hid (SetM w2 S P A c) := Lib.hid (H1.out.below hb2)
  have HF2 : Hid (FrS S A w1 A w2) := Lib.hid (FrS.below hb2)
  clear hb2 H1
  go_wp2_with fail
  refine (refused_calls w2 S P A c H2.out (runI P) _ ticks).mono ?_
  rintro e w3 ⟨rfl, rfl⟩
  rw [HRF.out]
  obtain ⟨g1, hA1, _⟩ := H2.out.rcell HK.out
  obtain ⟨n1, hn1⟩ : ∃ n, n = P.rs.length := ⟨_, rfl⟩
  have c1 := H2.out.head1 hA1 hn1
  have ck0 : w2.cell? ⟨g1, k * 5, none⟩ = some (.int .i64 (P.rsc k).kind) := H2.out.rget (f := 0) HK.out hA1 rfl
  have ck1 : w2.cell? ⟨g1, k * 5 + 1, none⟩ = some (.int .i64 (P.rsc k).count) := H2.out.rget (f := 1) HK.out hA1 rfl
  have ck2 : w2.cell? ⟨g1, k * 5 + 2, none⟩ = some (.int .i64 (P.rsc k).most) := H2.out.rget (f := 2) HK.out hA1 rfl
  have hkn : k < n1 := by rw [hn1]; exact HK.out
  have hn18 : n1 ≤ 1000 := by rw [hn1]; exact HI.out.wf.m
  have HA1 := Lib.hid hA1
  have HN1 := Lib.hid hn1
  rw [← HKI.out] at ck0
  rw [← HCN.out] at ck1
  rw [← HMO.out] at ck2
  clear hA1 hn1
  go_wp2_with fail
  go_quiet (fail)
  have H3 : Hid (SetM (w2.drewN nq) S P A c) := Lib.hid (H2.out.drewN nq)
  have HF3 : Hid (FrS S A w1 A (w2.drewN nq)) := Lib.hid (HF2.out.drewN nq)
  rw [HRU.out]
  go_wp2_with fail
  refine (wait_res (w2.drewN nq) S P A c H3.out (HI.out.wf.mono (by decide)) p k HP.out HK.out ticks v).mono ?_
  rintro e w4 ⟨rfl, A4, c4, h4, hf4⟩
  have H4 := Lib.hid h4
  have HF4 := Lib.hid (HF3.out.trans hf4)
  clear h4 hf4 H2 HF2 H3 HF3
  have HBZ : Hid (Blk _ b [.int .i64 0, .int .i64 0, .bool false]) := Lib.hid (HF4.out.blk HB1.out HNF.out)
  go_wp2_with ((with_reducible show wpList _ _ _ (Oper.mk _ (Op.store 37 _ _) _ _ _ _ :: _) _ _); refine wpList_storeS sOut rfl _ _ rfl b [.int .i64 0, .int .i64 0, .bool false] (ocs waits) rfl rfl HBZ.out rfl rfl (ocs_one _) ?_)
  intro w8 hb8 hg8
  have l8 := Lib.hid (run_loadS sOut b _ hb8 rfl)
  have HRS := Lib.hid (RetSet.fin (v := .agg (ocs waits).toArray) HG1.out HBE.out HNF.out HBL.out HF4.out H4.out hg8)
  clear hb8 hg8
  go_wp2
  exact bodyPost_ret (v := .agg (ocs waits).toArray) (by simp [results, Try.results15, asAddr, Sem.run_bind, Sem.run_pure, l8.out]) rfl HRS.out
set_option maxRecDepth 100000 in
set_option maxHeartbeats 1000000 in
theorem give_buf1 (w : World) (S : Nat) (P : PSet) (A : Nat → Option Addr) (c : Nat → Nat) (h : SetM w S P A c) (hI : Inv P) (k p : Nat) (v ticks : Int) (hrf : refusedI P (runI P) k ticks = 0) (hru : runI P = p) (hp : p < P.ps.length) (hk : k < P.rs.length) (ki cn mo : Int) (hki : ki = (P.rsc k).kind) (hcn : cn = (P.rsc k).count) (hmo : mo = (P.rsc k).most) (f : Nat) (rest : List Nat) (hq : (P.rsc k).q = f :: rest) (hkk : ki = 2) (hcm : cn ≠ mo) :
    Calls Try.prog 15 #[.pointer (some ⟨S, 0, none⟩), .int .i64 (k : Int), .int .i64 v, .int .i64 ticks] w (RetSet w S A (.agg (ocs ok).toArray) (release P f ⟨0, v, false⟩)) := by
  have H := Lib.hid h
  have HI := Lib.hid hI
  clear h hI
  have hcm1 : (cn == mo) = false := by simp; omega
  have hcm2 : (cn != mo) = true := by simp; omega
  have HQ := Lib.hid hq
  have hf : f < P.ps.length := ((HI.out.qin k hk f).1 (by rw [hq]; simp)).1
  have HFN := Lib.hid hf
  obtain ⟨lq, hlq⟩ : ∃ n, n = (f :: rest).length := ⟨_, rfl⟩
  have HLQ := Lib.hid hlq
  have hlq1 : 0 < lq := by rw [hlq]; exact Nat.succ_pos _
  have hlq8 : lq ≤ 1000 := by have := HI.out.qlen k; rw [hq] at this; omega
  clear hq hf hlq
  have HRF := Lib.hid hrf
  have HRU := Lib.hid hru
  have HP := Lib.hid hp
  have HK := Lib.hid hk
  have HKI := Lib.hid hki
  have HCN := Lib.hid hcn
  have HMO := Lib.hid hmo
  clear hrf hru hp hk hki hcn hmo
  subst hkk
  clear hcm
  go_enter Try.func15, Try.ntmps15
  go_wp2_with ((with_reducible show wpList _ _ _ (Oper.mk _ (Op.alloc 37) _ _ _ _ :: _) _ _); refine wpList_allocS _ zOut rfl rfl ?_)
  intro w1 hbk hg1 hs1
  obtain ⟨b, hb⟩ : ∃ b, b = w.heap.size := ⟨_, rfl⟩
  rw [← hb] at hbk ⊢
  have HNF : Hid (¬ Foot S A b) := Lib.hid (H.out.notFoot (by rw [hb]; exact Nat.le_refl _))
  have HBL : Hid (b < w1.heap.size) := Lib.hid (by omega)
  have HB1 := Lib.hid hbk
  have HG1 := Lib.hid hg1
  have HBE : Hid (w.heap.size ≤ b) := Lib.hid (by omega)
  have H1 : Hid (SetM w1 S P A c) := Lib.hid (H.out.apart hg1 fun k e => by cases e)
  clear hbk hg1 hs1 hb H
  go_wp2_with fail
  refine (Running_calls w1 S P A c H1.out HI.out.wf.n (by have := HI.out.rlen; omega) HI.out.rin).mono ?_
  rintro e w2 ⟨rfl, hb2⟩
  have H2 : Hid (SetM w2 S P A c) := Lib.hid (H1.out.below hb2)
  have HF2 : Hid (FrS S A w1 A w2) := Lib.hid (FrS.below hb2)
  clear hb2 H1
  go_wp2_with fail
  refine (refused_calls w2 S P A c H2.out (runI P) _ ticks).mono ?_
  rintro e w3 ⟨rfl, rfl⟩
  rw [HRF.out]
  obtain ⟨g1, hA1, _⟩ := H2.out.rcell HK.out
  obtain ⟨n1, hn1⟩ : ∃ n, n = P.rs.length := ⟨_, rfl⟩
  have c1 := H2.out.head1 hA1 hn1
  have ck0 : w2.cell? ⟨g1, k * 5, none⟩ = some (.int .i64 (P.rsc k).kind) := H2.out.rget (f := 0) HK.out hA1 rfl
  have ck1 : w2.cell? ⟨g1, k * 5 + 1, none⟩ = some (.int .i64 (P.rsc k).count) := H2.out.rget (f := 1) HK.out hA1 rfl
  have ck2 : w2.cell? ⟨g1, k * 5 + 2, none⟩ = some (.int .i64 (P.rsc k).most) := H2.out.rget (f := 2) HK.out hA1 rfl
  have hkn : k < n1 := by rw [hn1]; exact HK.out
  have hn18 : n1 ≤ 1000 := by rw [hn1]; exact HI.out.wf.m
  have HA1 := Lib.hid hA1
  have HN1 := Lib.hid hn1
  rw [← HKI.out] at ck0
  rw [← HCN.out] at ck1
  rw [← HMO.out] at ck2
  clear hA1 hn1
  obtain ⟨gq, hAq, _, hcq, _⟩ := (H2.out.qo k HK.out).at (j := 0) (by rw [HQ.out]; simp [nums])
  have cq0 : w2.cell? ⟨gq, 0, none⟩ = some (.int .i64 (f : Int)) := by rw [hcq]; simp [HQ.out, nums]
  have cq : w2.cell? ⟨g1, k * 5 + 3, none⟩ = some (.slice (some ⟨gq, 0, none⟩) lq (c (3 + 2 * k))) := by rw [← hAq, HLQ.out, ← HQ.out]; exact H2.out.rget (f := 3) HK.out HA1.out rfl
  clear hAq hcq
  go_wp2_with fail
  go_quiet (fail)
  have H3 : Hid (SetM (w2.drewN nq) S P A c) := Lib.hid (H2.out.drewN nq)
  have HF3 : Hid (FrS S A w1 A (w2.drewN nq)) := Lib.hid (HF2.out.drewN nq)
  go_wp2_with fail
  refine (release_calls _ S P A c H3.out (HI.out.wf.mono (by decide)) f HFN.out 0 v false).mono ?_
  rintro e w7 ⟨rfl, A7, c7, h7, hf7⟩
  have H7 := Lib.hid h7
  have HF7 := Lib.hid (HF3.out.trans hf7)
  clear h7 hf7
  clear c1 ck0 ck1 ck2 cq0 cq H2 HF2 H3 HF3
  have HBZ : Hid (Blk _ b [.int .i64 0, .int .i64 0, .bool false]) := Lib.hid (HF7.out.blk HB1.out HNF.out)
  go_wp2_with ((with_reducible show wpList _ _ _ (Oper.mk _ (Op.store 37 _ _) _ _ _ _ :: _) _ _); refine wpList_storeS sOut rfl _ _ rfl b [.int .i64 0, .int .i64 0, .bool false] (ocs ok) rfl rfl HBZ.out rfl rfl (ocs_one _) ?_)
  intro w8 hb8 hg8
  have l8 := Lib.hid (run_loadS sOut b _ hb8 rfl)
  have HRS := Lib.hid (RetSet.fin (v := .agg (ocs ok).toArray) HG1.out HBE.out HNF.out HBL.out HF7.out H7.out hg8)
  clear hb8 hg8
  go_wp2
  exact bodyPost_ret (v := .agg (ocs ok).toArray) (by simp [results, Try.results15, asAddr, Sem.run_bind, Sem.run_pure, l8.out]) rfl HRS.out
set_option maxRecDepth 100000 in
set_option maxHeartbeats 1000000 in
theorem give_buf0 (w : World) (S : Nat) (P : PSet) (A : Nat → Option Addr) (c : Nat → Nat) (h : SetM w S P A c) (hI : Inv P) (k p : Nat) (v ticks : Int) (hrf : refusedI P (runI P) k ticks = 0) (hru : runI P = p) (hp : p < P.ps.length) (hk : k < P.rs.length) (ki cn mo : Int) (hki : ki = (P.rsc k).kind) (hcn : cn = (P.rsc k).count) (hmo : mo = (P.rsc k).most) (hq : (P.rsc k).q = []) (hkk : ki = 2) (hcm : cn ≠ mo) :
    Calls Try.prog 15 #[.pointer (some ⟨S, 0, none⟩), .int .i64 (k : Int), .int .i64 v, .int .i64 ticks] w (RetSet w S A (.agg (ocs ok).toArray) ((P.setR k { P.rsc k with items := (P.rsc k).items ++ [v] }).setR k { (P.setR k { P.rsc k with items := (P.rsc k).items ++ [v] }).rsc k with count := (P.rsc k).count + 1 })) := by
  have H := Lib.hid h
  have HI := Lib.hid hI
  clear h hI
  have hcm1 : (cn == mo) = false := by simp; omega
  have hcm2 : (cn != mo) = true := by simp; omega
  have hb1 : 0 ≤ cn ∧ cn ≤ 16 := by have := HI.out.cnt k hk; have := HI.out.most k hk; omega
  obtain ⟨hb1, hb2'⟩ := hb1
  have hi8 : (P.rsc k).items.length ≤ 16 := by have h1 := HI.out.items k hk (by rw [← hki, hkk]); have h2 := HI.out.cnt k hk; have h3 := HI.out.most k hk; omega
  have HQ := Lib.hid hq
  clear hq
  have HRF := Lib.hid hrf
  have HRU := Lib.hid hru
  have HP := Lib.hid hp
  have HK := Lib.hid hk
  have HKI := Lib.hid hki
  have HCN := Lib.hid hcn
  have HMO := Lib.hid hmo
  clear hrf hru hp hk hki hcn hmo
  subst hkk
  clear hcm
  go_enter Try.func15, Try.ntmps15
  go_wp2_with ((with_reducible show wpList _ _ _ (Oper.mk _ (Op.alloc 37) _ _ _ _ :: _) _ _); refine wpList_allocS _ zOut rfl rfl ?_)
  intro w1 hbk hg1 hs1
  obtain ⟨b, hb⟩ : ∃ b, b = w.heap.size := ⟨_, rfl⟩
  rw [← hb] at hbk ⊢
  have HNF : Hid (¬ Foot S A b) := Lib.hid (H.out.notFoot (by rw [hb]; exact Nat.le_refl _))
  have HBL : Hid (b < w1.heap.size) := Lib.hid (by omega)
  have HB1 := Lib.hid hbk
  have HG1 := Lib.hid hg1
  have HBE : Hid (w.heap.size ≤ b) := Lib.hid (by omega)
  have H1 : Hid (SetM w1 S P A c) := Lib.hid (H.out.apart hg1 fun k e => by cases e)
  clear hbk hg1 hs1 hb H
  go_wp2_with fail
  refine (Running_calls w1 S P A c H1.out HI.out.wf.n (by have := HI.out.rlen; omega) HI.out.rin).mono ?_
  rintro e w2 ⟨rfl, hb2⟩
  have H2 : Hid (SetM w2 S P A c) := Lib.hid (H1.out.below hb2)
  have HF2 : Hid (FrS S A w1 A w2) := Lib.hid (FrS.below hb2)
  clear hb2 H1
  go_wp2_with fail
  refine (refused_calls w2 S P A c H2.out (runI P) _ ticks).mono ?_
  rintro e w3 ⟨rfl, rfl⟩
  rw [HRF.out]
  obtain ⟨L, hL⟩ : ∃ L, L = (P.rsc k).items := ⟨_, rfl⟩
  obtain ⟨li, hli⟩ : ∃ n, n = L.length := ⟨_, rfl⟩
  have hli8 : li ≤ 16 := by rw [hli, hL]; exact hi8
  have HL := Lib.hid hL
  have HLI := Lib.hid hli
  clear hi8 hL hli
  obtain ⟨g1, hA1, _⟩ := H2.out.rcell HK.out
  obtain ⟨n1, hn1⟩ : ∃ n, n = P.rs.length := ⟨_, rfl⟩
  have c1 := H2.out.head1 hA1 hn1
  have ck0 : w2.cell? ⟨g1, k * 5, none⟩ = some (.int .i64 (P.rsc k).kind) := H2.out.rget (f := 0) HK.out hA1 rfl
  have ck1 : w2.cell? ⟨g1, k * 5 + 1, none⟩ = some (.int .i64 (P.rsc k).count) := H2.out.rget (f := 1) HK.out hA1 rfl
  have ck2 : w2.cell? ⟨g1, k * 5 + 2, none⟩ = some (.int .i64 (P.rsc k).most) := H2.out.rget (f := 2) HK.out hA1 rfl
  have hkn : k < n1 := by rw [hn1]; exact HK.out
  have hn18 : n1 ≤ 1000 := by rw [hn1]; exact HI.out.wf.m
  have HA1 := Lib.hid hA1
  have HN1 := Lib.hid hn1
  rw [← HKI.out] at ck0
  rw [← HCN.out] at ck1
  rw [← HMO.out] at ck2
  clear hA1 hn1
  have cq : w2.cell? ⟨g1, k * 5 + 3, none⟩ = some (.slice (A (3 + 2 * k)) 0 (c (3 + 2 * k))) := by rw [show (0 : Nat) = (P.rsc k).q.length by rw [HQ.out]; rfl]; exact H2.out.rget (f := 3) HK.out HA1.out rfl
  have ck4 : w2.cell? ⟨g1, k * 5 + 4, none⟩ = some (.slice (A (4 + 2 * k)) li (c (4 + 2 * k))) := by rw [HLI.out, HL.out]; exact H2.out.rget (f := 4) HK.out HA1.out rfl
  have HIO : Hid (Row w2 2 1 (A (4 + 2 * k)) (c (4 + 2 * k)) li (wits L)) := Lib.hid (by rw [HLI.out, HL.out]; exact H2.out.io k HK.out)
  go_wp2_with fail
  go_quiet (fail)
  have H3 : Hid (SetM (w2.drewN nq) S P A c) := Lib.hid (H2.out.drewN nq)
  have HF3 : Hid (FrS S A w1 A (w2.drewN nq)) := Lib.hid (HF2.out.drewN nq)
  obtain ⟨w2', hw2'⟩ : ∃ w2', w2' = w2.drewN nq := ⟨_, rfl⟩
  have HR0 : Hid (Row (w2'.alloc (.cells #[.int .i64 v] 2)) 2 1 (A (4 + 2 * k)) (c (4 + 2 * k)) li (wits L)) := Lib.hid (by
    have h1 : Row (w2.drewN nq) 2 1 (A (4 + 2 * k)) (c (4 + 2 * k)) li (wits L) := HIO.out
    rw [hw2']; exact h1.below ((Below.refl _ _).alloc (Nat.le_refl _) _))
  have HS0 : Hid ((w2'.alloc (.cells #[.int .i64 v] 2)).cell? ⟨w2'.heap.size, 0, none⟩ = some (.int .i64 v)) := Lib.hid (by rw [World.cell?_alloc_at _ _ _ _ rfl]; rfl)
  rw [← hw2'] at H3 HF3 ⊢
  rw [show w2.cell? ⟨g1, k * 5, none⟩ = w2'.cell? ⟨g1, k * 5, none⟩ by rw [hw2']; rfl] at ck0
  rw [show w2.cell? ⟨g1, k * 5 + 1, none⟩ = w2'.cell? ⟨g1, k * 5 + 1, none⟩ by rw [hw2']; rfl] at ck1
  rw [show w2.cell? ⟨g1, k * 5 + 2, none⟩ = w2'.cell? ⟨g1, k * 5 + 2, none⟩ by rw [hw2']; rfl] at ck2
  rw [show w2.cell? ⟨g1, k * 5 + 3, none⟩ = w2'.cell? ⟨g1, k * 5 + 3, none⟩ by rw [hw2']; rfl] at cq
  rw [show w2.cell? ⟨g1, k * 5 + 4, none⟩ = w2'.cell? ⟨g1, k * 5 + 4, none⟩ by rw [hw2']; rfl] at ck4
  have HW2 := Lib.hid hw2'
  clear hw2' c1 H2 HF2
  go_wp2_with (at_builtin; refine wpList_app_row Try.underlying56 Try.infoI64 rfl (by decide) _ rfl _ _ rfl (A (4 + 2 * k)) (c (4 + 2 * k)) li (wits L) rfl HR0.out w2'.heap.size _ (.int .i64 v) rfl rfl HS0.out (by omega) ?_)
  intro A5 c5 w5 hr5 hg5 hb5
  have hba : Below w2'.heap.size w2' (w2'.alloc (.cells #[.int .i64 v] 2)) := (Below.refl _ _).alloc (Nat.le_refl _) _
  have HG5 : Hid (w2'.grownBy w5 ((A (4 + 2 * k)).map (·.block))) := Lib.hid ⟨hg5.os, hg5.tape, hg5.output, Nat.le_trans hba.size hg5.size, fun k hk hne => (hg5.block k (Nat.lt_of_lt_of_le hk hba.size) hne).trans (hba.block k hk)⟩
  have HB5 : Hid (NewB w2' (A (4 + 2 * k)) A5) := Lib.hid (by
    rcases hb5 with e | e
    · exact .inl e
    · exact .inr fun g hg => Nat.le_trans hba.size (e g hg))
  have HL5 : Hid (li + 1 = (L ++ [v]).length) := Lib.hid (by simp [HLI.out])
  have HR5 : Hid (Row w5 2 1 A5 c5 (L ++ [v]).length ((L ++ [v]).map (Value.int .i64))) := Lib.hid (by
    rw [← HL5.out, show (L ++ [v]).map (Value.int .i64) = wits L ++ [.int .i64 v] by simp [wits]]
    exact hr5)
  clear hr5 hg5 hb5 hba HR0 HS0 HIO ck0 ck1 ck2 cq ck4
  go_wp2_with ((with_reducible show wpList _ _ _ (Oper.mk _ (Op.store _ _ _) _ _ _ _ :: _) _ _); refine wpList_storeI rfl 56 _ _ rfl H3 HF3 HK.out HA1 HL5.out HR5 HG5 HB5 rfl rfl s1Words ?_)
  intro w6 H6 HF6
  obtain ⟨P1, hP1⟩ : ∃ P1, P1 = P.setR k { P.rsc k with items := L ++ [v] } := ⟨_, rfl⟩
  rw [← hP1] at H6
  have hA61 : upA A (4 + 2 * k) A5 1 = some ⟨g1, 0, none⟩ := by rw [upA_ne _ _ (by omega)]; exact HA1.out
  have hk1 : k < P1.rs.length := by rw [hP1, rs_setR]; exact HK.out
  have hr1 : P1.rsc k = { P.rsc k with items := L ++ [v] } := by rw [hP1, rsc_setR HK.out]
  have HA61 := Lib.hid hA61
  have HK1 := Lib.hid hk1
  obtain ⟨A6, hA6⟩ : ∃ A6, A6 = upA A (4 + 2 * k) A5 := ⟨_, rfl⟩
  obtain ⟨c6, hc6⟩ : ∃ c6, c6 = upC c (4 + 2 * k) c5 := ⟨_, rfl⟩
  rw [← hA6, ← hc6] at H6
  rw [← hA6] at HF6 HA61 hA61
  have d1 : w6.cell? ⟨g1, k * 5 + 1, none⟩ = some (.int .i64 cn) := by rw [HCN.out, show (P.rsc k).count = (P1.rsc k).count by rw [hr1]]; exact H6.out.rget (f := 1) hk1 hA61 rfl
  have d2 : w6.cell? ⟨g1, k * 5 + 2, none⟩ = some (.int .i64 mo) := by rw [HMO.out, show (P.rsc k).most = (P1.rsc k).most by rw [hr1]]; exact H6.out.rget (f := 2) hk1 hA61 rfl
  have dq : w6.cell? ⟨g1, k * 5 + 3, none⟩ = some (.slice (A6 (3 + 2 * k)) 0 (c6 (3 + 2 * k))) := by rw [show (0 : Nat) = (P1.rsc k).q.length by rw [hr1]; rw [HQ.out]; rfl]; exact H6.out.rget (f := 3) hk1 hA61 rfl
  have HP1 := Lib.hid hP1
  have HR1 := Lib.hid hr1
  have hcm1 : (cn == mo) = false := hcm1
  clear hA61 hk1 hr1 hP1 hA6 hc6 H3 HF3 HG5 HB5 HL5 HR5
  go_wp2_with fail
  go_quiet (fail)
  have H7 : Hid (SetM (w6.drewN nq) S P1 A6 c6) := Lib.hid (H6.out.drewN nq)
  have HF7 : Hid (FrS S A w1 A6 (w6.drewN nq)) := Lib.hid (HF6.out.drewN nq)
  go_wp2_with ((with_reducible show wpList _ _ _ (Oper.mk _ (Op.store _ _ _) _ _ _ _ :: _) _ _); refine wpList_storeR rfl 3 _ _ rfl H7 HF7 1 (.int .i64 (cn + 1)) HK1.out HA61 (by decide) { P1.rsc k with count := (P.rsc k).count + 1 } (by rw [HCN.out]; rfl) rfl rfl rfl rfl s1Int rfl ?_)
  intro w8' H8 HF8
  rw [HP1.out, HL.out] at H8
  clear d1 d2 dq
  have HBZ : Hid (Blk _ b [.int .i64 0, .int .i64 0, .bool false]) := Lib.hid (HF8.out.blk HB1.out HNF.out)
  go_wp2_with ((with_reducible show wpList _ _ _ (Oper.mk _ (Op.store 37 _ _) _ _ _ _ :: _) _ _); refine wpList_storeS sOut rfl _ _ rfl b [.int .i64 0, .int .i64 0, .bool false] (ocs ok) rfl rfl HBZ.out rfl rfl (ocs_one _) ?_)
  intro w8 hb8 hg8
  have l8 := Lib.hid (run_loadS sOut b _ hb8 rfl)
  have HRS := Lib.hid (RetSet.fin (v := .agg (ocs ok).toArray) HG1.out HBE.out HNF.out HBL.out HF8.out H8.out hg8)
  clear hb8 hg8
  go_wp2
  exact bodyPost_ret (v := .agg (ocs ok).toArray) (by simp [results, Try.results15, asAddr, Sem.run_bind, Sem.run_pure, l8.out]) rfl HRS.out
theorem Give_calls (w : World) (S : Nat) (P : PSet) (A : Nat → Option Addr) (c : Nat → Nat) (h : SetM w S P A c) (hI : Inv P) (r v ticks : Int) :
    Calls Try.prog 15 #[.pointer (some ⟨S, 0, none⟩), .int .i64 r, .int .i64 v, .int .i64 ticks] w (RetSet w S A (.agg (ocs (giveS P r v ticks).1).toArray) (giveS P r v ticks).2) := by
  by_cases he : refusedI P (runI P) r ticks = 0
  · obtain ⟨h0, hr⟩ := refused_ok he
    obtain ⟨k, rfl, hk⟩ := isR_nat hr
    rcases run_lt hI with hrun | ⟨p, hrun, _, hp⟩
    · omega
    have e1 : giveS P k v ticks = if (P.rsc k).kind = 1 then (ok, wakeAll (upR P k) (P.rsc k).q) else if (P.rsc k).kind = 2 then giveB P k v ticks else if (P.rsc k).kind = 0 then more P k else (ok, P) := by
      unfold giveS
      rw [if_neg (by rw [he]; simp)]
      rfl
    rcases hI.kind k hk with h1 | h1 | h1
    · rw [e1, if_neg (by omega), if_neg (by omega), if_pos h1]
      unfold more
      cases hq : (P.rsc k).q with
      | cons f rest => exact give_sem1 w S P A c h hI k p v ticks he hrun hp hk _ _ _ rfl rfl rfl f rest hq h1
      | nil =>
        by_cases hcm : (P.rsc k).count = (P.rsc k).most
        · simp only [if_pos hcm]
          exact give_sem0 w S P A c h hI k p v ticks he hrun hp hk _ _ _ rfl rfl rfl hq h1 hcm
        · simp only [if_neg hcm]
          exact give_sem2 w S P A c h hI k p v ticks he hrun hp hk _ _ _ rfl rfl rfl hq h1 hcm
    · rw [e1, if_pos h1]
      exact give_sig w S P A c h hI k p v ticks he hrun hp hk _ _ _ rfl rfl rfl h1
    · rw [e1, if_neg (by omega), if_pos h1]
      by_cases hcm : (P.rsc k).count = (P.rsc k).most
      · unfold giveB
        by_cases ht : ticks = 0
        · simp only [if_pos hcm, if_pos ht]
          exact give_busy w S P A c h hI k p v ticks he hrun hp hk _ _ _ rfl rfl rfl h1 hcm ht
        · simp only [if_pos hcm, if_neg ht, hrun]
          exact give_wait w S P A c h hI k p v ticks he hrun hp hk _ _ _ rfl rfl rfl h1 hcm ht
      · cases hq : (P.rsc k).q with
        | cons f rest =>
          have e2 : giveB P k v ticks = (ok, release P f ⟨0, v, false⟩) := by
            unfold giveB
            rw [if_neg hcm]
            split
            · rename_i f' r' h
              rw [hq] at h
              injection h with h2 h3
              rw [h2]
            · rename_i h; rw [hq] at h; cases h
          have e3 := give_buf1 w S P A c h hI k p v ticks he hrun hp hk _ _ _ rfl rfl rfl f rest hq h1 hcm
          show Calls _ _ _ _ (RetSet w S A (.agg (ocs (giveB P k v ticks).1).toArray) (giveB P k v ticks).2)
          rw [e2]
          exact e3
        | nil =>
          have e2 : giveB P k v ticks = (ok, (P.setR k { P.rsc k with items := (P.rsc k).items ++ [v] }).setR k { (P.setR k { P.rsc k with items := (P.rsc k).items ++ [v] }).rsc k with count := (P.rsc k).count + 1 }) := by
            have e3 : (P.setR k { P.rsc k with items := (P.rsc k).items ++ [v] }).rsc k = { P.rsc k with items := (P.rsc k).items ++ [v] } := rsc_setR hk _
            unfold giveB
            rw [if_neg hcm]
            split
            · rename_i h; rw [hq] at h; cases h
            · unfold more
              rw [e3]
              split
              · rename_i h; rw [show ({ P.rsc k with items := (P.rsc k).items ++ [v] } : Rsc).q = (P.rsc k).q from rfl, hq] at h; cases h
              · rw [if_neg hcm]
          have e3 := give_buf0 w S P A c h hI k p v ticks he hrun hp hk _ _ _ rfl rfl rfl hq h1 hcm
          show Calls _ _ _ _ (RetSet w S A (.agg (ocs (giveB P k v ticks).1).toArray) (giveB P k v ticks).2)
          rw [e2]
          exact e3
  · have e1 : giveS P r v ticks = (errO (refusedI P (runI P) r ticks), P) := by unfold giveS; rw [if_pos he]
    rw [e1]
    exact give_refused w S P A c h hI r v ticks _ rfl he
end Go.Proofs.Ytgeffkdobnipgaa
/- What holds of every set is kept by every call. No program in sight. -/
namespace Nac.Procs
variable {P : PSet} {x ex : Option Nat}
theorem mem_without {l : List Nat} {p q : Nat} : q ∈ without l p ↔ q ∈ l ∧ q ≠ p := by
  unfold without
  rw [List.mem_filter]
  simp
theorem nodup_without {l : List Nat} (p : Nat) (h : l.Nodup) : (without l p).Nodup := h.sublist List.filter_sublist
theorem without_out {l : List Nat} {p : Nat} (h : p ∉ l) : without l p = l := by
  unfold without
  rw [List.filter_eq_self]
  intro y hy
  have : y ≠ p := fun e => h (e ▸ hy)
  simp [this]
theorem InvX.leave_rsc (h : InvX P none ex) (p r : Nat) (hr : r < P.rs.length) : (leave P p).rsc r = { P.rsc r with q := without (P.rsc r).q p } := by
  by_cases h2 : (P.proc p).st = 2 ∧ (P.proc p).res = r
  · exact leave_q_in hr h2.1 h2.2
  · have hno : p ∉ (P.rsc r).q := fun hm => by
      have := (h.qin r hr p).1 hm
      exact h2 ⟨this.2.1, this.2.2.1⟩
    rw [without_out hno]
    show (unq (readyOf P p) p).rsc r = P.rsc r
    unfold unq
    split
    · rename_i h3
      have h4 : ((readyOf P p).proc p) = P.proc p := rfl
      rw [h4] at h3 ⊢
      have hne : r ≠ (P.proc p).res.toNat := fun e => by
        rcases Nat.lt_or_ge p P.ps.length with hp | hp
        · rcases h.res p hp h3.1 with h5 | h5
          · exact h3.2 h5
          · exact h2 ⟨h3.1, by omega⟩
        · rw [proc_out hp] at h3; exact absurd h3.1 (by decide)
      rw [rsc_setR_ne hne]; rfl
    · rfl
theorem InvX.leave (h : InvX P none ex) {p : Nat} (hp : p < P.ps.length) : InvX (leave P p) (some p) ex := by
  have hn := leave_n (P := P) p
  have hm := leave_m (P := P) p
  have hpp := leave_proc hp
  have hne := fun q (e : q ≠ p) => leave_proc_ne (P := P) e
  have hst : ∀ q, ((Nac.Procs.leave P p).proc q).st = (P.proc q).st := fun q => by
    by_cases e : q = p
    · subst e; rw [hpp]
    · rw [hne q e]
  refine ⟨by rw [hn]; exact h.n1, by rw [hn]; exact h.n8, by rw [hm]; exact h.r8, by rw [leave_ready]; exact nodup_without p h.rnd, fun q => ?_, fun r hr => ?_, fun r hr q => ?_, fun q hq => ?_, fun q hq => ?_, fun q hq h2 => ?_, fun q hq h2 h3 => ?_, fun r hr => ?_, fun r hr => ?_, fun r hr => ?_, fun r hr hk => ?_, fun r hr he hq => ?_⟩
  · rw [leave_ready, mem_without, h.rdy q, hn, hst q]
    constructor
    · rintro ⟨⟨h1, h2, _⟩, h3⟩
      exact ⟨h1, h2, fun e => h3 (by injection e with e; exact e.symm)⟩
    · rintro ⟨h1, h2, h3⟩
      exact ⟨⟨h1, h2, by simp⟩, fun e => h3 (by rw [e])⟩
  · rw [hm] at hr
    rw [h.leave_rsc p r hr]
    exact nodup_without p (h.qnd r hr)
  · rw [hm] at hr
    rw [h.leave_rsc p r hr]
    show q ∈ without (P.rsc r).q p ↔ _
    rw [mem_without, h.qin r hr q, hn]
    constructor
    · rintro ⟨⟨h1, h2, h3, _⟩, h4⟩
      rw [hne q h4]
      exact ⟨h1, h2, h3, fun e => h4 (by injection e with e; exact e.symm)⟩
    · rintro ⟨h1, h2, h3, h4⟩
      have h5 : q ≠ p := fun e => h4 (by rw [e])
      rw [hne q h5] at h2 h3
      exact ⟨⟨h1, h2, h3, by simp⟩, h5⟩
  · rw [hn] at hq; rw [hst]; exact h.st q hq
  · rw [hn] at hq
    by_cases e : q = p
    · subst e; rw [hpp]; exact h.pr q hq
    · rw [hne q e]; exact h.pr q hq
  · rw [hn] at hq
    rw [hm]
    by_cases e : q = p
    · subst e; rw [hpp]; exact .inl rfl
    · rw [hne q e] at h2 ⊢; exact h.res q hq h2
  · rw [hn] at hq
    have e : q ≠ p := fun e => h3 (by rw [e])
    rw [hne q e] at h2 ⊢
    exact h.left q hq h2 (by simp)
  · rw [hm] at hr; rw [h.leave_rsc p r hr]; exact h.kind r hr
  · rw [hm] at hr; rw [h.leave_rsc p r hr]; exact h.most r hr
  · rw [hm] at hr; rw [h.leave_rsc p r hr]; exact h.cnt r hr
  · rw [hm] at hr; rw [h.leave_rsc p r hr] at hk ⊢; exact h.items r hr hk
  · rw [hm] at hr
    rw [h.leave_rsc p r hr] at hq ⊢
    refine h.emp r hr he fun e => hq ?_
    show without (P.rsc r).q p = []
    rw [e]; rfl
/-- one process anew, the rest as it was -/
theorem InvX.setP (h : InvX P x ex) {p : Nat} (hp : p < P.ps.length) {y : Prc} {L : List Nat} {x' : Option Nat} (hpr : y.pr = (P.proc p).pr)
    (hx : ∀ q, q ≠ p → (x' = some q ↔ x = some q))
    (hL : L.Nodup) (hLp : p ∈ L ↔ y.st = 1 ∧ x' ≠ some p) (hLq : ∀ q, q ≠ p → (q ∈ L ↔ q ∈ P.ready))
    (hqs : ∀ r, r < P.rs.length → (p ∈ (P.rsc r).q ↔ y.st = 2 ∧ y.res = r ∧ x' ≠ some p))
    (hst : y.st = 0 ∨ y.st = 1 ∨ y.st = 2) (hres : y.st = 2 → y.res = -1 ∨ (0 ≤ y.res ∧ y.res < P.rs.length)) (hleft : y.st = 2 → x' ≠ some p → 1 ≤ y.left ∧ y.left ≤ 1048576) :
    InvX { P.setP p y with ready := L } x' ex := by
  have hpp : ({ P.setP p y with ready := L } : PSet).proc p = y := proc_setP hp y
  have hne : ∀ q, q ≠ p → ({ P.setP p y with ready := L } : PSet).proc q = P.proc q := fun q e => proc_setP_ne e y
  have hn : ({ P.setP p y with ready := L } : PSet).ps.length = P.ps.length := ps_setP p y
  refine ⟨by rw [hn]; exact h.n1, by rw [hn]; exact h.n8, h.r8, hL, fun q => ?_, h.qnd, fun r hr q => ?_, fun q hq => ?_, fun q hq => ?_, fun q hq h2 => ?_, fun q hq h2 h3 => ?_, h.kind, h.most, h.cnt, h.items, h.emp⟩
  · show q ∈ L ↔ _
    by_cases e : q = p
    · subst e; rw [hLp, hpp, hn]
      exact ⟨fun h => ⟨hp, h⟩, fun h => h.2⟩
    · rw [hLq q e, h.rdy q, hne q e, hn]
      have := hx q e
      exact ⟨fun ⟨a, b, c⟩ => ⟨a, b, fun d => c (this.1 d)⟩, fun ⟨a, b, c⟩ => ⟨a, b, fun d => c (this.2 d)⟩⟩
  · show q ∈ (P.rsc r).q ↔ _
    by_cases e : q = p
    · subst e; rw [hqs r hr, hpp, hn]
      exact ⟨fun h => ⟨hp, h⟩, fun h => h.2⟩
    · rw [h.qin r hr q, hne q e, hn]
      have := hx q e
      exact ⟨fun ⟨a, b, c, d⟩ => ⟨a, b, c, fun f => d (this.1 f)⟩, fun ⟨a, b, c, d⟩ => ⟨a, b, c, fun f => d (this.2 f)⟩⟩
  · rw [hn] at hq
    by_cases e : q = p
    · subst e; rw [hpp]; exact hst
    · rw [hne q e]; exact h.st q hq
  · rw [hn] at hq
    by_cases e : q = p
    · subst e; rw [hpp, hpr]; exact h.pr q hq
    · rw [hne q e]; exact h.pr q hq
  · rw [hn] at hq
    show _ ∨ (_ ∧ _ < (P.rs.length : Int))
    by_cases e : q = p
    · subst e; rw [hpp] at h2 ⊢; exact hres h2
    · rw [hne q e] at h2 ⊢; exact h.res q hq h2
  · rw [hn] at hq
    by_cases e : q = p
    · subst e; rw [hpp] at h2 ⊢; exact hleft h2 h3
    · rw [hne q e] at h2 ⊢; exact h.left q hq h2 fun d => h3 ((hx q e).2 d)
/-- the last outcome alone -/
theorem InvX.last (h : InvX P x ex) {p : Nat} (hp : p < P.ps.length) (o : Out) : InvX (P.setP p { P.proc p with last := o }) x ex :=
  h.setP hp (y := { P.proc p with last := o }) (L := P.ready) rfl (fun _ _ => Iff.rfl) h.rnd ⟨fun hm => ((h.rdy p).1 hm).2, fun hm => (h.rdy p).2 ⟨hp, hm⟩⟩ (fun _ _ => Iff.rfl) (fun r hr => ⟨fun hm => ((h.qin r hr p).1 hm).2, fun hm => (h.qin r hr p).2 ⟨hp, hm⟩⟩) (h.st p hp) (h.res p hp) (h.left p hp)
theorem InvX.nq {p : Nat} (h : InvX P (some p) ex) : ∀ r, r < P.rs.length → p ∉ (P.rsc r).q := fun r hr hm => ((h.qin r hr p).1 hm).2.2.2 rfl
theorem InvX.nr {p : Nat} (h : InvX P (some p) ex) : p ∉ P.ready := fun hm => ((h.rdy p).1 hm).2.2 rfl
theorem some_ne {p q : Nat} (h : q ≠ p) : (none : Option Nat) = some q ↔ some p = some q := ⟨fun e => (by cases e), fun e => (by injection e with e; exact absurd e.symm h)⟩
theorem InvX.wake {p : Nat} (h : InvX P (some p) ex) (hp : p < P.ps.length) : InvX (wake P p) none ex :=
  h.setP hp (y := { P.proc p with st := 1 }) (L := P.ready ++ [p]) rfl (fun q hq => some_ne hq)
    (by rw [List.nodup_append]; exact ⟨h.rnd, by simp, fun a ha b hb e => by simp at hb; subst hb; subst e; exact h.nr ha⟩)
    ⟨fun _ => ⟨rfl, by simp⟩, fun _ => by simp⟩ (fun q hq => by simp [hq]) (fun r hr => ⟨fun hm => absurd hm (h.nq r hr), fun hm => by simp at hm⟩) (.inr (.inl rfl)) (fun e => absurd (show (1 : Int) = 2 from e) (by decide)) (fun e => absurd (show (1 : Int) = 2 from e) (by decide))
theorem InvX.dorm {p : Nat} (h : InvX P (some p) ex) (hp : p < P.ps.length) : InvX (P.setP p { P.proc p with st := 0 }) none ex :=
  h.setP hp (y := { P.proc p with st := 0 }) (L := P.ready) rfl (fun q hq => some_ne hq) h.rnd
    ⟨fun hm => absurd hm h.nr, fun hm => by simp at hm⟩ (fun q hq => Iff.rfl) (fun r hr => ⟨fun hm => absurd hm (h.nq r hr), fun hm => by simp at hm⟩) (.inl rfl) (fun e => absurd (show (0 : Int) = 2 from e) (by decide)) (fun e => absurd (show (0 : Int) = 2 from e) (by decide))
theorem InvX.release (h : InvX P none ex) {p : Nat} (hp : p < P.ps.length) (o : Out) : InvX (release P p o) none ex :=
  InvX.wake ((h.leave hp).last (by rw [leave_n]; exact hp) o) (by rw [ps_setP, leave_n]; exact hp)
/-- one resource anew, its row as it was -/
theorem InvX.setR (h : InvX P x ex) {r : Nat} (hr : r < P.rs.length) {y : Rsc} {ex' : Option Nat} (hk : y.kind = (P.rsc r).kind) (hmo : y.most = (P.rsc r).most) (hq : y.q = (P.rsc r).q) (hc : 0 ≤ y.count ∧ y.count ≤ y.most) (hi : y.kind = 2 → y.count = y.items.length)
    (hex : ∀ i, i ≠ r → ex' ≠ some i → ex ≠ some i) (he : ex' ≠ some r → y.q ≠ [] → y.count = 0 ∨ (y.kind = 2 ∧ y.count = y.most)) : InvX (P.setR r y) x ex' := by
  have hm := rs_setR (P := P) r y
  have hrr : (P.setR r y).rsc r = y := rsc_setR hr y
  have hne : ∀ i, i ≠ r → (P.setR r y).rsc i = P.rsc i := fun i e => rsc_setR_ne e y
  have hqq : ∀ i, ((P.setR r y).rsc i).q = (P.rsc i).q := fun i => by
    by_cases e : i = r
    · subst e; rw [hrr, hq]
    · rw [hne i e]
  refine ⟨h.n1, h.n8, by rw [hm]; exact h.r8, h.rnd, h.rdy, fun i hi => ?_, fun i hi => ?_, h.st, h.pr, fun p hp h2 => ?_, h.left, fun i hi => ?_, fun i hi => ?_, fun i hi => ?_, fun i hi' h2 => ?_, fun i hi h2 h3 => ?_⟩
  · rw [hm] at hi; rw [hqq]; exact h.qnd i hi
  · rw [hm] at hi; rw [hqq]; exact h.qin i hi
  · rw [hm]; exact h.res p hp h2
  · rw [hm] at hi
    by_cases e : i = r
    · subst e; rw [hrr, hk]; exact h.kind i hi
    · rw [hne i e]; exact h.kind i hi
  · rw [hm] at hi
    by_cases e : i = r
    · subst e; rw [hrr, hk, hmo]; exact h.most i hi
    · rw [hne i e]; exact h.most i hi
  · rw [hm] at hi
    by_cases e : i = r
    · subst e; rw [hrr]; exact hc
    · rw [hne i e]; exact h.cnt i hi
  · rw [hm] at hi'
    by_cases e : i = r
    · subst e; rw [hrr] at h2 ⊢; exact hi h2
    · rw [hne i e] at h2 ⊢; exact h.items i hi' h2
  · rw [hm] at hi
    by_cases e : i = r
    · subst e; rw [hrr] at h3 ⊢; exact he h2 h3
    · rw [hne i e] at h3 ⊢; exact h.emp i hi (hex i e h2) h3
end Nac.Procs
/- What holds of every set is kept by every call, call by call. No program in sight. -/
namespace Nac.Procs
variable {P : PSet} {x ex : Option Nat}
theorem InvX.dormant (h : InvX P none ex) {p : Nat} (h0 : (P.proc p).st = 0) : InvX P (some p) ex :=
  { h with
    rdy := fun q => by
      rw [h.rdy q]
      exact ⟨fun ⟨a, b, _⟩ => ⟨a, b, fun e => by injection e with e; subst e; omega⟩, fun ⟨a, b, _⟩ => ⟨a, b, by simp⟩⟩
    qin := fun r hr q => by
      rw [h.qin r hr q]
      exact ⟨fun ⟨a, b, c, _⟩ => ⟨a, b, c, fun e => by injection e with e; subst e; omega⟩, fun ⟨a, b, c, _⟩ => ⟨a, b, c, by simp⟩⟩
    left := fun q hq h2 _ => h.left q hq h2 (by simp) }
theorem start_inv (h : Inv P) (p : Int) : Inv (startS P p).2 := by
  unfold startS
  split
  · rename_i hp
    obtain ⟨k, rfl, hk⟩ := isP_nat hp
    split
    · rename_i h0
      exact (h.dormant h0).wake hk
    · exact h
  · exact h
theorem stop_inv (h : Inv P) (p : Int) : Inv (stopS P p).2 := by
  unfold stopS
  split
  · rename_i hp
    obtain ⟨k, rfl, hk⟩ := isP_nat hp
    split
    · exact h
    · exact InvX.dorm (h.leave hk) (by rw [leave_n]; exact hk)
  · exact h
/-- into a row -/
theorem InvX.enq {p r : Nat} (h : InvX P (some p) none) (hp : p < P.ps.length) (hr : r < P.rs.length) (h2 : (P.proc p).st = 2) (h3 : (P.proc p).res = r) (hl : 1 ≤ (P.proc p).left ∧ (P.proc p).left ≤ 1048576) (hc : (P.rsc r).count = 0 ∨ ((P.rsc r).kind = 2 ∧ (P.rsc r).count = (P.rsc r).most)) :
    Inv (P.setR r { P.rsc r with q := (P.rsc r).q ++ [p] }) := by
  have hm := rs_setR (P := P) r { P.rsc r with q := (P.rsc r).q ++ [p] }
  have hrr : (P.setR r { P.rsc r with q := (P.rsc r).q ++ [p] }).rsc r = { P.rsc r with q := (P.rsc r).q ++ [p] } := rsc_setR hr _
  have hne : ∀ i, i ≠ r → (P.setR r { P.rsc r with q := (P.rsc r).q ++ [p] }).rsc i = P.rsc i := fun i e => rsc_setR_ne e _
  refine ⟨h.n1, h.n8, by rw [hm]; exact h.r8, h.rnd, fun q => ?_, fun i hi => ?_, fun i hi q => ?_, h.st, h.pr, fun q hq h2 => ?_, fun q hq h2' _ => ?_, fun i hi => ?_, fun i hi => ?_, fun i hi => ?_, fun i hi' h2 => ?_, fun i hi _ h3 => ?_⟩
  · show q ∈ P.ready ↔ _ ∧ (P.proc q).st = 1 ∧ _
    rw [h.rdy q]
    exact ⟨fun ⟨a, b, _⟩ => ⟨a, b, by simp⟩, fun ⟨a, b, _⟩ => ⟨a, b, fun e => by injection e with e; subst e; omega⟩⟩
  · rw [hm] at hi
    by_cases e : i = r
    · subst e
      rw [hrr]
      show ((P.rsc i).q ++ [p]).Nodup
      rw [List.nodup_append]
      exact ⟨h.qnd i hi, by simp, fun a ha b hb e => by simp at hb; subst hb; subst e; exact h.nq i hi ha⟩
    · rw [hne i e]; exact h.qnd i hi
  · rw [hm] at hi
    show _ ↔ q < P.ps.length ∧ (P.proc q).st = 2 ∧ (P.proc q).res = i ∧ _
    by_cases e : i = r
    · subst e
      rw [hrr]
      show q ∈ (P.rsc i).q ++ [p] ↔ _
      rw [List.mem_append, h.qin i hi q]
      constructor
      · rintro (⟨a, b, c, _⟩ | hq)
        · exact ⟨a, b, c, by simp⟩
        · simp at hq; subst hq; exact ⟨hp, h2, h3, by simp⟩
      · rintro ⟨a, b, c, _⟩
        by_cases e : q = p
        · subst e; exact .inr (by simp)
        · exact .inl ⟨a, b, c, fun e' => e (by injection e' with e'; exact e'.symm)⟩
    · rw [hne i e, h.qin i hi q]
      constructor
      · rintro ⟨a, b, c, _⟩; exact ⟨a, b, c, by simp⟩
      · rintro ⟨a, b, c, _⟩
        exact ⟨a, b, c, fun e' => by injection e' with e'; subst e'; rw [h3] at c; omega⟩
  · rw [hm]; exact h.res q hq h2
  · by_cases e : q = p
    · subst e; exact hl
    · exact h.left q hq h2' fun e' => e (by injection e' with e'; exact e'.symm)
  · rw [hm] at hi
    by_cases e : i = r
    · subst e; rw [hrr]; exact h.kind i hi
    · rw [hne i e]; exact h.kind i hi
  · rw [hm] at hi
    by_cases e : i = r
    · subst e; rw [hrr]; exact h.most i hi
    · rw [hne i e]; exact h.most i hi
  · rw [hm] at hi
    by_cases e : i = r
    · subst e; rw [hrr]; exact h.cnt i hi
    · rw [hne i e]; exact h.cnt i hi
  · rw [hm] at hi'
    by_cases e : i = r
    · subst e; rw [hrr] at h2 ⊢; exact h.items i hi' h2
    · rw [hne i e] at h2 ⊢; exact h.items i hi' h2
  · rw [hm] at hi
    by_cases e : i = r
    · subst e; rw [hrr]; exact hc
    · rw [hne i e] at h3 ⊢; exact h.emp i hi (by simp) h3
theorem park_time_inv (h : Inv P) {p : Nat} (hp : p < P.ps.length) (ticks item : Int) (ht : 1 ≤ ticks ∧ ticks ≤ 1048576) : Inv (park P p (-1) ticks item) := by
  rw [park_time]
  have h1 := h.leave hp
  have hp1 : p < (leave P p).ps.length := by rw [leave_n]; exact hp
  exact h1.setP hp1 (y := { (leave P p).proc p with st := 2, res := -1, left := ticks, item := item }) (L := (leave P p).ready) (x' := none) rfl (fun q hq => some_ne hq) h1.rnd
    ⟨fun hm => absurd hm h1.nr, fun hm => absurd (show (2 : Int) = 1 from hm.1) (by decide)⟩ (fun q _ => Iff.rfl) (fun r hr => ⟨fun hm => absurd hm (h1.nq r hr), fun hm => by have := hm.2.1; simp at this⟩) (.inr (.inr rfl)) (fun _ => .inl rfl) (fun _ _ => ht)
theorem park_res_inv (h : Inv P) {p r : Nat} (hp : p < P.ps.length) (hr : r < P.rs.length) (ticks item : Int) (ht : 1 ≤ ticks ∧ ticks ≤ 1048576) (hc : (P.rsc r).count = 0 ∨ ((P.rsc r).kind = 2 ∧ (P.rsc r).count = (P.rsc r).most)) : Inv (park P p r ticks item) := by
  rw [park_res]
  have h1 := h.leave hp
  have hp1 : p < (leave P p).ps.length := by rw [leave_n]; exact hp
  have h2 : InvX ((leave P p).setP p { (leave P p).proc p with st := 2, res := r, left := ticks, item := item }) (some p) none :=
    h1.setP hp1 (y := { (leave P p).proc p with st := 2, res := r, left := ticks, item := item }) (L := (leave P p).ready) (x' := some p) rfl (fun _ _ => Iff.rfl) h1.rnd
      ⟨fun hm => absurd hm h1.nr, fun hm => absurd (show (2 : Int) = 1 from hm.1) (by decide)⟩ (fun q _ => Iff.rfl) (fun i hi => ⟨fun hm => absurd hm (h1.nq i hi), fun hm => absurd rfl hm.2.2⟩) (.inr (.inr rfl)) (fun _ => .inr ⟨by simp, by rw [leave_m]; exact Int.ofNat_lt.2 hr⟩) (fun _ hne => absurd rfl hne)
  have hpp : ((leave P p).setP p { (leave P p).proc p with st := 2, res := r, left := ticks, item := item }).proc p = { (leave P p).proc p with st := 2, res := r, left := ticks, item := item } := proc_setP hp1 _
  have hrl : (leave P p).rsc r = { P.rsc r with q := without (P.rsc r).q p } := h.leave_rsc p r hr
  have := h2.enq (r := r) (by rw [ps_setP]; exact hp1) (by show r < (leave P p).rs.length; rw [leave_m]; exact hr) (by rw [hpp]) (by rw [hpp]) (by rw [hpp]; exact ht) (by show ((leave P p).rsc r).count = 0 ∨ (((leave P p).rsc r).kind = 2 ∧ ((leave P p).rsc r).count = ((leave P p).rsc r).most); rw [hrl]; exact hc)
  exact this
theorem badT_ok {ticks : Int} (h : badT ticks = false) (h0 : ticks ≠ 0) : 1 ≤ ticks ∧ ticks ≤ 1048576 := by
  unfold badT at h
  simp at h
  omega
theorem sleep_inv (h : Inv P) (ticks : Int) : Inv (sleepS P ticks).2 := by
  unfold sleepS
  rcases run_lt h with hrun | ⟨p, hrun, _, hp⟩
  · rw [if_pos (by omega)]; exact h
  rw [if_neg (by omega), hrun]
  cases hb : badT ticks with
  | true => exact h
  | false =>
    rw [if_neg (by simp)]
    split
    · exact InvX.wake (h.leave hp) (by show p < _; rw [leave_n]; exact hp)
    · rename_i h0
      exact park_time_inv h hp _ _ (badT_ok hb h0)
theorem takeB_inv (h : Inv P) {k : Nat} (hk : k < P.rs.length) (h2 : (P.rsc k).kind = 2) (hc : (P.rsc k).count ≠ 0) : Inv (takeB P k) := by
  have hit := h.items k hk h2
  have hcn := h.cnt k hk
  cases hL : (P.rsc k).items with
  | nil => rw [hL] at hit; exact absurd hit hc
  | cons x L =>
    rw [hL] at hit
    have hl : ((x :: L).length : Int) = L.length + 1 := by simp
    cases hq : (P.rsc k).q with
    | nil =>
      rw [takeB_nil hk hq hL, rsc_setR hk, setR_setR]
      exact h.setR hk rfl rfl rfl ⟨by simp, by show (L.length : Int) ≤ (P.rsc k).most; omega⟩ (fun _ => rfl) (fun _ _ h => h) (fun _ hne => absurd hq hne)
    | cons f rest =>
      rw [takeB_cons hq hL]
      have hf : f < P.ps.length := ((h.qin k hk f).1 (by rw [hq]; simp)).1
      have he : (P.rsc k).count = (P.rsc k).most := by
        rcases h.emp k hk (by simp) (by rw [hq]; simp) with h3 | h3
        · exact absurd h3 hc
        · exact h3.2
      have h1 : Inv (P.setR k { P.rsc k with items := L ++ [(P.proc f).item] }) := h.setR hk rfl rfl rfl hcn (fun _ => by show (P.rsc k).count = ((L ++ [(P.proc f).item]).length : Nat); rw [hit]; simp) (fun _ _ h => h) (fun _ _ => .inr ⟨h2, he⟩)
      have h3 := InvX.release h1 (p := f) hf ok
      have hm : (release (P.setR k { P.rsc k with items := L ++ [(P.proc f).item] }) f ok).rs.length = P.rs.length := by rw [release_m, rs_setR]
      have hk2 : ((release (P.setR k { P.rsc k with items := L ++ [(P.proc f).item] }) f ok).rsc k) = { P.rsc k with items := L ++ [(P.proc f).item], q := without (P.rsc k).q f } := by
        rw [release_rsc, InvX.leave_rsc h1 f k (by rw [rs_setR]; exact hk), rsc_setR hk]
      refine h3.setR (by rw [hm]; exact hk) rfl rfl rfl ?_ (fun _ => rfl) (fun _ _ h => h) ?_
      · rw [hk2]
        show 0 ≤ (((L ++ [(P.proc f).item]).length : Nat) : Int) ∧ (((L ++ [(P.proc f).item]).length : Nat) : Int) ≤ (P.rsc k).most
        simp at hl hit ⊢
        omega
      · intro _ _
        rw [hk2]
        right
        refine ⟨h2, ?_⟩
        show (((L ++ [(P.proc f).item]).length : Nat) : Int) = (P.rsc k).most
        rw [← he, hit]; simp
theorem take_inv (h : Inv P) (r ticks : Int) : Inv (takeS P r ticks).2 := by
  unfold takeS
  by_cases he : refusedI P (runI P) r ticks = 0
  · rw [if_neg (by rw [he]; simp)]
    obtain ⟨k, hk', hk⟩ : ∃ k : Nat, r = k ∧ k < P.rs.length := isR_nat (by
      unfold refusedI at he
      by_cases h1 : runI P < 0
      · rw [if_pos h1] at he; omega
      rw [if_neg h1] at he
      cases h2 : isR P r with
      | false => rw [h2] at he; simp at he
      | true => rfl)
    subst hk'
    have hb : badT ticks = false := by
      unfold refusedI at he
      split at he
      · omega
      split at he
      · omega
      split at he
      · omega
      · rename_i h3; simpa using h3
    have h0 : 0 ≤ runI P := by
      unfold refusedI at he
      split at he
      · omega
      · rename_i h1; omega
    obtain ⟨p, hrun, hp⟩ : ∃ p : Nat, runI P = p ∧ p < P.ps.length := by
      rcases run_lt h with h1 | ⟨p, h1, _, h2⟩
      · omega
      · exact ⟨p, h1, h2⟩
    rw [hrun, show ((k : Int)).toNat = k from rfl, show ((p : Int)).toNat = p from rfl]
    split
    · rename_i hc
      split
      · exact h
      · rename_i ht; exact park_res_inv h hp hk _ _ (badT_ok hb ht) (.inl hc)
    · rename_i hc
      have hcn := h.cnt k hk
      split
      · rename_i h2
        refine h.setR hk rfl rfl rfl ⟨by show 0 ≤ (P.rsc k).count - 1; omega, by show (P.rsc k).count - 1 ≤ (P.rsc k).most; omega⟩ (fun e => absurd (h2.symm.trans e) (by decide)) (fun _ _ h => h) (fun _ hne => ?_)
        rcases h.emp k hk (by simp) hne with h3 | h3
        · exact absurd h3 hc
        · rw [h3.1] at h2; exact absurd h2 (by decide)
      · split
        · rename_i h2; exact takeB_inv h hk h2 hc
        · exact h
  · rw [if_pos he]; exact h
theorem more_inv (h : Inv P) {k : Nat} (hk : k < P.rs.length) (h0 : (P.rsc k).kind ≠ 2) : Inv (more P k).2 := by
  unfold more
  split
  · rename_i f rest hq
    exact InvX.release h ((h.qin k hk f).1 (by rw [hq]; simp)).1 ok
  · rename_i hq
    split
    · exact h
    · have hcn := h.cnt k hk
      exact h.setR hk rfl rfl rfl ⟨by show 0 ≤ (P.rsc k).count + 1; omega, by show (P.rsc k).count + 1 ≤ (P.rsc k).most; omega⟩ (fun e => absurd e h0) (fun _ _ h => h) (fun _ hne => absurd hq hne)
theorem wakeAll_inv {k : Nat} : ∀ (l : List Nat) (P : PSet), InvX P none (some k) → k < P.rs.length → (P.rsc k).q = l → InvX (wakeAll P l) none (some k) ∧ ((wakeAll P l).rsc k).q = [] ∧ (wakeAll P l).rs.length = P.rs.length
  | [], P, h, hk, hq => ⟨h, hq, rfl⟩
  | f :: rest, P, h, hk, hq => by
    have hf : f < P.ps.length := ((h.qin k hk f).1 (by rw [hq]; simp)).1
    have hnd := h.qnd k hk
    rw [hq] at hnd
    have e : ((release P f ok).rsc k).q = rest := by
      rw [release_rsc, h.leave_rsc f k hk]
      show without (P.rsc k).q f = rest
      rw [hq, without_head hnd]
    obtain ⟨a, b, c⟩ := wakeAll_inv rest (release P f ok) (InvX.release h hf ok) (by rw [release_m]; exact hk) e
    exact ⟨a, b, c.trans (release_m f ok)⟩
theorem sig_inv (h : Inv P) {k : Nat} (hk : k < P.rs.length) (h1 : (P.rsc k).kind = 1) : Inv (wakeAll (upR P k) (P.rsc k).q) := by
  have hmo := h.most k hk
  have h2 : InvX (upR P k) none (some k) := h.setR hk rfl rfl rfl ⟨by show (0 : Int) ≤ 1; decide, by show (1 : Int) ≤ (P.rsc k).most; omega⟩ (fun e => absurd (h1.symm.trans e) (by decide)) (fun _ _ h => by simp) (fun e => absurd rfl e)
  obtain ⟨a, b, c⟩ := wakeAll_inv (P.rsc k).q (upR P k) h2 (by unfold upR; rw [rs_setR]; exact hk) (by unfold upR; rw [rsc_setR hk])
  have hemp : ∀ r, r < (wakeAll (upR P k) (P.rsc k).q).rs.length → none ≠ some r → ((wakeAll (upR P k) (P.rsc k).q).rsc r).q ≠ [] → ((wakeAll (upR P k) (P.rsc k).q).rsc r).count = 0 ∨ (((wakeAll (upR P k) (P.rsc k).q).rsc r).kind = 2 ∧ ((wakeAll (upR P k) (P.rsc k).q).rsc r).count = ((wakeAll (upR P k) (P.rsc k).q).rsc r).most) := fun r hr _ hne => by
    by_cases e : r = k
    · subst e; exact absurd b hne
    · exact a.emp r hr (fun e' => e (by injection e' with e'; exact e'.symm)) hne
  exact { a with emp := hemp }
theorem giveB_inv (h : Inv P) {k p : Nat} (hk : k < P.rs.length) (hrun : runI P = p) (hp : p < P.ps.length) (h2 : (P.rsc k).kind = 2) (v ticks : Int) (hb : badT ticks = false) : Inv (giveB P k v ticks).2 := by
  unfold giveB
  by_cases hcm : (P.rsc k).count = (P.rsc k).most
  · rw [if_pos hcm, hrun]
    split
    · exact h
    · rename_i ht; exact park_res_inv h hp hk _ _ (badT_ok hb ht) (.inr ⟨h2, hcm⟩)
  · rw [if_neg hcm]
    split
    · rename_i f rest hq
      exact InvX.release h ((h.qin k hk f).1 (by rw [hq]; simp)).1 _
    · rename_i hq
      have e3 : (P.setR k { P.rsc k with items := (P.rsc k).items ++ [v] }).rsc k = { P.rsc k with items := (P.rsc k).items ++ [v] } := rsc_setR hk _
      have hcn := h.cnt k hk
      have hit := h.items k hk h2
      have e4 : (more (P.setR k { P.rsc k with items := (P.rsc k).items ++ [v] }) k).2 = P.setR k { P.rsc k with items := (P.rsc k).items ++ [v], count := (P.rsc k).count + 1 } := by
        unfold more
        rw [e3]
        split
        · rename_i h; rw [show ({ P.rsc k with items := (P.rsc k).items ++ [v] } : Rsc).q = (P.rsc k).q from rfl, hq] at h; cases h
        · rw [if_neg hcm]
          exact setR_setR _ _ _
      rw [e4]
      exact h.setR hk rfl rfl rfl ⟨by show 0 ≤ (P.rsc k).count + 1; omega, by show (P.rsc k).count + 1 ≤ (P.rsc k).most; omega⟩ (fun _ => by show (P.rsc k).count + 1 = (((P.rsc k).items ++ [v]).length : Nat); simp; omega) (fun _ _ h => h) (fun _ hne => absurd hq hne)
theorem give_inv (h : Inv P) (r v ticks : Int) : Inv (giveS P r v ticks).2 := by
  unfold giveS
  by_cases he : refusedI P (runI P) r ticks = 0
  · rw [if_neg (by rw [he]; simp)]
    obtain ⟨k, hk', hk⟩ : ∃ k : Nat, r = k ∧ k < P.rs.length := isR_nat (by
      unfold refusedI at he
      by_cases h1 : runI P < 0
      · rw [if_pos h1] at he; omega
      rw [if_neg h1] at he
      cases h2 : isR P r with
      | false => rw [h2] at he; simp at he
      | true => rfl)
    subst hk'
    have hb : badT ticks = false := by
      unfold refusedI at he
      split at he
      · omega
      split at he
      · omega
      split at he
      · omega
      · rename_i h3; simpa using h3
    have h0 : 0 ≤ runI P := by
      unfold refusedI at he
      split at he
      · omega
      · rename_i h1; omega
    obtain ⟨p, hrun, hp⟩ : ∃ p : Nat, runI P = p ∧ p < P.ps.length := by
      rcases run_lt h with h1 | ⟨p, h1, _, h2⟩
      · omega
      · exact ⟨p, h1, h2⟩
    rw [show ((k : Int)).toNat = k from rfl]
    split
    · rename_i h1; exact sig_inv h hk h1
    · split
      · rename_i h2; exact giveB_inv h hk hrun hp h2 _ _ hb
      · rename_i h2
        split
        · exact more_inv h hk h2
        · exact h
  · rw [if_pos he]; exact h
theorem lower_inv (h : Inv P) (r : Int) : Inv (lowerS P r).2 := by
  unfold lowerS
  split
  · rename_i hr
    obtain ⟨k, rfl, hk⟩ := isR_nat hr
    split
    · rename_i h1
      have hmo := h.most k hk
      exact h.setR hk rfl rfl rfl ⟨by show (0 : Int) ≤ 0; decide, by show (0 : Int) ≤ (P.rsc k).most; omega⟩ (fun e => absurd (h1.symm.trans e) (by decide)) (fun _ _ h => h) (fun _ _ => .inl rfl)
    · exact h
  · exact h
theorem left_inv (h : Inv P) {p : Nat} (hp : p < P.ps.length) (z : Int) : InvX (P.setP p { P.proc p with left := z }) none none ∨ (P.proc p).st = 2 := by
  by_cases h2 : (P.proc p).st = 2
  · exact .inr h2
  · exact .inl (h.setP hp (y := { P.proc p with left := z }) (L := P.ready) rfl (fun _ _ => Iff.rfl) h.rnd ⟨fun hm => ((h.rdy p).1 hm).2, fun hm => (h.rdy p).2 ⟨hp, hm⟩⟩ (fun _ _ => Iff.rfl) (fun r hr => ⟨fun hm => ((h.qin r hr p).1 hm).2, fun hm => (h.qin r hr p).2 ⟨hp, hm⟩⟩) (h.st p hp) (h.res p hp) (fun e => absurd e h2))
/-- less to wait: then the way out of a row is the same -/
theorem leave_left (P : PSet) {p : Nat} (hp : p < P.ps.length) (z : Int) : leave (P.setP p { P.proc p with left := z }) p = leave P p := by
  have e1 : (P.setP p { P.proc p with left := z }).proc p = { P.proc p with left := z } := proc_setP hp _
  by_cases h2 : (P.proc p).st = 2 ∧ (P.proc p).res ≠ -1
  · by_cases h3 : 0 ≤ (P.proc p).res
    · obtain ⟨r, hr⟩ : ∃ r : Nat, (P.proc p).res = r := ⟨(P.proc p).res.toNat, by omega⟩
      rw [leave_in h2.1 hr (by omega), leave_in (P := P.setP p { P.proc p with left := z }) (r := r) (by rw [e1]; exact h2.1) (by rw [e1]; exact hr) (by omega), e1]
      show (((readyOf P p).setP p { P.proc p with left := z }).setR r _).setP p _ = _
      unfold PSet.setP PSet.setR readyOf
      simp [PSet.rsc]
    · unfold leave unq
      rw [show ({ P.setP p { P.proc p with left := z } with ready := without (P.setP p { P.proc p with left := z }).ready p } : PSet).proc p = { P.proc p with left := z } from e1, show ({ P with ready := without P.ready p } : PSet).proc p = P.proc p from rfl, e1]
      rw [if_pos h2, if_pos h2]
      unfold PSet.setP PSet.setR
      simp [PSet.rsc]
  · rw [leave_out h2, leave_out (P := P.setP p { P.proc p with left := z }) (by rw [e1]; exact h2), e1]
    unfold PSet.setP readyOf
    simp
theorem release_left (P : PSet) {p : Nat} (hp : p < P.ps.length) (z : Int) (o : Out) : release (P.setP p { P.proc p with left := z }) p o = release P p o := by
  unfold release
  rw [leave_left P hp z]
theorem tick1_inv (h : Inv P) {p : Nat} (hp : p < P.ps.length) : Inv (tick1 P p) := by
  unfold tick1
  split
  · rename_i h2
    split
    · rename_i hl
      have h3 := h.left p hp h2 (by simp)
      exact h.setP hp (y := { P.proc p with left := (P.proc p).left - 1 }) (L := P.ready) rfl (fun _ _ => Iff.rfl) h.rnd ⟨fun hm => ((h.rdy p).1 hm).2, fun hm => (h.rdy p).2 ⟨hp, hm⟩⟩ (fun _ _ => Iff.rfl) (fun r hr => ⟨fun hm => ((h.qin r hr p).1 hm).2, fun hm => (h.qin r hr p).2 ⟨hp, hm⟩⟩) (h.st p hp) (h.res p hp) (fun _ _ => ⟨by show 1 ≤ (P.proc p).left - 1; omega, by show (P.proc p).left - 1 ≤ 1048576; omega⟩)
    · rw [release_left P hp]
      exact InvX.release h hp _
  · exact h
theorem tick1_n (P : PSet) (p : Nat) : (tick1 P p).ps.length = P.ps.length := by
  unfold tick1
  split
  · split
    · exact ps_setP _ _
    · rw [release_n, ps_setP]
  · rfl
theorem tick1_m (P : PSet) (p : Nat) : (tick1 P p).rs.length = P.rs.length := by
  unfold tick1
  split
  · split
    · rfl
    · rw [release_m]; rfl
  · rfl
theorem tickTo_succ (P : PSet) (k : Nat) : tickTo P (k + 1) = tick1 (tickTo P k) k := by
  unfold tickTo
  rw [List.range_succ, List.foldl_append]
  rfl
theorem tickTo_inv (h : Inv P) : ∀ k, k ≤ P.ps.length → Inv (tickTo P k) ∧ (tickTo P k).ps.length = P.ps.length
  | 0, _ => ⟨h, rfl⟩
  | k + 1, hk => by
    obtain ⟨a, b⟩ := tickTo_inv h k (by omega)
    rw [tickTo_succ]
    exact ⟨tick1_inv a (by rw [b]; omega), (tick1_n _ _).trans b⟩
theorem tick_inv (h : Inv P) : Inv (tickS P) := (tickTo_inv h _ (Nat.le_refl _)).1
end Nac.Procs
