/- procs: Give. -/
import Derived.Test.YtgeffkdobnipgaaProcTake
namespace Nac.Procs
/-- while all are woken that wait for resource k -/
structure Qok (P : PSet) (k m : Nat) : Prop where
  wf : Wf P m
  room : m + (P.rsc k).q.length ≤ 100
  nd : (P.rsc k).q.Nodup
  all : ∀ p ∈ (P.rsc k).q, p < P.ps.length ∧ (P.proc p).st = 2 ∧ (P.proc p).res = k
  lt : k < P.rs.length
theorem release_ready (P : PSet) (p : Nat) (o : Out) : (release P p o).ready = without P.ready p ++ [p] := by
  unfold release wake
  show ((leave P p).setP p _).ready ++ [p] = _
  rw [show ((leave P p).setP p { (leave P p).proc p with last := o }).ready = (leave P p).ready from rfl, leave_ready]
theorem release_rsc (P : PSet) (p : Nat) (o : Out) (r : Nat) : (release P p o).rsc r = (leave P p).rsc r := rfl
theorem release_proc {P : PSet} {p : Nat} (hp : p < P.ps.length) (o : Out) : (release P p o).proc p = { P.proc p with st := 1, last := o, res := -1, left := 0, item := 0 } := by
  unfold release wake
  have h1 : p < (leave P p).ps.length := by rw [leave_n]; exact hp
  show (((leave P p).setP p { (leave P p).proc p with last := o }).setP p { ((leave P p).setP p { (leave P p).proc p with last := o }).proc p with st := 1 }).proc p = _
  rw [proc_setP (by rw [ps_setP]; exact h1), proc_setP h1, leave_proc hp]
theorem release_proc_ne {P : PSet} {p q : Nat} (h : q ≠ p) (o : Out) : (release P p o).proc q = P.proc q := by
  unfold release wake
  show (((leave P p).setP p { (leave P p).proc p with last := o }).setP p _).proc q = _
  rw [proc_setP_ne h, proc_setP_ne h, leave_proc_ne h]
theorem leave_q_in {P : PSet} {p r : Nat} (hr : r < P.rs.length) (h2 : (P.proc p).st = 2) (h3 : (P.proc p).res = r) : (leave P p).rsc r = { P.rsc r with q := without (P.rsc r).q p } := by
  rw [leave_in h2 h3 (by omega)]
  exact rsc_setR (P := readyOf P p) hr _
theorem without_head {f : Nat} {l : List Nat} (h : (f :: l).Nodup) : without (f :: l) f = l := by
  rw [List.nodup_cons] at h
  unfold without
  rw [List.filter_cons_of_neg (by simp), List.filter_eq_self]
  intro x hx
  have : x ≠ f := fun e => h.1 (e ▸ hx)
  simp [this]
theorem release_wf {P : PSet} {m p : Nat} (h : Wf P m) (hp : p < P.ps.length) (o : Out) : Wf (release P p o) (m + 1) :=
  ⟨by rw [release_n]; exact h.n, by rw [release_m]; exact h.m, by rw [release_ready]; have := without_le P.ready p; have := h.rd; simp; omega, fun r => by rw [release_rsc]; have := leave_q (P := P) p r; have := h.q r; omega, fun q h1 h2 => by
    by_cases e : q = p
    · subst e; rw [release_proc hp] at h2; exact absurd rfl h2
    · rw [release_proc_ne e] at h1 h2 ⊢; rw [release_m]; exact h.res q h1 h2⟩
theorem Qok.step {P : PSet} {k m f : Nat} {rest : List Nat} (h : Qok P k m) (hq : (P.rsc k).q = f :: rest) : Qok (release P f ok) k (m + 1) ∧ ((release P f ok).rsc k).q = rest := by
  obtain ⟨h1, h2, h3⟩ := h.all f (by rw [hq]; simp)
  have hnd := h.nd
  rw [hq] at hnd
  have e : ((release P f ok).rsc k).q = rest := by
    rw [release_rsc, leave_q_in h.lt h2 h3]
    show without (P.rsc k).q f = rest
    rw [hq, without_head hnd]
  have hr := h.room
  rw [hq] at hr
  refine ⟨⟨release_wf h.wf h1 _, by rw [e]; simp at hr; omega, by rw [e]; exact (List.nodup_cons.1 hnd).2, fun p hp => ?_, by rw [release_m]; exact h.lt⟩, e⟩
  rw [e] at hp
  have hne : p ≠ f := fun e => (List.nodup_cons.1 hnd).1 (e ▸ hp)
  rw [release_proc_ne hne, release_n]
  exact h.all p (by rw [hq]; simp [hp])
theorem Qok.start {P : PSet} {k : Nat} (h : Inv P) (hk : k < P.rs.length) : Qok (upR P k) k 8 := by
  have e : (upR P k).rsc k = { P.rsc k with count := 1 } := rsc_setR hk _
  refine ⟨h.wf.setR (h.qlen k), by rw [e]; have := h.qlen k; show 8 + (P.rsc k).q.length ≤ 100; omega, by rw [e]; exact h.qnd k hk, fun p hp => ?_, by unfold upR; rw [rs_setR]; exact hk⟩
  rw [e] at hp
  have := (h.qin k hk p).1 hp
  exact ⟨this.1, this.2.1, this.2.2.1⟩
end Nac.Procs
namespace Go.Proofs.Ytgeffkdobnipgaa
open Go.RowKit Nac Nac.Procs
theorem FrS.drewN {S : Nat} {A A' : Nat → Option Addr} {w w' : World} (h : FrS S A w A' w') (n : Nat) : FrS S A w A' (w'.drewN n) := ⟨h.os, h.tape, h.output, h.size, h.block, h.foot, h.p0, h.p1⟩
def lenV : Option Value → Nat
  | some (.slice _ n _) => n
  | _ => 0
def SigRel (S : Nat) (A : Nat → Option Addr) (w1 : World) (g1 k : Nat) (F : PSet) (wr : World) : Prop :=
  ∃ (P : PSet) (A' : Nat → Option Addr) (c' : Nat → Nat) (m : Nat), SetM wr S P A' c' ∧ FrS S A w1 A' wr ∧ A' 1 = some ⟨g1, 0, none⟩ ∧ Qok P k m ∧ wakeAll P (P.rsc k).q = F
set_option maxRecDepth 100000 in
set_option maxHeartbeats 1000000 in
theorem give_refused (w : World) (S : Nat) (P : PSet) (A : Nat → Option Addr) (c : Nat → Nat) (h : SetM w S P A c) (hI : Inv P) (r v ticks e : Int) (hrf : refusedI P (runI P) r ticks = e) (he : e ≠ 0) :
    Calls Try.prog 15 #[.pointer (some ⟨S, 0, none⟩), .int .i64 r, .int .i64 v, .int .i64 ticks] w (RetSet w S A (.agg (ocs (errO e)).toArray) P) := by
  have H := Lib.hid h
  have HI := Lib.hid hI
  clear h hI
  have HRF := Lib.hid hrf
  have he1 : (e != 0) = true := by simpa using he
  have he2 : (e == 0) = false := by simpa using he
  clear hrf he
  go_enter Try.func15, Try.ntmps15
  go_wp2_with ((with_reducible show wpList _ _ _ (Oper.mk _ (Op.alloc 37) _ _ _ _ :: _) _ _); refine wpList_allocS _ zOut rfl rfl ?_)
  intro w1 hbk hg1 hs1
  obtain ⟨b, hb⟩ : ∃ b, b = w.heap.size := ⟨_, rfl⟩
  rw [← hb] at hbk ⊢
  have HNF : Hid (¬ Foot S A b) := Lib.hid (H.out.notFoot (by rw [hb]; exact Nat.le_refl _))
  have HBL : Hid (b < w1.heap.size) := Lib.hid (by omega)
  have HB1 := Lib.hid hbk
  have HG1 := Lib.hid hg1
  have HBE : Hid (w.heap.size ≤ b) := Lib.hid (by omega)
  have H1 : Hid (SetM w1 S P A c) := Lib.hid (H.out.apart hg1 fun k e => by cases e)
  clear hbk hg1 hs1 hb H
  go_wp2_with fail
  refine (Running_calls w1 S P A c H1.out HI.out.wf.n (by have := HI.out.rlen; omega) HI.out.rin).mono ?_
  rintro e w2 ⟨rfl, hb2⟩
  have H2 : Hid (SetM w2 S P A c) := Lib.hid (H1.out.below hb2)
  have HF2 : Hid (FrS S A w1 A w2) := Lib.hid (FrS.below hb2)
  clear hb2 H1
  go_wp2_with fail
  refine (refused_calls w2 S P A c H2.out (runI P) _ ticks).mono ?_
  rintro e w3 ⟨rfl, rfl⟩
  rw [HRF.out]
  have HBZ : Hid (Blk _ b [.int .i64 0, .int .i64 0, .bool false]) := Lib.hid (HF2.out.blk HB1.out HNF.out)
  go_wp2_with ((with_reducible show wpList _ _ _ (Oper.mk _ (Op.store 37 _ _) _ _ _ _ :: _) _ _); refine wpList_storeS sOut rfl _ _ rfl b [.int .i64 0, .int .i64 0, .bool false] (ocs (errO e)) rfl rfl HBZ.out rfl rfl (ocs_one _) ?_)
  intro w8 hb8 hg8
  have l8 := Lib.hid (run_loadS sOut b _ hb8 rfl)
  have HRS := Lib.hid (RetSet.fin (v := .agg (ocs (errO e)).toArray) HG1.out HBE.out HNF.out HBL.out HF2.out H2.out hg8)
  clear hb8 hg8
  go_wp2
  exact bodyPost_ret (v := .agg (ocs (errO e)).toArray) (by simp [results, Try.results15, asAddr, Sem.run_bind, Sem.run_pure, l8.out]) rfl HRS.out
set_option maxRecDepth 100000 in
set_option maxHeartbeats 1000000 in
theorem give_sig (w : World) (S : Nat) (P : PSet) (A : Nat → Option Addr) (c : Nat → Nat) (h : SetM w S P A c) (hI : Inv P) (k p : Nat) (v ticks : Int) (hrf : refusedI P (runI P) k ticks = 0) (hru : runI P = p) (hp : p < P.ps.length) (hk : k < P.rs.length) (ki cn mo : Int) (hki : ki = (P.rsc k).kind) (hcn : cn = (P.rsc k).count) (hmo : mo = (P.rsc k).most) (hkk : ki = 1) :
    Calls Try.prog 15 #[.pointer (some ⟨S, 0, none⟩), .int .i64 (k : Int), .int .i64 v, .int .i64 ticks] w (RetSet w S A (.agg (ocs ok).toArray) (wakeAll (upR P k) (P.rsc k).q)) := by
  have H := Lib.hid h
  have HI := Lib.hid hI
  clear h hI
  have HRF := Lib.hid hrf
  have HRU := Lib.hid hru
  have HP := Lib.hid hp
  have HK := Lib.hid hk
  have HKI := Lib.hid hki
  have HCN := Lib.hid hcn
  have HMO := Lib.hid hmo
  clear hrf hru hp hk hki hcn hmo
  subst hkk
  go_enter Try.func15, Try.ntmps15
  go_wp2_with ((with_reducible show wpList _ _ _ (Oper.mk _ (Op.alloc 37) _ _ _ _ :: _) _ _); refine wpList_allocS _ zOut rfl rfl ?_)
  intro w1 hbk hg1 hs1
  obtain ⟨b, hb⟩ : ∃ b, b = w.heap.size := ⟨_, rfl⟩
  rw [← hb] at hbk ⊢
  have HNF : Hid (¬ Foot S A b) := Lib.hid (H.out.notFoot (by rw [hb]; exact Nat.le_refl _))
  have HBL : Hid (b < w1.heap.size) := Lib.hid (by omega)
  have HB1 := Lib.hid hbk
  have HG1 := Lib.hid hg1
  have HBE : Hid (w.heap.size ≤ b) := Lib.hid (by omega)
  have H1 : Hid (SetM w1 S P A c) := Lib.hid (H.out.apart hg1 fun k e => by cases e)
  clear hbk hg1 hs1 hb H
  go_wp2_with fail
  refine (Running_calls w1 S P A c H1.out HI.out.wf.n (by have := HI.out.rlen; omega) HI.out.rin).mono ?_
  rintro e w2 ⟨rfl, hb2⟩
  have H2 : Hid (SetM w2 S P A c) := Lib.hid (H1.out.below hb2)
  have HF2 : Hid (FrS S A w1 A w2) := Lib.hid (FrS.below hb2)
  clear hb2 H1
  go_wp2_with fail
  refine (refused_calls w2 S P A c H2.out (runI P) _ ticks).mono ?_
  rintro e w3 ⟨rfl, rfl⟩
  rw [HRF.out]
  obtain ⟨g1, hA1, _⟩ := H2.out.rcell HK.out
  obtain ⟨n1, hn1⟩ : ∃ n, n = P.rs.length := ⟨_, rfl⟩
  have c1 := H2.out.head1 hA1 hn1
  have ck0 : w2.cell? ⟨g1, k * 5, none⟩ = some (.int .i64 (P.rsc k).kind) := H2.out.rget (f := 0) HK.out hA1 rfl
  have ck1 : w2.cell? ⟨g1, k * 5 + 1, none⟩ = some (.int .i64 (P.rsc k).count) := H2.out.rget (f := 1) HK.out hA1 rfl
  have ck2 : w2.cell? ⟨g1, k * 5 + 2, none⟩ = some (.int .i64 (P.rsc k).most) := H2.out.rget (f := 2) HK.out hA1 rfl
  have hkn : k < n1 := by rw [hn1]; exact HK.out
  have hn18 : n1 ≤ 1000 := by rw [hn1]; exact HI.out.wf.m
  have HA1 := Lib.hid hA1
  have HN1 := Lib.hid hn1
  rw [← HKI.out] at ck0
  rw [← HCN.out] at ck1
  rw [← HMO.out] at ck2
  clear hA1 hn1
  have HQS := Lib.hid (Qok.start HI.out HK.out)
  have HUQ : Hid (((upR P k).rsc k).q = (P.rsc k).q) := Lib.hid (by unfold upR; rw [rsc_setR HK.out])
  go_wp2_with ((with_reducible show wpList _ _ _ (Oper.mk _ (Op.store _ _ _) _ _ _ _ :: _) _ _); refine wpList_storeR rfl 3 _ _ rfl H2 HF2 1 (.int .i64 1) HK.out HA1 (by decide) { P.rsc k with count := 1 } (by rfl) rfl rfl rfl rfl s1Int rfl ?_)
  intro w4 H4 HF4
  have HS0 : Hid (SigRel S A w1 g1 k (wakeAll (upR P k) (P.rsc k).q) w4) := Lib.hid ⟨upR P k, A, c, 8, H4.out, HF4.out, HA1.out, HQS.out, by rw [HUQ.out]⟩
  clear c1 ck0 ck1 ck2 H4 HF4 H2 HF2 HQS HUQ
  go_wp2
  go_loopw [56] (fun _ wr => SigRel S A w1 g1 k (wakeAll (upR P k) (P.rsc k).q) wr) (fun _ wr => lenV (wr.cell? ⟨g1, k * 5 + 3, none⟩))
  case atStart => exact HS0.out
  case round =>
    obtain ⟨Pj, Aj, cj, m, hm, hf, ha1, hqk, hfin⟩ := hrel
    have HQK := Lib.hid hqk
    have HMJ := Lib.hid hm
    have HFJ := Lib.hid hf
    have HA1J := Lib.hid ha1
    obtain ⟨lq, hlq⟩ : ∃ n, n = (Pj.rsc k).q.length := ⟨_, rfl⟩
    have cq : wr.cell? ⟨g1, k * 5 + 3, none⟩ = some (.slice (Aj (3 + 2 * k)) lq (cj (3 + 2 * k))) := by rw [hlq]; exact hm.rget (f := 3) hqk.lt ha1 rfl
    cases hq : (Pj.rsc k).q with
    | nil =>
      have HE : Hid (SetM wr S (wakeAll (upR P k) (P.rsc k).q) Aj cj) := Lib.hid (by rw [← hfin, hq]; exact hm)
      obtain rfl : lq = 0 := by rw [hlq, hq]; rfl
      clear hm hf ha1 hqk hfin hlq hq HS0 HQK HMJ HA1J
      have HBZ : Hid (Blk _ b [.int .i64 0, .int .i64 0, .bool false]) := Lib.hid (HFJ.out.blk HB1.out HNF.out)
      go_wp2_with ((with_reducible show wpList _ _ _ (Oper.mk _ (Op.store 37 _ _) _ _ _ _ :: _) _ _); refine wpList_storeS sOut rfl _ _ rfl b [.int .i64 0, .int .i64 0, .bool false] (ocs ok) rfl rfl HBZ.out rfl rfl (ocs_one _) ?_)
      intro w8 hb8 hg8
      have l8 := Lib.hid (run_loadS sOut b _ hb8 rfl)
      have HRS := Lib.hid (RetSet.fin (v := .agg (ocs ok).toArray) HG1.out HBE.out HNF.out HBL.out HFJ.out HE.out hg8)
      clear hb8 hg8
      go_wp2
      exact bodyPost_ret (v := .agg (ocs ok).toArray) (by simp [results, Try.results15, asAddr, Sem.run_bind, Sem.run_pure, l8.out]) rfl HRS.out
    | cons f rest =>
      obtain ⟨hq2, he2⟩ := hqk.step hq
      have HQ2 := Lib.hid hq2
      have hfl := (hqk.all f (by rw [hq]; simp)).1
      have HFL := Lib.hid hfl
      have HE2 := Lib.hid he2
      have HFIN2 : Hid (wakeAll (release Pj f ok) ((release Pj f ok).rsc k).q = wakeAll (upR P k) (P.rsc k).q) := Lib.hid (by rw [he2, ← hfin, hq]; rfl)
      have HW9 : Hid (Wf Pj 999) := Lib.hid (hqk.wf.mono (by have := hqk.room; omega))
      have hlq1 : 0 < lq := by rw [hlq, hq]; exact Nat.succ_pos _
      have hlq8 : lq ≤ 1000 := by have := hqk.room; omega
      have HLR : Hid (rest.length < lq) := Lib.hid (by rw [hlq, hq]; simp)
      obtain ⟨gq, hAq, _, hcq, _⟩ := (hm.qo k hqk.lt).at (j := 0) (by rw [hq]; simp [nums])
      have cq0 : wr.cell? ⟨gq, 0, none⟩ = some (.int .i64 (f : Int)) := by rw [hcq]; simp [hq, nums]
      rw [hAq] at cq
      have CQ := Lib.hid cq
      clear hm hf ha1 hqk hfin hlq hq HS0 hq2 he2 hfl hcq hAq
      go_wp2_with fail
      refine (release_calls wr S Pj Aj cj HMJ.out HW9.out f HFL.out 0 0 false).mono ?_
      rintro e w7 ⟨rfl, A7, c7, h7, hf7⟩
      have hA7 : A7 1 = some ⟨g1, 0, none⟩ := hf7.p1.trans HA1J.out
      have HS7 : Hid (SigRel S A w1 g1 k (wakeAll (upR P k) (P.rsc k).q) w7) := Lib.hid ⟨release Pj f ok, A7, c7, m + 1, h7, HFJ.out.trans hf7, hA7, HQ2.out, HFIN2.out⟩
      have HC7 : Hid (w7.cell? ⟨g1, k * 5 + 3, none⟩ = some (.slice (A7 (3 + 2 * k)) rest.length (c7 (3 + 2 * k)))) := Lib.hid (by rw [← HE2.out]; exact h7.rget (f := 3) HQ2.out.lt hA7 rfl)
      clear h7 hf7 hA7 cq cq0
      go_wp2
      go_roundw
      case rel => exact HS7.out
      case measure => rw [HC7.out, CQ.out]; exact HLR.out
set_option maxRecDepth 100000 in
set_option maxHeartbeats 1000000 in
theorem give_sem1 (w : World) (S : Nat) (P : PSet) (A : Nat → Option Addr) (c : Nat → Nat) (h : SetM w S P A c) (hI : Inv P) (k p : Nat) (v ticks : Int) (hrf : refusedI P (runI P) k ticks = 0) (hru : runI P = p) (hp : p < P.ps.length) (hk : k < P.rs.length) (ki cn mo : Int) (hki : ki = (P.rsc k).kind) (hcn : cn = (P.rsc k).count) (hmo : mo = (P.rsc k).most) (f : Nat) (rest : List Nat) (hq : (P.rsc k).q = f :: rest) (hkk : ki = 0) :
    Calls Try.prog 15 #[.pointer (some ⟨S, 0, none⟩), .int .i64 (k : Int), .int .i64 v, .int .i64 ticks] w (RetSet w S A (.agg (ocs ok).toArray) (release P f ok)) := by
  have H := Lib.hid h
  have HI := Lib.hid hI
  clear h hI
  have HQ := Lib.hid hq
  have hf : f < P.ps.length := ((HI.out.qin k hk f).1 (by rw [hq]; simp)).1
  have HFN := Lib.hid hf
  obtain ⟨lq, hlq⟩ : ∃ n, n = (f :: rest).length := ⟨_, rfl⟩
  have HLQ := Lib.hid hlq
  have hlq1 : 0 < lq := by rw [hlq]; exact Nat.succ_pos _
  have hlq8 : lq ≤ 1000 := by have := HI.out.qlen k; rw [hq] at this; omega
  clear hq hf hlq
  have HRF := Lib.hid hrf
  have HRU := Lib.hid hru
  have HP := Lib.hid hp
  have HK := Lib.hid hk
  have HKI := Lib.hid hki
  have HCN := Lib.hid hcn
  have HMO := Lib.hid hmo
  clear hrf hru hp hk hki hcn hmo
  subst hkk
  go_enter Try.func15, Try.ntmps15
  go_wp2_with ((with_reducible show wpList _ _ _ (Oper.mk _ (Op.alloc 37) _ _ _ _ :: _) _ _); refine wpList_allocS _ zOut rfl rfl ?_)
  intro w1 hbk hg1 hs1
  obtain ⟨b, hb⟩ : ∃ b, b = w.heap.size := ⟨_, rfl⟩
  rw [← hb] at hbk ⊢
  have HNF : Hid (¬ Foot S A b) := Lib.hid (H.out.notFoot (by rw [hb]; exact Nat.le_refl _))
  have HBL : Hid (b < w1.heap.size) := Lib.hid (by omega)
  have HB1 := Lib.hid hbk
  have HG1 := Lib.hid hg1
  have HBE : Hid (w.heap.size ≤ b) := Lib.hid (by omega)
  have H1 : Hid (SetM w1 S P A c) := Lib.hid (H.out.apart hg1 fun k e => by cases e)
  clear hbk hg1 hs1 hb H
  go_wp2_with fail
  refine (Running_calls w1 S P A c H1.out HI.out.wf.n (by have := HI.out.rlen; omega) HI.out.rin).mono ?_
  rintro e w2 ⟨rfl, hb2⟩
  have H2 : Hid (SetM w2 S P A c) := Lib.hid (H1.out.below hb2)
  have HF2 : Hid (FrS S A w1 A w2) := Lib.hid (FrS.below hb2)
  clear hb2 H1
  go_wp2_with fail
  refine (refused_calls w2 S P A c H2.out (runI P) _ ticks).mono ?_
  rintro e w3 ⟨rfl, rfl⟩
  rw [HRF.out]
  obtain ⟨g1, hA1, _⟩ := H2.out.rcell HK.out
  obtain ⟨n1, hn1⟩ : ∃ n, n = P.rs.length := ⟨_, rfl⟩
  have c1 := H2.out.head1 hA1 hn1
  have ck0 : w2.cell? ⟨g1, k * 5, none⟩ = some (.int .i64 (P.rsc k).kind) := H2.out.rget (f := 0) HK.out hA1 rfl
  have ck1 : w2.cell? ⟨g1, k * 5 + 1, none⟩ = some (.int .i64 (P.rsc k).count) := H2.out.rget (f := 1) HK.out hA1 rfl
  have ck2 : w2.cell? ⟨g1, k * 5 + 2, none⟩ = some (.int .i64 (P.rsc k).most) := H2.out.rget (f := 2) HK.out hA1 rfl
  have hkn : k < n1 := by rw [hn1]; exact HK.out
  have hn18 : n1 ≤ 1000 := by rw [hn1]; exact HI.out.wf.m
  have HA1 := Lib.hid hA1
  have HN1 := Lib.hid hn1
  rw [← HKI.out] at ck0
  rw [← HCN.out] at ck1
  rw [← HMO.out] at ck2
  clear hA1 hn1
  obtain ⟨gq, hAq, _, hcq, _⟩ := (H2.out.qo k HK.out).at (j := 0) (by rw [HQ.out]; simp [nums])
  have cq0 : w2.cell? ⟨gq, 0, none⟩ = some (.int .i64 (f : Int)) := by rw [hcq]; simp [HQ.out, nums]
  have cq : w2.cell? ⟨g1, k * 5 + 3, none⟩ = some (.slice (some ⟨gq, 0, none⟩) lq (c (3 + 2 * k))) := by rw [← hAq, HLQ.out, ← HQ.out]; exact H2.out.rget (f := 3) HK.out HA1.out rfl
  clear hAq hcq
  go_wp2_with fail
  refine (release_calls _ S P A c H2.out (HI.out.wf.mono (by decide)) f HFN.out 0 0 false).mono ?_
  rintro e w7 ⟨rfl, A7, c7, h7, hf7⟩
  have H7 := Lib.hid h7
  have HF7 := Lib.hid (HF2.out.trans hf7)
  clear h7 hf7
  clear c1 ck0 ck1 ck2 cq0 cq H2 HF2
  have HBZ : Hid (Blk _ b [.int .i64 0, .int .i64 0, .bool false]) := Lib.hid (HF7.out.blk HB1.out HNF.out)
  go_wp2_with ((with_reducible show wpList _ _ _ (Oper.mk _ (Op.store 37 _ _) _ _ _ _ :: _) _ _); refine wpList_storeS sOut rfl _ _ rfl b [.int .i64 0, .int .i64 0, .bool false] (ocs ok) rfl rfl HBZ.out rfl rfl (ocs_one _) ?_)
  intro w8 hb8 hg8
  have l8 := Lib.hid (run_loadS sOut b _ hb8 rfl)
  have HRS := Lib.hid (RetSet.fin (v := .agg (ocs ok).toArray) HG1.out HBE.out HNF.out HBL.out HF7.out H7.out hg8)
  clear hb8 hg8
  go_wp2
  exact bodyPost_ret (v := .agg (ocs ok).toArray) (by simp [results, Try.results15, asAddr, Sem.run_bind, Sem.run_pure, l8.out]) rfl HRS.out
set_option maxRecDepth 100000 in
set_option maxHeartbeats 1000000 in
theorem give_sem0 (w : World) (S : Nat) (P : PSet) (A : Nat → Option Addr) (c : Nat → Nat) (h : SetM w S P A c) (hI : Inv P) (k p : Nat) (v ticks : Int) (hrf : refusedI P (runI P) k ticks = 0) (hru : runI P = p) (hp : p < P.ps.length) (hk : k < P.rs.length) (ki cn mo : Int) (hki : ki = (P.rsc k).kind) (hcn : cn = (P.rsc k).count) (hmo : mo = (P.rsc k).most) (hq : (P.rsc k).q = []) (hkk : ki = 0) (hcm : cn = mo) :
    Calls Try.prog 15 #[.pointer (some ⟨S, 0, none⟩), .int .i64 (k : Int), .int .i64 v, .int .i64 ticks] w (RetSet w S A (.agg (ocs (errO 5)).toArray) P) := by
  have H := Lib.hid h
  have HI := Lib.hid hI
  clear h hI
  have hcm1 : (cn == mo) = true := by simp; omega
  have hcm2 : (cn != mo) = false := by simp; omega
  have HQ := Lib.hid hq
  clear hq
  have HRF := Lib.hid hrf
  have HRU := Lib.hid hru
  have HP := Lib.hid hp
  have HK := Lib.hid hk
  have HKI := Lib.hid hki
  have HCN := Lib.hid hcn
  have HMO := Lib.hid hmo
  clear hrf hru hp hk hki hcn hmo
  subst hkk
  clear hcm
  go_enter Try.func15, Try.ntmps15
  go_wp2_with ((with_reducible show wpList _ _ _ (Oper.mk _ (Op.alloc 37) _ _ _ _ :: _) _ _); refine wpList_allocS _ zOut rfl rfl ?_)
  intro w1 hbk hg1 hs1
  obtain ⟨b, hb⟩ : ∃ b, b = w.heap.size := ⟨_, rfl⟩
  rw [← hb] at hbk ⊢
  have HNF : Hid (¬ Foot S A b) := Lib.hid (H.out.notFoot (by rw [hb]; exact Nat.le_refl _))
  have HBL : Hid (b < w1.heap.size) := Lib.hid (by omega)
  have HB1 := Lib.hid hbk
  have HG1 := Lib.hid hg1
  have HBE : Hid (w.heap.size ≤ b) := Lib.hid (by omega)
  have H1 : Hid (SetM w1 S P A c) := Lib.hid (H.out.apart hg1 fun k e => by cases e)
  clear hbk hg1 hs1 hb H
  go_wp2_with fail
  refine (Running_calls w1 S P A c H1.out HI.out.wf.n (by have := HI.out.rlen; omega) HI.out.rin).mono ?_
  rintro e w2 ⟨rfl, hb2⟩
  have H2 : Hid (SetM w2 S P A c) := Lib.hid (H1.out.below hb2)
  have HF2 : Hid (FrS S A w1 A w2) := Lib.hid (FrS.below hb2)
  clear hb2 H1
  go_wp2_with fail
  refine (refused_calls w2 S P A c H2.out (runI P) _ ticks).mono ?_
  rintro e w3 ⟨rfl, rfl⟩
  rw [HRF.out]
  obtain ⟨g1, hA1, _⟩ := H2.out.rcell HK.out
  obtain ⟨n1, hn1⟩ : ∃ n, n = P.rs.length := ⟨_, rfl⟩
  have c1 := H2.out.head1 hA1 hn1
  have ck0 : w2.cell? ⟨g1, k * 5, none⟩ = some (.int .i64 (P.rsc k).kind) := H2.out.rget (f := 0) HK.out hA1 rfl
  have ck1 : w2.cell? ⟨g1, k * 5 + 1, none⟩ = some (.int .i64 (P.rsc k).count) := H2.out.rget (f := 1) HK.out hA1 rfl
  have ck2 : w2.cell? ⟨g1, k * 5 + 2, none⟩ = some (.int .i64 (P.rsc k).most) := H2.out.rget (f := 2) HK.out hA1 rfl
  have hkn : k < n1 := by rw [hn1]; exact HK.out
  have hn18 : n1 ≤ 1000 := by rw [hn1]; exact HI.out.wf.m
  have HA1 := Lib.hid hA1
  have HN1 := Lib.hid hn1
  rw [← HKI.out] at ck0
  rw [← HCN.out] at ck1
  rw [← HMO.out] at ck2
  clear hA1 hn1
  have cq : w2.cell? ⟨g1, k * 5 + 3, none⟩ = some (.slice (A (3 + 2 * k)) 0 (c (3 + 2 * k))) := by rw [show (0 : Nat) = (P.rsc k).q.length by rw [HQ.out]; rfl]; exact H2.out.rget (f := 3) HK.out HA1.out rfl
  go_wp2_with fail
  go_quiet (fail)
  have H3 : Hid (SetM (w2.drewN nq) S P A c) := Lib.hid (H2.out.drewN nq)
  have HF3 : Hid (FrS S A w1 A (w2.drewN nq)) := Lib.hid (HF2.out.drewN nq)
  have HBZ : Hid (Blk _ b [.int .i64 0, .int .i64 0, .bool false]) := Lib.hid (HF3.out.blk HB1.out HNF.out)
  go_wp2_with ((with_reducible show wpList _ _ _ (Oper.mk _ (Op.store 37 _ _) _ _ _ _ :: _) _ _); refine wpList_storeS sOut rfl _ _ rfl b [.int .i64 0, .int .i64 0, .bool false] (ocs (errO 5)) rfl rfl HBZ.out rfl rfl (ocs_one _) ?_)
  intro w8 hb8 hg8
  have l8 := Lib.hid (run_loadS sOut b _ hb8 rfl)
  have HRS := Lib.hid (RetSet.fin (v := .agg (ocs (errO 5)).toArray) HG1.out HBE.out HNF.out HBL.out HF3.out H3.out hg8)
  clear hb8 hg8
  go_wp2
  exact bodyPost_ret (v := .agg (ocs (errO 5)).toArray) (by simp [results, Try.results15, asAddr, Sem.run_bind, Sem.run_pure, l8.out]) rfl HRS.out
set_option maxRecDepth 100000 in
set_option maxHeartbeats 1000000 in
theorem give_sem2 (w : World) (S : Nat) (P : PSet) (A : Nat → Option Addr) (c : Nat → Nat) (h : SetM w S P A c) (hI : Inv P) (k p : Nat) (v ticks : Int) (hrf : refusedI P (runI P) k ticks = 0) (hru : runI P = p) (hp : p < P.ps.length) (hk : k < P.rs.length) (ki cn mo : Int) (hki : ki = (P.rsc k).kind) (hcn : cn = (P.rsc k).count) (hmo : mo = (P.rsc k).most) (hq : (P.rsc k).q = []) (hkk : ki = 0) (hcm : cn ≠ mo) :
    Calls Try.prog 15 #[.pointer (some ⟨S, 0, none⟩), .int .i64 (k : Int), .int .i64 v, .int .i64 ticks] w (RetSet w S A (.agg (ocs ok).toArray) (P.setR k { P.rsc k with count := (P.rsc k).count + 1 })) := by
  have H := Lib.hid h
  have HI := Lib.hid hI
  clear h hI
  have hcm1 : (cn == mo) = false := by simp; omega
  have hcm2 : (cn != mo) = true := by simp; omega
  have hb1 : 0 ≤ cn ∧ cn ≤ 16 := by have := HI.out.cnt k hk; have := HI.out.most k hk; omega
  obtain ⟨hb1, hb2'⟩ := hb1
  have HQ := Lib.hid hq
  clear hq
  have HRF := Lib.hid hrf
  have HRU := Lib.hid hru
  have HP := Lib.hid hp
  have HK := Lib.hid hk
  have HKI := Lib.hid hki
  have HCN := Lib.hid hcn
  have HMO := Lib.hid hmo
  clear hrf hru hp hk hki hcn hmo
  subst hkk
  clear hcm
  go_enter Try.func15, Try.ntmps15
  go_wp2_with ((with_reducible show wpList _ _ _ (Oper.mk _ (Op.alloc 37) _ _ _ _ :: _) _ _); refine wpList_allocS _ zOut rfl rfl ?_)
  intro w1 hbk hg1 hs1
  obtain ⟨b, hb⟩ : ∃ b, b = w.heap.size := ⟨_, rfl⟩
  rw [← hb] at hbk ⊢
  have HNF : Hid (¬ Foot S A b) := Lib.hid (H.out.notFoot (by rw [hb]; exact Nat.le_refl _))
  have HBL : Hid (b < w1.heap.size) := Lib.hid (by omega)
  have HB1 := Lib.hid hbk
  have HG1 := Lib.hid hg1
  have HBE : Hid (w.heap.size ≤ b) := Lib.hid (by omega)
  have H1 : Hid (SetM w1 S P A c) := Lib.hid (H.out.apart hg1 fun k e => by cases e)
  clear hbk hg1 hs1 hb H
  go_wp2_with fail
  refine (Running_calls w1 S P A c H1.out HI.out.wf.n (by have := HI.out.rlen; omega) HI.out.rin).mono ?_
  rintro e w2 ⟨rfl, hb2⟩
  have H2 : Hid (SetM w2 S P A c) := Lib.hid (H1.out.below hb2)
  have HF2 : Hid (FrS S A w1 A w2) := Lib.hid (FrS.below hb2)
  clear hb2 H1
  go_wp2_with fail
  refine (refused_calls w2 S P A c H2.out (runI P) _ ticks).mono ?_
  rintro e w3 ⟨rfl, rfl⟩
  rw [HRF.out]
  obtain ⟨g1, hA1, _⟩ := H2.out.rcell HK.out
  obtain ⟨n1, hn1⟩ : ∃ n, n = P.rs.length := ⟨_, rfl⟩
  have c1 := H2.out.head1 hA1 hn1
  have ck0 : w2.cell? ⟨g1, k * 5, none⟩ = some (.int .i64 (P.rsc k).kind) := H2.out.rget (f := 0) HK.out hA1 rfl
  have ck1 : w2.cell? ⟨g1, k * 5 + 1, none⟩ = some (.int .i64 (P.rsc k).count) := H2.out.rget (f := 1) HK.out hA1 rfl
  have ck2 : w2.cell? ⟨g1, k * 5 + 2, none⟩ = some (.int .i64 (P.rsc k).most) := H2.out.rget (f := 2) HK.out hA1 rfl
  have hkn : k < n1 := by rw [hn1]; exact HK.out
  have hn18 : n1 ≤ 1000 := by rw [hn1]; exact HI.out.wf.m
  have HA1 := Lib.hid hA1
  have HN1 := Lib.hid hn1
  rw [← HKI.out] at ck0
  rw [← HCN.out] at ck1
  rw [← HMO.out] at ck2
  clear hA1 hn1
  have cq : w2.cell? ⟨g1, k * 5 + 3, none⟩ = some (.slice (A (3 + 2 * k)) 0 (c (3 + 2 * k))) := by rw [show (0 : Nat) = (P.rsc k).q.length by rw [HQ.out]; rfl]; exact H2.out.rget (f := 3) HK.out HA1.out rfl
  go_wp2_with fail
  go_quiet (fail)
  have H3 : Hid (SetM (w2.drewN nq) S P A c) := Lib.hid (H2.out.drewN nq)
  have HF3 : Hid (FrS S A w1 A (w2.drewN nq)) := Lib.hid (HF2.out.drewN nq)
  go_wp2_with ((with_reducible show wpList _ _ _ (Oper.mk _ (Op.store _ _ _) _ _ _ _ :: _) _ _); refine wpList_storeR rfl 3 _ _ rfl H3 HF3 1 (.int .i64 (cn + 1)) HK.out HA1 (by decide) { P.rsc k with count := (P.rsc k).count + 1 } (by rw [HCN.out]; rfl) rfl rfl rfl rfl s1Int rfl ?_)
  intro w4 H4 HF4
  clear c1 ck0 ck1 ck2 cq
  have HBZ : Hid (Blk _ b [.int .i64 0, .int .i64 0, .bool false]) := Lib.hid (HF4.out.blk HB1.out HNF.out)
  go_wp2_with ((with_reducible show wpList _ _ _ (Oper.mk _ (Op.store 37 _ _) _ _ _ _ :: _) _ _); refine wpList_storeS sOut rfl _ _ rfl b [.int .i64 0, .int .i64 0, .bool false] (ocs ok) rfl rfl HBZ.out rfl rfl (ocs_one _) ?_)
  intro w8 hb8 hg8
  have l8 := Lib.hid (run_loadS sOut b _ hb8 rfl)
  have HRS := Lib.hid (RetSet.fin (v := .agg (ocs ok).toArray) HG1.out HBE.out HNF.out HBL.out HF4.out H4.out hg8)
  clear hb8 hg8
  go_wp2
  exact bodyPost_ret (v := .agg (ocs ok).toArray) (by simp [results, Try.results15, asAddr, Sem.run_bind, Sem.run_pure, l8.out]) rfl HRS.out
set_option maxRecDepth 100000 in
set_option maxHeartbeats 1000000 in
theorem give_busy (w : World) (S : Nat) (P : PSet) (A : Nat → Option Addr) (c : Nat → Nat) (h : SetM w S P A c) (hI : Inv P) (k p : Nat) (v ticks : Int) (hrf : refusedI P (runI P) k ticks = 0) (hru : runI P = p) (hp : p < P.ps.length) (hk : k < P.rs.length) (ki cn mo : Int) (hki : ki = (P.rsc k).kind) (hcn : cn = (P.rsc k).count) (hmo : mo = (P.rsc k).most) (hkk : ki = 2) (hcm : cn = mo) (ht : ticks = 0) :
    Calls Try.prog 15 #[.pointer (some ⟨S, 0, none⟩), .int .i64 (k : Int), .int .i64 v, .int .i64 ticks] w (RetSet w S A (.agg (ocs busy).toArray) P) := by
  have H := Lib.hid h
  have HI := Lib.hid hI
  clear h hI
  have hcm1 : (cn == mo) = true := by simp; omega
  have hcm2 : (cn != mo) = false := by simp; omega
  have HRF := Lib.hid hrf
  have HRU := Lib.hid hru
  have HP := Lib.hid hp
  have HK := Lib.hid hk
  have HKI := Lib.hid hki
  have HCN := Lib.hid hcn
  have HMO := Lib.hid hmo
  clear hrf hru hp hk hki hcn hmo
  subst hkk ht
  clear hcm
  go_enter Try.func15, Try.ntmps15
  go_wp2_with ((with_reducible show wpList _ _ _ (Oper.mk _ (Op.alloc 37) _ _ _ _ :: _) _ _); refine wpList_allocS _ zOut rfl rfl ?_)
  intro w1 hbk hg1 hs1
  obtain ⟨b, hb⟩ : ∃ b, b = w.heap.size := ⟨_, rfl⟩
  rw [← hb] at hbk ⊢
  have HNF : Hid (¬ Foot S A b) := Lib.hid (H.out.notFoot (by rw [hb]; exact Nat.le_refl _))
  have HBL : Hid (b < w1.heap.size) := Lib.hid (by omega)
  have HB1 := Lib.hid hbk
  have HG1 := Lib.hid hg1
  have HBE : Hid (w.heap.size ≤ b) := Lib.hid (by omega)
  have H1 : Hid (SetM w1 S P A c) := Lib.hid (H.out.apart hg1 fun k e => by cases e)
  clear hbk hg1 hs1 hb H
  go_wp2_with fail
  refine (Running_calls w1 S P A c H1.out HI.out.wf.n (by have := HI.out.rlen; omega) HI.out.rin).mono ?_
  rintro e w2 ⟨rfl, hb2⟩
  have H2 : Hid (SetM w2 S P A c) := Lib.hid (H1.out.below hb2)
  have HF2 : Hid (FrS S A w1 A w2) := Lib.hid (FrS.below hb2)
  clear hb2 H1
  go_wp2_with fail
  refine (refused_calls w2 S P A c H2.out (runI P) _ 0).mono ?_
  rintro e w3 ⟨rfl, rfl⟩
  rw [HRF.out]
  obtain ⟨g1, hA1, _⟩ := H2.out.rcell HK.out
  obtain ⟨n1, hn1⟩ : ∃ n, n = P.rs.length := ⟨_, rfl⟩
  have c1 := H2.out.head1 hA1 hn1
  have ck0 : w2.cell? ⟨g1, k * 5, none⟩ = some (.int .i64 (P.rsc k).kind) := H2.out.rget (f := 0) HK.out hA1 rfl
  have ck1 : w2.cell? ⟨g1, k * 5 + 1, none⟩ = some (.int .i64 (P.rsc k).count) := H2.out.rget (f := 1) HK.out hA1 rfl
  have ck2 : w2.cell? ⟨g1, k * 5 + 2, none⟩ = some (.int .i64 (P.rsc k).most) := H2.out.rget (f := 2) HK.out hA1 rfl
  have hkn : k < n1 := by rw [hn1]; exact HK.out
  have hn18 : n1 ≤ 1000 := by rw [hn1]; exact HI.out.wf.m
  have HA1 := Lib.hid hA1
  have HN1 := Lib.hid hn1
  rw [← HKI.out] at ck0
  rw [← HCN.out] at ck1
  rw [← HMO.out] at ck2
  clear hA1 hn1
  go_wp2_with fail
  go_quiet (fail)
  have H3 : Hid (SetM (w2.drewN nq) S P A c) := Lib.hid (H2.out.drewN nq)
  have HF3 : Hid (FrS S A w1 A (w2.drewN nq)) := Lib.hid (HF2.out.drewN nq)
  have HBZ : Hid (Blk _ b [.int .i64 0, .int .i64 0, .bool false]) := Lib.hid (HF3.out.blk HB1.out HNF.out)
  go_wp2_with ((with_reducible show wpList _ _ _ (Oper.mk _ (Op.store 37 _ _) _ _ _ _ :: _) _ _); refine wpList_storeS sOut rfl _ _ rfl b [.int .i64 0, .int .i64 0, .bool false] (ocs busy) rfl rfl HBZ.out rfl rfl (ocs_one _) ?_)
  intro w8 hb8 hg8
  have l8 := Lib.hid (run_loadS sOut b _ hb8 rfl)
  have HRS := Lib.hid (RetSet.fin (v := .agg (ocs busy).toArray) HG1.out HBE.out HNF.out HBL.out HF3.out H3.out hg8)
  clear hb8 hg8
  go_wp2
  exact bodyPost_ret (v := .agg (ocs busy).toArray) (by simp [results, Try.results15, asAddr, Sem.run_bind, Sem.run_pure, l8.out]) rfl HRS.out
set_option maxRecDepth 100000 in
set_option maxHeartbeats 1000000 in
theorem give_wait (w : World) (S : Nat) (P : PSet) (A : Nat → Option Addr) (c : Nat → Nat) (h : SetM w S P A c) (hI : Inv P) (k p : Nat) (v ticks : Int) (hrf : refusedI P (runI P) k ticks = 0) (hru : runI P = p) (hp : p < P.ps.length) (hk : k < P.rs.length) (ki cn mo : Int) (hki : ki = (P.rsc k).kind) (hcn : cn = (P.rsc k).count) (hmo : mo = (P.rsc k).most) (hkk : ki = 2) (hcm : cn = mo) (ht : ticks ≠ 0) :
    Calls Try.prog 15 #[.pointer (some ⟨S, 0, none⟩), .int .i64 (k : Int), .int .i64 v, .int .i64 ticks] w (RetSet w S A (.agg (ocs waits).toArray) (park P p k ticks v)) := by
  have H := Lib.hid h
  have HI := Lib.hid hI
  clear h hI
  have hcm1 : (cn == mo) = true := by simp; omega
  have hcm2 : (cn != mo) = false := by simp; omega
  have ht1 : (ticks == 0) = false := by simpa using ht
  have ht2 : (ticks != 0) = true := by simpa using ht
  have HRF := Lib.hid hrf
  have HRU := Lib.hid hru
  have HP := Lib.hid hp
  have HK := Lib.hid hk
  have HKI := Lib.hid hki
  have HCN := Lib.hid hcn
  have HMO := Lib.hid hmo
  clear hrf hru hp hk hki hcn hmo
  subst hkk
  clear hcm ht
  go_enter Try.func15, Try.ntmps15
  go_wp2_with ((with_reducible show wpList _ _ _ (Oper.mk _ (Op.alloc 37) _ _ _ _ :: _) _ _); refine wpList_allocS _ zOut rfl rfl ?_)
  intro w1 hbk hg1 hs1
  obtain ⟨b, hb⟩ : ∃ b, b = w.heap.size := ⟨_, rfl⟩
  rw [← hb] at hbk ⊢
  have HNF : Hid (¬ Foot S A b) := Lib.hid (H.out.notFoot (by rw [hb]; exact Nat.le_refl _))
  have HBL : Hid (b < w1.heap.size) := Lib.hid (by omega)
  have HB1 := Lib.hid hbk
  have HG1 := Lib.hid hg1
  have HBE : Hid (w.heap.size ≤ b) := Lib.hid (by omega)
  have H1 : Hid (SetM w1 S P A c) := Lib.hid (H.out.apart hg1 fun k e => by cases e)
  clear hbk hg1 hs1 hb H
  go_wp2_with fail
  refine (Running_calls w1 S P A c H1.out HI.out.wf.n (by have := HI.out.rlen; omega) HI.out.rin).mono ?_
  rintro e w2 ⟨rfl, hb2⟩
  have H2 : Hid (SetM w2 S P A c) := Lib.hid (H1.out.below hb2)
  have HF2 : Hid (FrS S A w1 A w2) := Lib.hid (FrS.below hb2)
  clear hb2 H1
  go_wp2_with fail
  refine (refused_calls w2 S P A c H2.out (runI P) _ ticks).mono ?_
  rintro e w3 ⟨rfl, rfl⟩
  rw [HRF.out]
  obtain ⟨g1, hA1, _⟩ := H2.out.rcell HK.out
  obtain ⟨n1, hn1⟩ : ∃ n, n = P.rs.length := ⟨_, rfl⟩
  have c1 := H2.out.head1 hA1 hn1
  have ck0 : w2.cell? ⟨g1, k * 5, none⟩ = some (.int .i64 (P.rsc k).kind) := H2.out.rget (f := 0) HK.out hA1 rfl
  have ck1 : w2.cell? ⟨g1, k * 5 + 1, none⟩ = some (.int .i64 (P.rsc k).count) := H2.out.rget (f := 1) HK.out hA1 rfl
  have ck2 : w2.cell? ⟨g1, k * 5 + 2, none⟩ = some (.int .i64 (P.rsc k).most) := H2.out.rget (f := 2) HK.out hA1 rfl
  have hkn : k < n1 := by rw [hn1]; exact HK.out
  have hn18 : n1 ≤ 1000 := by rw [hn1]; exact HI.out.wf.m
  have HA1 := Lib.hid hA1
  have HN1 := Lib.hid hn1
  rw [← HKI.out] at ck0
  rw [← HCN.out] at ck1
  rw [← HMO.out] at ck2
  clear hA1 hn1
  go_wp2_with fail
  go_quiet (fail)
  have H3 : Hid (SetM (w2.drewN nq) S P A c) := Lib.hid (H2.out.drewN nq)
  have HF3 : Hid (FrS S A w1 A (w2.drewN nq)) := Lib.hid (HF2.out.drewN nq)
  rw [HRU.out]
  go_wp2_with fail
  refine (wait_res (w2.drewN nq) S P A c H3.out (HI.out.wf.mono (by decide)) p k HP.out HK.out ticks v).mono ?_
  rintro e w4 ⟨rfl, A4, c4, h4, hf4⟩
  have H4 := Lib.hid h4
  have HF4 := Lib.hid (HF3.out.trans hf4)
  clear h4 hf4 H2 HF2 H3 HF3
  have HBZ : Hid (Blk _ b [.int .i64 0, .int .i64 0, .bool false]) := Lib.hid (HF4.out.blk HB1.out HNF.out)
  go_wp2_with ((with_reducible show wpList _ _ _ (Oper.mk _ (Op.store 37 _ _) _ _ _ _ :: _) _ _); refine wpList_storeS sOut rfl _ _ rfl b [.int .i64 0, .int .i64 0, .bool false] (ocs waits) rfl rfl HBZ.out rfl rfl (ocs_one _) ?_)
  intro w8 hb8 hg8
  have l8 := Lib.hid (run_loadS sOut b _ hb8 rfl)
  have HRS := Lib.hid (RetSet.fin (v := .agg (ocs waits).toArray) HG1.out HBE.out HNF.out HBL.out HF4.out H4.out hg8)
  clear hb8 hg8
  go_wp2
  exact bodyPost_ret (v := .agg (ocs waits).toArray) (by simp [results, Try.results15, asAddr, Sem.run_bind, Sem.run_pure, l8.out]) rfl HRS.out
set_option maxRecDepth 100000 in
set_option maxHeartbeats 1000000 in
theorem give_buf1 (w : World) (S : Nat) (P : PSet) (A : Nat → Option Addr) (c : Nat → Nat) (h : SetM w S P A c) (hI : Inv P) (k p : Nat) (v ticks : Int) (hrf : refusedI P (runI P) k ticks = 0) (hru : runI P = p) (hp : p < P.ps.length) (hk : k < P.rs.length) (ki cn mo : Int) (hki : ki = (P.rsc k).kind) (hcn : cn = (P.rsc k).count) (hmo : mo = (P.rsc k).most) (f : Nat) (rest : List Nat) (hq : (P.rsc k).q = f :: rest) (hkk : ki = 2) (hcm : cn ≠ mo) :
    Calls Try.prog 15 #[.pointer (some ⟨S, 0, none⟩), .int .i64 (k : Int), .int .i64 v, .int .i64 ticks] w (RetSet w S A (.agg (ocs ok).toArray) (release P f ⟨0, v, false⟩)) := by
  have H := Lib.hid h
  have HI := Lib.hid hI
  clear h hI
  have hcm1 : (cn == mo) = false := by simp; omega
  have hcm2 : (cn != mo) = true := by simp; omega
  have HQ := Lib.hid hq
  have hf : f < P.ps.length := ((HI.out.qin k hk f).1 (by rw [hq]; simp)).1
  have HFN := Lib.hid hf
  obtain ⟨lq, hlq⟩ : ∃ n, n = (f :: rest).length := ⟨_, rfl⟩
  have HLQ := Lib.hid hlq
  have hlq1 : 0 < lq := by rw [hlq]; exact Nat.succ_pos _
  have hlq8 : lq ≤ 1000 := by have := HI.out.qlen k; rw [hq] at this; omega
  clear hq hf hlq
  have HRF := Lib.hid hrf
  have HRU := Lib.hid hru
  have HP := Lib.hid hp
  have HK := Lib.hid hk
  have HKI := Lib.hid hki
  have HCN := Lib.hid hcn
  have HMO := Lib.hid hmo
  clear hrf hru hp hk hki hcn hmo
  subst hkk
  clear hcm
  go_enter Try.func15, Try.ntmps15
  go_wp2_with ((with_reducible show wpList _ _ _ (Oper.mk _ (Op.alloc 37) _ _ _ _ :: _) _ _); refine wpList_allocS _ zOut rfl rfl ?_)
  intro w1 hbk hg1 hs1
  obtain ⟨b, hb⟩ : ∃ b, b = w.heap.size := ⟨_, rfl⟩
  rw [← hb] at hbk ⊢
  have HNF : Hid (¬ Foot S A b) := Lib.hid (H.out.notFoot (by rw [hb]; exact Nat.le_refl _))
  have HBL : Hid (b < w1.heap.size) := Lib.hid (by omega)
  have HB1 := Lib.hid hbk
  have HG1 := Lib.hid hg1
  have HBE : Hid (w.heap.size ≤ b) := Lib.hid (by omega)
  have H1 : Hid (SetM w1 S P A c) := Lib.hid (H.out.apart hg1 fun k e => by cases e)
  clear hbk hg1 hs1 hb H
  go_wp2_with fail
  refine (Running_calls w1 S P A c H1.out HI.out.wf.n (by have := HI.out.rlen; omega) HI.out.rin).mono ?_
  rintro e w2 ⟨rfl, hb2⟩
  have H2 : Hid (SetM w2 S P A c) := Lib.hid (H1.out.below hb2)
  have HF2 : Hid (FrS S A w1 A w2) := Lib.hid (FrS.below hb2)
  clear hb2 H1
  go_wp2_with fail
  refine (refused_calls w2 S P A c H2.out (runI P) _ ticks).mono ?_
  rintro e w3 ⟨rfl, rfl⟩
  rw [HRF.out]
  obtain ⟨g1, hA1, _⟩ := H2.out.rcell HK.out
  obtain ⟨n1, hn1⟩ : ∃ n, n = P.rs.length := ⟨_, rfl⟩
  have c1 := H2.out.head1 hA1 hn1
  have ck0 : w2.cell? ⟨g1, k * 5, none⟩ = some (.int .i64 (P.rsc k).kind) := H2.out.rget (f := 0) HK.out hA1 rfl
  have ck1 : w2.cell? ⟨g1, k * 5 + 1, none⟩ = some (.int .i64 (P.rsc k).count) := H2.out.rget (f := 1) HK.out hA1 rfl
  have ck2 : w2.cell? ⟨g1, k * 5 + 2, none⟩ = some (.int .i64 (P.rsc k).most) := H2.out.rget (f := 2) HK.out hA1 rfl
  have hkn : k < n1 := by rw [hn1]; exact HK.out
  have hn18 : n1 ≤ 1000 := by rw [hn1]; exact HI.out.wf.m
  have HA1 := Lib.hid hA1
  have HN1 := Lib.hid hn1
  rw [← HKI.out] at ck0
  rw [← HCN.out] at ck1
  rw [← HMO.out] at ck2
  clear hA1 hn1
  obtain ⟨gq, hAq, _, hcq, _⟩ := (H2.out.qo k HK.out).at (j := 0) (by rw [HQ.out]; simp [nums])
  have cq0 : w2.cell? ⟨gq, 0, none⟩ = some (.int .i64 (f : Int)) := by rw [hcq]; simp [HQ.out, nums]
  have cq : w2.cell? ⟨g1, k * 5 + 3, none⟩ = some (.slice (some ⟨gq, 0, none⟩) lq (c (3 + 2 * k))) := by rw [← hAq, HLQ.out, ← HQ.out]; exact H2.out.rget (f := 3) HK.out HA1.out rfl
  clear hAq hcq
  go_wp2_with fail
  go_quiet (fail)
  have H3 : Hid (SetM (w2.drewN nq) S P A c) := Lib.hid (H2.out.drewN nq)
  have HF3 : Hid (FrS S A w1 A (w2.drewN nq)) := Lib.hid (HF2.out.drewN nq)
  go_wp2_with fail
  refine (release_calls _ S P A c H3.out (HI.out.wf.mono (by decide)) f HFN.out 0 v false).mono ?_
  rintro e w7 ⟨rfl, A7, c7, h7, hf7⟩
  have H7 := Lib.hid h7
  have HF7 := Lib.hid (HF3.out.trans hf7)
  clear h7 hf7
  clear c1 ck0 ck1 ck2 cq0 cq H2 HF2 H3 HF3
  have HBZ : Hid (Blk _ b [.int .i64 0, .int .i64 0, .bool false]) := Lib.hid (HF7.out.blk HB1.out HNF.out)
  go_wp2_with ((with_reducible show wpList _ _ _ (Oper.mk _ (Op.store 37 _ _) _ _ _ _ :: _) _ _); refine wpList_storeS sOut rfl _ _ rfl b [.int .i64 0, .int .i64 0, .bool false] (ocs ok) rfl rfl HBZ.out rfl rfl (ocs_one _) ?_)
  intro w8 hb8 hg8
  have l8 := Lib.hid (run_loadS sOut b _ hb8 rfl)
  have HRS := Lib.hid (RetSet.fin (v := .agg (ocs ok).toArray) HG1.out HBE.out HNF.out HBL.out HF7.out H7.out hg8)
  clear hb8 hg8
  go_wp2
  exact bodyPost_ret (v := .agg (ocs ok).toArray) (by simp [results, Try.results15, asAddr, Sem.run_bind, Sem.run_pure, l8.out]) rfl HRS.out
set_option maxRecDepth 100000 in
set_option maxHeartbeats 1000000 in
theorem give_buf0 (w : World) (S : Nat) (P : PSet) (A : Nat → Option Addr) (c : Nat → Nat) (h : SetM w S P A c) (hI : Inv P) (k p : Nat) (v ticks : Int) (hrf : refusedI P (runI P) k ticks = 0) (hru : runI P = p) (hp : p < P.ps.length) (hk : k < P.rs.length) (ki cn mo : Int) (hki : ki = (P.rsc k).kind) (hcn : cn = (P.rsc k).count) (hmo : mo = (P.rsc k).most) (hq : (P.rsc k).q = []) (hkk : ki = 2) (hcm : cn ≠ mo) :
    Calls Try.prog 15 #[.pointer (some ⟨S, 0, none⟩), .int .i64 (k : Int), .int .i64 v, .int .i64 ticks] w (RetSet w S A (.agg (ocs ok).toArray) ((P.setR k { P.rsc k with items := (P.rsc k).items ++ [v] }).setR k { (P.setR k { P.rsc k with items := (P.rsc k).items ++ [v] }).rsc k with count := (P.rsc k).count + 1 })) := by
  have H := Lib.hid h
  have HI := Lib.hid hI
  clear h hI
  have hcm1 : (cn == mo) = false := by simp; omega
  have hcm2 : (cn != mo) = true := by simp; omega
  have hb1 : 0 ≤ cn ∧ cn ≤ 16 := by have := HI.out.cnt k hk; have := HI.out.most k hk; omega
  obtain ⟨hb1, hb2'⟩ := hb1
  have hi8 : (P.rsc k).items.length ≤ 16 := by have h1 := HI.out.items k hk (by rw [← hki, hkk]); have h2 := HI.out.cnt k hk; have h3 := HI.out.most k hk; omega
  have HQ := Lib.hid hq
  clear hq
  have HRF := Lib.hid hrf
  have HRU := Lib.hid hru
  have HP := Lib.hid hp
  have HK := Lib.hid hk
  have HKI := Lib.hid hki
  have HCN := Lib.hid hcn
  have HMO := Lib.hid hmo
  clear hrf hru hp hk hki hcn hmo
  subst hkk
  clear hcm
  go_enter Try.func15, Try.ntmps15
  go_wp2_with ((with_reducible show wpList _ _ _ (Oper.mk _ (Op.alloc 37) _ _ _ _ :: _) _ _); refine wpList_allocS _ zOut rfl rfl ?_)
  intro w1 hbk hg1 hs1
  obtain ⟨b, hb⟩ : ∃ b, b = w.heap.size := ⟨_, rfl⟩
  rw [← hb] at hbk ⊢
  have HNF : Hid (¬ Foot S A b) := Lib.hid (H.out.notFoot (by rw [hb]; exact Nat.le_refl _))
  have HBL : Hid (b < w1.heap.size) := Lib.hid (by omega)
  have HB1 := Lib.hid hbk
  have HG1 := Lib.hid hg1
  have HBE : Hid (w.heap.size ≤ b) := Lib.hid (by omega)
  have H1 : Hid (SetM w1 S P A c) := Lib.hid (H.out.apart hg1 fun k e => by cases e)
  clear hbk hg1 hs1 hb H
  go_wp2_with fail
  refine (Running_calls w1 S P A c H1.out HI.out.wf.n (by have := HI.out.rlen; omega) HI.out.rin).mono ?_
  rintro e w2 ⟨rfl, hb2⟩
  have H2 : Hid (SetM w2 S P A c) := Lib.hid (H1.out.below hb2)
  have HF2 : Hid (FrS S A w1 A w2) := Lib.hid (FrS.below hb2)
  clear hb2 H1
  go_wp2_with fail
  refine (refused_calls w2 S P A c H2.out (runI P) _ ticks).mono ?_
  rintro e w3 ⟨rfl, rfl⟩
  rw [HRF.out]
  obtain ⟨L, hL⟩ : ∃ L, L = (P.rsc k).items := ⟨_, rfl⟩
  obtain ⟨li, hli⟩ : ∃ n, n = L.length := ⟨_, rfl⟩
  have hli8 : li ≤ 16 := by rw [hli, hL]; exact hi8
  have HL := Lib.hid hL
  have HLI := Lib.hid hli
  clear hi8 hL hli
  obtain ⟨g1, hA1, _⟩ := H2.out.rcell HK.out
  obtain ⟨n1, hn1⟩ : ∃ n, n = P.rs.length := ⟨_, rfl⟩
  have c1 := H2.out.head1 hA1 hn1
  have ck0 : w2.cell? ⟨g1, k * 5, none⟩ = some (.int .i64 (P.rsc k).kind) := H2.out.rget (f := 0) HK.out hA1 rfl
  have ck1 : w2.cell? ⟨g1, k * 5 + 1, none⟩ = some (.int .i64 (P.rsc k).count) := H2.out.rget (f := 1) HK.out hA1 rfl
  have ck2 : w2.cell? ⟨g1, k * 5 + 2, none⟩ = some (.int .i64 (P.rsc k).most) := H2.out.rget (f := 2) HK.out hA1 rfl
  have hkn : k < n1 := by rw [hn1]; exact HK.out
  have hn18 : n1 ≤ 1000 := by rw [hn1]; exact HI.out.wf.m
  have HA1 := Lib.hid hA1
  have HN1 := Lib.hid hn1
  rw [← HKI.out] at ck0
  rw [← HCN.out] at ck1
  rw [← HMO.out] at ck2
  clear hA1 hn1
  have cq : w2.cell? ⟨g1, k * 5 + 3, none⟩ = some (.slice (A (3 + 2 * k)) 0 (c (3 + 2 * k))) := by rw [show (0 : Nat) = (P.rsc k).q.length by rw [HQ.out]; rfl]; exact H2.out.rget (f := 3) HK.out HA1.out rfl
  have ck4 : w2.cell? ⟨g1, k * 5 + 4, none⟩ = some (.slice (A (4 + 2 * k)) li (c (4 + 2 * k))) := by rw [HLI.out, HL.out]; exact H2.out.rget (f := 4) HK.out HA1.out rfl
  have HIO : Hid (Row w2 2 1 (A (4 + 2 * k)) (c (4 + 2 * k)) li (wits L)) := Lib.hid (by rw [HLI.out, HL.out]; exact H2.out.io k HK.out)
  go_wp2_with fail
  go_quiet (fail)
  have H3 : Hid (SetM (w2.drewN nq) S P A c) := Lib.hid (H2.out.drewN nq)
  have HF3 : Hid (FrS S A w1 A (w2.drewN nq)) := Lib.hid (HF2.out.drewN nq)
  obtain ⟨w2', hw2'⟩ : ∃ w2', w2' = w2.drewN nq := ⟨_, rfl⟩
  have HR0 : Hid (Row (w2'.alloc (.cells #[.int .i64 v] 2)) 2 1 (A (4 + 2 * k)) (c (4 + 2 * k)) li (wits L)) := Lib.hid (by
    have h1 : Row (w2.drewN nq) 2 1 (A (4 + 2 * k)) (c (4 + 2 * k)) li (wits L) := HIO.out
    rw [hw2']; exact h1.below ((Below.refl _ _).alloc (Nat.le_refl _) _))
  have HS0 : Hid ((w2'.alloc (.cells #[.int .i64 v] 2)).cell? ⟨w2'.heap.size, 0, none⟩ = some (.int .i64 v)) := Lib.hid (by rw [World.cell?_alloc_at _ _ _ _ rfl]; rfl)
  rw [← hw2'] at H3 HF3 ⊢
  rw [show w2.cell? ⟨g1, k * 5, none⟩ = w2'.cell? ⟨g1, k * 5, none⟩ by rw [hw2']; rfl] at ck0
  rw [show w2.cell? ⟨g1, k * 5 + 1, none⟩ = w2'.cell? ⟨g1, k * 5 + 1, none⟩ by rw [hw2']; rfl] at ck1
  rw [show w2.cell? ⟨g1, k * 5 + 2, none⟩ = w2'.cell? ⟨g1, k * 5 + 2, none⟩ by rw [hw2']; rfl] at ck2
  rw [show w2.cell? ⟨g1, k * 5 + 3, none⟩ = w2'.cell? ⟨g1, k * 5 + 3, none⟩ by rw [hw2']; rfl] at cq
  rw [show w2.cell? ⟨g1, k * 5 + 4, none⟩ = w2'.cell? ⟨g1, k * 5 + 4, none⟩ by rw [hw2']; rfl] at ck4
  have HW2 := Lib.hid hw2'
  clear hw2' c1 H2 HF2
  go_wp2_with (at_builtin; refine wpList_app_row Try.underlying56 Try.infoI64 rfl (by decide) _ rfl _ _ rfl (A (4 + 2 * k)) (c (4 + 2 * k)) li (wits L) rfl HR0.out w2'.heap.size _ (.int .i64 v) rfl rfl HS0.out (by omega) ?_)
  intro A5 c5 w5 hr5 hg5 hb5
  have hba : Below w2'.heap.size w2' (w2'.alloc (.cells #[.int .i64 v] 2)) := (Below.refl _ _).alloc (Nat.le_refl _) _
  have HG5 : Hid (w2'.grownBy w5 ((A (4 + 2 * k)).map (·.block))) := Lib.hid ⟨hg5.os, hg5.tape, hg5.output, Nat.le_trans hba.size hg5.size, fun k hk hne => (hg5.block k (Nat.lt_of_lt_of_le hk hba.size) hne).trans (hba.block k hk)⟩
  have HB5 : Hid (NewB w2' (A (4 + 2 * k)) A5) := Lib.hid (by
    rcases hb5 with e | e
    · exact .inl e
    · exact .inr fun g hg => Nat.le_trans hba.size (e g hg))
  have HL5 : Hid (li + 1 = (L ++ [v]).length) := Lib.hid (by simp [HLI.out])
  have HR5 : Hid (Row w5 2 1 A5 c5 (L ++ [v]).length ((L ++ [v]).map (Value.int .i64))) := Lib.hid (by
    rw [← HL5.out, show (L ++ [v]).map (Value.int .i64) = wits L ++ [.int .i64 v] by simp [wits]]
    exact hr5)
  clear hr5 hg5 hb5 hba HR0 HS0 HIO ck0 ck1 ck2 cq ck4
  go_wp2_with ((with_reducible show wpList _ _ _ (Oper.mk _ (Op.store _ _ _) _ _ _ _ :: _) _ _); refine wpList_storeI rfl 56 _ _ rfl H3 HF3 HK.out HA1 HL5.out HR5 HG5 HB5 rfl rfl s1Words ?_)
  intro w6 H6 HF6
  obtain ⟨P1, hP1⟩ : ∃ P1, P1 = P.setR k { P.rsc k with items := L ++ [v] } := ⟨_, rfl⟩
  rw [← hP1] at H6
  have hA61 : upA A (4 + 2 * k) A5 1 = some ⟨g1, 0, none⟩ := by rw [upA_ne _ _ (by omega)]; exact HA1.out
  have hk1 : k < P1.rs.length := by rw [hP1, rs_setR]; exact HK.out
  have hr1 : P1.rsc k = { P.rsc k with items := L ++ [v] } := by rw [hP1, rsc_setR HK.out]
  have HA61 := Lib.hid hA61
  have HK1 := Lib.hid hk1
  obtain ⟨A6, hA6⟩ : ∃ A6, A6 = upA A (4 + 2 * k) A5 := ⟨_, rfl⟩
  obtain ⟨c6, hc6⟩ : ∃ c6, c6 = upC c (4 + 2 * k) c5 := ⟨_, rfl⟩
  rw [← hA6, ← hc6] at H6
  rw [← hA6] at HF6 HA61 hA61
  have d1 : w6.cell? ⟨g1, k * 5 + 1, none⟩ = some (.int .i64 cn) := by rw [HCN.out, show (P.rsc k).count = (P1.rsc k).count by rw [hr1]]; exact H6.out.rget (f := 1) hk1 hA61 rfl
  have d2 : w6.cell? ⟨g1, k * 5 + 2, none⟩ = some (.int .i64 mo) := by rw [HMO.out, show (P.rsc k).most = (P1.rsc k).most by rw [hr1]]; exact H6.out.rget (f := 2) hk1 hA61 rfl
  have dq : w6.cell? ⟨g1, k * 5 + 3, none⟩ = some (.slice (A6 (3 + 2 * k)) 0 (c6 (3 + 2 * k))) := by rw [show (0 : Nat) = (P1.rsc k).q.length by rw [hr1]; rw [HQ.out]; rfl]; exact H6.out.rget (f := 3) hk1 hA61 rfl
  have HP1 := Lib.hid hP1
  have HR1 := Lib.hid hr1
  have hcm1 : (cn == mo) = false := hcm1
  clear hA61 hk1 hr1 hP1 hA6 hc6 H3 HF3 HG5 HB5 HL5 HR5
  go_wp2_with fail
  go_quiet (fail)
  have H7 : Hid (SetM (w6.drewN nq) S P1 A6 c6) := Lib.hid (H6.out.drewN nq)
  have HF7 : Hid (FrS S A w1 A6 (w6.drewN nq)) := Lib.hid (HF6.out.drewN nq)
  go_wp2_with ((with_reducible show wpList _ _ _ (Oper.mk _ (Op.store _ _ _) _ _ _ _ :: _) _ _); refine wpList_storeR rfl 3 _ _ rfl H7 HF7 1 (.int .i64 (cn + 1)) HK1.out HA61 (by decide) { P1.rsc k with count := (P.rsc k).count + 1 } (by rw [HCN.out]; rfl) rfl rfl rfl rfl s1Int rfl ?_)
  intro w8' H8 HF8
  rw [HP1.out, HL.out] at H8
  clear d1 d2 dq
  have HBZ : Hid (Blk _ b [.int .i64 0, .int .i64 0, .bool false]) := Lib.hid (HF8.out.blk HB1.out HNF.out)
  go_wp2_with ((with_reducible show wpList _ _ _ (Oper.mk _ (Op.store 37 _ _) _ _ _ _ :: _) _ _); refine wpList_storeS sOut rfl _ _ rfl b [.int .i64 0, .int .i64 0, .bool false] (ocs ok) rfl rfl HBZ.out rfl rfl (ocs_one _) ?_)
  intro w8 hb8 hg8
  have l8 := Lib.hid (run_loadS sOut b _ hb8 rfl)
  have HRS := Lib.hid (RetSet.fin (v := .agg (ocs ok).toArray) HG1.out HBE.out HNF.out HBL.out HF8.out H8.out hg8)
  clear hb8 hg8
  go_wp2
  exact bodyPost_ret (v := .agg (ocs ok).toArray) (by simp [results, Try.results15, asAddr, Sem.run_bind, Sem.run_pure, l8.out]) rfl HRS.out
theorem Give_calls (w : World) (S : Nat) (P : PSet) (A : Nat → Option Addr) (c : Nat → Nat) (h : SetM w S P A c) (hI : Inv P) (r v ticks : Int) :
    Calls Try.prog 15 #[.pointer (some ⟨S, 0, none⟩), .int .i64 r, .int .i64 v, .int .i64 ticks] w (RetSet w S A (.agg (ocs (giveS P r v ticks).1).toArray) (giveS P r v ticks).2) := by
  by_cases he : refusedI P (runI P) r ticks = 0
  · obtain ⟨h0, hr⟩ := refused_ok he
    obtain ⟨k, rfl, hk⟩ := isR_nat hr
    rcases run_lt hI with hrun | ⟨p, hrun, _, hp⟩
    · omega
    have e1 : giveS P k v ticks = if (P.rsc k).kind = 1 then (ok, wakeAll (upR P k) (P.rsc k).q) else if (P.rsc k).kind = 2 then giveB P k v ticks else if (P.rsc k).kind = 0 then more P k else (ok, P) := by
      unfold giveS
      rw [if_neg (by rw [he]; simp)]
      rfl
    rcases hI.kind k hk with h1 | h1 | h1
    · rw [e1, if_neg (by omega), if_neg (by omega), if_pos h1]
      unfold more
      cases hq : (P.rsc k).q with
      | cons f rest => exact give_sem1 w S P A c h hI k p v ticks he hrun hp hk _ _ _ rfl rfl rfl f rest hq h1
      | nil =>
        by_cases hcm : (P.rsc k).count = (P.rsc k).most
        · simp only [if_pos hcm]
          exact give_sem0 w S P A c h hI k p v ticks he hrun hp hk _ _ _ rfl rfl rfl hq h1 hcm
        · simp only [if_neg hcm]
          exact give_sem2 w S P A c h hI k p v ticks he hrun hp hk _ _ _ rfl rfl rfl hq h1 hcm
    · rw [e1, if_pos h1]
      exact give_sig w S P A c h hI k p v ticks he hrun hp hk _ _ _ rfl rfl rfl h1
    · rw [e1, if_neg (by omega), if_pos h1]
      by_cases hcm : (P.rsc k).count = (P.rsc k).most
      · unfold giveB
        by_cases ht : ticks = 0
        · simp only [if_pos hcm, if_pos ht]
          exact give_busy w S P A c h hI k p v ticks he hrun hp hk _ _ _ rfl rfl rfl h1 hcm ht
        · simp only [if_pos hcm, if_neg ht, hrun]
          exact give_wait w S P A c h hI k p v ticks he hrun hp hk _ _ _ rfl rfl rfl h1 hcm ht
      · cases hq : (P.rsc k).q with
        | cons f rest =>
          have e2 : giveB P k v ticks = (ok, release P f ⟨0, v, false⟩) := by
            unfold giveB
            rw [if_neg hcm]
            split
            · rename_i f' r' h
              rw [hq] at h
              injection h with h2 h3
              rw [h2]
            · rename_i h; rw [hq] at h; cases h
          have e3 := give_buf1 w S P A c h hI k p v ticks he hrun hp hk _ _ _ rfl rfl rfl f rest hq h1 hcm
          show Calls _ _ _ _ (RetSet w S A (.agg (ocs (giveB P k v ticks).1).toArray) (giveB P k v ticks).2)
          rw [e2]
          exact e3
        | nil =>
          have e2 : giveB P k v ticks = (ok, (P.setR k { P.rsc k with items := (P.rsc k).items ++ [v] }).setR k { (P.setR k { P.rsc k with items := (P.rsc k).items ++ [v] }).rsc k with count := (P.rsc k).count + 1 }) := by
            have e3 : (P.setR k { P.rsc k with items := (P.rsc k).items ++ [v] }).rsc k = { P.rsc k with items := (P.rsc k).items ++ [v] } := rsc_setR hk _
            unfold giveB
            rw [if_neg hcm]
            split
            · rename_i h; rw [hq] at h; cases h
            · unfold more
              rw [e3]
              split
              · rename_i h; rw [show ({ P.rsc k with items := (P.rsc k).items ++ [v] } : Rsc).q = (P.rsc k).q from rfl, hq] at h; cases h
              · rw [if_neg hcm]
          have e3 := give_buf0 w S P A c h hI k p v ticks he hrun hp hk _ _ _ rfl rfl rfl hq h1 hcm
          show Calls _ _ _ _ (RetSet w S A (.agg (ocs (giveB P k v ticks).1).toArray) (giveB P k v ticks).2)
          rw [e2]
          exact e3
  · have e1 : giveS P r v ticks = (errO (refusedI P (runI P) r ticks), P) := by unfold giveS; rw [if_pos he]
    rw [e1]
    exact give_refused w S P A c h hI r v ticks _ rfl he
end Go.Proofs.Ytgeffkdobnipgaa
