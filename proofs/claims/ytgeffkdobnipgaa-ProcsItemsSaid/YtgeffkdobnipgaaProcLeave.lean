/- procs: leave. -/
import Derived.Test.YtgeffkdobnipgaaProcSt
import Derived.Deep.DeepCutAuto
namespace Nac.Procs
def readyOf (P : PSet) (p : Nat) : PSet := { P with ready := without P.ready p }
theorem leave_in {P : PSet} {p r : Nat} (h2 : (P.proc p).st = 2) (hr : (P.proc p).res = r) (hne : (r : Int) ≠ -1) : leave P p = ((readyOf P p).setR r { P.rsc r with q := without (P.rsc r).q p }).setP p { P.proc p with res := -1, left := 0, item := 0 } := by
  have e : unq (readyOf P p) p = (readyOf P p).setR r { P.rsc r with q := without (P.rsc r).q p } := by
    unfold unq
    rw [if_pos]
    · have : ((readyOf P p).proc p).res.toNat = r := by show (P.proc p).res.toNat = r; rw [hr]; rfl
      rw [this]; rfl
    · exact ⟨h2, by show (P.proc p).res ≠ -1; rw [hr]; exact hne⟩
  show (unq (readyOf P p) p).setP p { (readyOf P p).proc p with res := -1, left := 0, item := 0 } = _
  rw [e]
  rfl
theorem leave_out {P : PSet} {p : Nat} (h : ¬ ((P.proc p).st = 2 ∧ (P.proc p).res ≠ -1)) : leave P p = (readyOf P p).setP p { P.proc p with res := -1, left := 0, item := 0 } := by
  have e : unq (readyOf P p) p = readyOf P p := by
    unfold unq
    rw [if_neg]
    exact h
  show (unq (readyOf P p) p).setP p { (readyOf P p).proc p with res := -1, left := 0, item := 0 } = _
  rw [e]
  rfl
end Nac.Procs
namespace Go.Proofs.Ytgeffkdobnipgaa
open Go.RowKit Nac Nac.Procs
theorem SetM.head0 {w : World} {S : Nat} {P : PSet} {A : Nat → Option Addr} {c : Nat → Nat} (h : SetM w S P A c) {g n : Nat} (hA : A 0 = some ⟨g, 0, none⟩) (hn : n = P.ps.length) : w.cell? ⟨S, 0, none⟩ = some (.slice (some ⟨g, 0, none⟩) n (c 0)) := by rw [hn, ← hA]; exact h.blk.cell rfl
theorem SetM.head1 {w : World} {S : Nat} {P : PSet} {A : Nat → Option Addr} {c : Nat → Nat} (h : SetM w S P A c) {g n : Nat} (hA : A 1 = some ⟨g, 0, none⟩) (hn : n = P.rs.length) : w.cell? ⟨S, 1, none⟩ = some (.slice (some ⟨g, 0, none⟩) n (c 1)) := by rw [hn, ← hA]; exact h.blk.cell rfl
theorem without_callsN (w : World) (p : Nat) (A : Option Addr) (c n : Nat) (l : List Nat) (hn : n = l.length) (hr : Row w 3 1 A c l.length (nums l)) (h8 : l.length ≤ 1000) :
    Calls Try.prog 47 #[.slice A n c, .int .i64 (p : Int)] w (RetDel w A c (without l p)) := by
  subst hn; exact without_calls w p A c l hr h8
theorem leave_none (w : World) (S : Nat) (P : PSet) (A : Nat → Option Addr) (c : Nat → Nat) (h : SetM w S P A c) (hw : Wf P 1000) (p : Nat) (hp : p < P.ps.length) (hno : ¬ ((P.proc p).st = 2 ∧ (P.proc p).res ≠ -1)) :
    Calls Try.prog 37 #[.pointer (some ⟨S, 0, none⟩), .int .i64 (p : Int)] w (RetSet w S A (.tuple #[]) (leave P p)) := by
  obtain ⟨g, hA, _⟩ := h.pcell hp
  have c0 := h.head0 hA rfl
  have c2 := h.head
  have h8 := hw.n
  have hrd := hw.rd
  obtain ⟨n, hn⟩ : ∃ n, n = P.ps.length := ⟨_, rfl⟩
  obtain ⟨n2, hn2⟩ : ∃ n, n = P.ready.length := ⟨_, rfl⟩
  have HL := Lib.hid (leave_out hno)
  have H := Lib.hid h
  have HA := Lib.hid hA
  have HN := Lib.hid hn
  have HN2 := Lib.hid hn2
  have HNO := Lib.hid hno
  have HP := Lib.hid hp
  rw [← hn] at c0 hp h8
  rw [← hn2] at hrd c2
  clear h hA hn hn2 hw hno
  go_enter Try.func37, Try.ntmps37
  go_wp2_with fail
  refine (without_callsN w p (A 2) (c 2) n2 P.ready HN2.out H.out.rd (by rw [← HN2.out]; exact hrd)).mono ?_
  rintro e w1 ⟨rfl, hrow, hgr⟩
  have HR := Lib.hid hrow
  have HG := Lib.hid hgr
  have HB : Hid (NewB w (A 2) (A 2)) := Lib.hid (.inl rfl)
  obtain ⟨m, hm⟩ : ∃ m, m = (without P.ready p).length := ⟨_, rfl⟩
  rw [← hm]
  have HM := Lib.hid hm
  have HF0 := Lib.hid (FrS.refl S A w)
  clear hrow hgr hm c0 c2
  go_wp2_with ((with_reducible show wpList _ _ _ (Oper.mk _ (Op.store _ _ _) _ _ _ _ :: _) _ _); refine wpList_storeReady rfl 28 _ _ rfl H HF0 HM.out HR HG HB rfl rfl s1Ints ?_)
  rw [upA_id, upC_id]
  intro w2 H2 HF2
  change Hid (SetM w2 S (readyOf P p) A c) at H2
  clear HR HG HB HF0 HM H
  have hs2 := H2.out.pget (f := 1) HP.out HA.out rfl
  have hs5 := H2.out.pget (f := 5) HP.out HA.out rfl
  obtain ⟨st, hst⟩ : ∃ st, st = (P.proc p).st := ⟨_, rfl⟩
  obtain ⟨rs, hrs⟩ : ∃ rs, rs = (P.proc p).res := ⟨_, rfl⟩
  replace hs2 : w2.cell? ⟨g, p * 8 + 1, none⟩ = some (.int .i64 st) := by rw [hst]; exact hs2
  replace hs5 : w2.cell? ⟨g, p * 8 + 5, none⟩ = some (.int .i64 rs) := by rw [hrs]; exact hs5
  have hno' : ¬ (st = 2 ∧ rs ≠ -1) := by rw [hst, hrs]; exact HNO.out
  have hp2 : p < (readyOf P p).ps.length := HP.out
  by_cases hs : st = 2
  · have hr : rs = -1 := by
      by_cases h : rs = -1
      · exact h
      · exact absurd ⟨hs, h⟩ hno'
    subst hs hr
    clear hno' hst hrs
    go_wp2_with ((with_reducible show wpList _ _ _ (Oper.mk _ (Op.store _ _ _) _ _ _ _ :: _) _ _); refine wpList_storeP rfl 3 _ _ rfl H2 HF2 5 (.int .i64 (-1)) hp2 HA (by decide) { P.proc p with res := -1 } (rfl) rfl rfl s1Int rfl ?_)
    intro w3 H3 HF3
    go_wp2_with ((with_reducible show wpList _ _ _ (Oper.mk _ (Op.store _ _ _) _ _ _ _ :: _) _ _); refine wpList_storeP rfl 3 _ _ rfl H3 HF3 6 (.int .i64 0) (by rw [ps_setP]; exact hp2) HA (by decide) { P.proc p with res := -1, left := 0 } (by rw [proc_setP hp2]; rfl) rfl rfl s1Int rfl ?_)
    rw [setP_setP]
    intro w4 H4 HF4
    go_wp2_with ((with_reducible show wpList _ _ _ (Oper.mk _ (Op.store _ _ _) _ _ _ _ :: _) _ _); refine wpList_storeP rfl 2 _ _ rfl H4 HF4 7 (.int .i64 0) (by rw [ps_setP]; exact hp2) HA (by decide) { P.proc p with res := -1, left := 0, item := 0 } (by rw [proc_setP hp2]; rfl) rfl rfl s1I64 rfl ?_)
    rw [setP_setP]
    intro w5 H5 HF5
    go_wp2
    have HE : Hid (SetM w5 S (leave P p) A c) := Lib.hid (by rw [HL.out]; exact H5.out)
    exact bodyPost_ret (v := .tuple #[]) (by simp [results, Try.results37, go_sem]) rfl ⟨rfl, _, _, HE.out, HF5.out⟩
  · have hs' : (st == 2) = false := by simpa using hs
    clear hno' hst hrs
    go_wp2_with ((with_reducible show wpList _ _ _ (Oper.mk _ (Op.store _ _ _) _ _ _ _ :: _) _ _); refine wpList_storeP rfl 3 _ _ rfl H2 HF2 5 (.int .i64 (-1)) hp2 HA (by decide) { P.proc p with res := -1 } (rfl) rfl rfl s1Int rfl ?_)
    intro w3 H3 HF3
    go_wp2_with ((with_reducible show wpList _ _ _ (Oper.mk _ (Op.store _ _ _) _ _ _ _ :: _) _ _); refine wpList_storeP rfl 3 _ _ rfl H3 HF3 6 (.int .i64 0) (by rw [ps_setP]; exact hp2) HA (by decide) { P.proc p with res := -1, left := 0 } (by rw [proc_setP hp2]; rfl) rfl rfl s1Int rfl ?_)
    rw [setP_setP]
    intro w4 H4 HF4
    go_wp2_with ((with_reducible show wpList _ _ _ (Oper.mk _ (Op.store _ _ _) _ _ _ _ :: _) _ _); refine wpList_storeP rfl 2 _ _ rfl H4 HF4 7 (.int .i64 0) (by rw [ps_setP]; exact hp2) HA (by decide) { P.proc p with res := -1, left := 0, item := 0 } (by rw [proc_setP hp2]; rfl) rfl rfl s1I64 rfl ?_)
    rw [setP_setP]
    intro w5 H5 HF5
    go_wp2
    have HE : Hid (SetM w5 S (leave P p) A c) := Lib.hid (by rw [HL.out]; exact H5.out)
    exact bodyPost_ret (v := .tuple #[]) (by simp [results, Try.results37, go_sem]) rfl ⟨rfl, _, _, HE.out, HF5.out⟩
theorem leave_some (w : World) (S : Nat) (P : PSet) (A : Nat → Option Addr) (c : Nat → Nat) (h : SetM w S P A c) (hw : Wf P 1000) (p r : Nat) (hp : p < P.ps.length) (hst : (P.proc p).st = 2) (hre : (P.proc p).res = r) (hr : r < P.rs.length) :
    Calls Try.prog 37 #[.pointer (some ⟨S, 0, none⟩), .int .i64 (p : Int)] w (RetSet w S A (.tuple #[]) (leave P p)) := by
  obtain ⟨g, hA, _⟩ := h.pcell hp
  obtain ⟨g1, hA1, _⟩ := h.rcell hr
  have c0 := h.head0 hA rfl
  have c2 := h.head
  have h8 := hw.n
  have h8r := hw.m
  have hrd := hw.rd
  have hqq := hw.q r
  obtain ⟨n, hn⟩ : ∃ n, n = P.ps.length := ⟨_, rfl⟩
  obtain ⟨n2, hn2⟩ : ∃ n, n = P.ready.length := ⟨_, rfl⟩
  have HL := Lib.hid (leave_in hst hre (by omega))
  have H := Lib.hid h
  have HA := Lib.hid hA
  have HA1 := Lib.hid hA1
  have HN := Lib.hid hn
  have HN2 := Lib.hid hn2
  have HST := Lib.hid hst
  have HRE := Lib.hid hre
  have HP := Lib.hid hp
  have HRR := Lib.hid hr
  have HQQ := Lib.hid hqq
  have HM1 := Lib.hid h8r
  rw [← hn] at c0 hp h8
  rw [← hn2] at hrd c2
  clear h hA hA1 hn hn2 hw hst hre hr hqq h8r
  go_enter Try.func37, Try.ntmps37
  go_wp2_with fail
  refine (without_callsN w p (A 2) (c 2) n2 P.ready HN2.out H.out.rd (by rw [← HN2.out]; exact hrd)).mono ?_
  rintro e w1 ⟨rfl, hrow, hgr⟩
  have HR := Lib.hid hrow
  have HG := Lib.hid hgr
  have HB : Hid (NewB w (A 2) (A 2)) := Lib.hid (.inl rfl)
  obtain ⟨m, hm⟩ : ∃ m, m = (without P.ready p).length := ⟨_, rfl⟩
  rw [← hm]
  have HM := Lib.hid hm
  have HF0 := Lib.hid (FrS.refl S A w)
  clear hrow hgr hm c0 c2
  go_wp2_with ((with_reducible show wpList _ _ _ (Oper.mk _ (Op.store _ _ _) _ _ _ _ :: _) _ _); refine wpList_storeReady rfl 28 _ _ rfl H HF0 HM.out HR HG HB rfl rfl s1Ints ?_)
  rw [upA_id, upC_id]
  intro w2 H2 HF2
  change Hid (SetM w2 S (readyOf P p) A c) at H2
  clear HR HG HB HF0 HM H
  have hs2 : w2.cell? ⟨g, p * 8 + 1, none⟩ = some (.int .i64 2) := by rw [← HST.out]; exact H2.out.pget (f := 1) HP.out HA.out rfl
  have hs5 : w2.cell? ⟨g, p * 8 + 5, none⟩ = some (.int .i64 (r : Int)) := by rw [← HRE.out]; exact H2.out.pget (f := 5) HP.out HA.out rfl
  have hp2 : p < (readyOf P p).ps.length := HP.out
  obtain ⟨n1, hn1⟩ : ∃ n, n = P.rs.length := ⟨_, rfl⟩
  obtain ⟨lq, hlq⟩ : ∃ n, n = (P.rsc r).q.length := ⟨_, rfl⟩
  have c1 : w2.cell? ⟨S, 1, none⟩ = some (.slice (some ⟨g1, 0, none⟩) n1 (c 1)) := H2.out.head1 HA1.out hn1
  have c3 : w2.cell? ⟨g1, r * 5 + 3, none⟩ = some (.slice (A (3 + 2 * r)) lq (c (3 + 2 * r))) := by rw [hlq]; exact H2.out.rget (f := 3) HRR.out HA1.out rfl
  have hr1 : r < n1 := by rw [hn1]; exact HRR.out
  have h8r : n1 ≤ 1000 := by rw [hn1]; exact HM1.out
  have HLQ := Lib.hid hlq
  have hrne : ((r : Int) != -1) = true := by simp
  have hrne2 : ((r : Int) == -1) = false := by simp
  clear hn1 hlq
  go_wp2_with fail
  go_quiet (fail)
  go_wp2_with fail
  refine (without_callsN _ p (A (3 + 2 * r)) (c (3 + 2 * r)) lq (P.rsc r).q HLQ.out ((H2.out.drewN _).qo r HRR.out) HQQ.out).mono ?_
  rintro e w3 ⟨rfl, hrow, hgr⟩
  have HR := Lib.hid hrow
  have HG : Hid (w2.grownBy w3 ((A (3 + 2 * r)).map (·.block))) := Lib.hid ⟨hgr.os, hgr.tape, hgr.output, hgr.size, hgr.block⟩
  have HB : Hid (NewB w2 (A (3 + 2 * r)) (A (3 + 2 * r))) := Lib.hid (.inl rfl)
  obtain ⟨m2, hm2⟩ : ∃ m, m = (without (P.rsc r).q p).length := ⟨_, rfl⟩
  rw [← hm2]
  have HM2 := Lib.hid hm2
  have hrr : r < (readyOf P p).rs.length := HRR.out
  clear hrow hgr hm2 hs2 hs5 c1 c3
  go_wp2_with ((with_reducible show wpList _ _ _ (Oper.mk _ (Op.store _ _ _) _ _ _ _ :: _) _ _); refine wpList_storeQ rfl 28 _ _ rfl H2 HF2 hrr HA1 HM2.out HR HG HB rfl rfl s1Ints ?_)
  rw [upA_id, upC_id]
  intro w4 H4 HF4
  change Hid (SetM w4 S ((readyOf P p).setR r { P.rsc r with q := without (P.rsc r).q p }) A c) at H4
  clear H2 HF2 HR HG HB HM2 hrr
  replace hp2 : p < ((readyOf P p).setR r { P.rsc r with q := without (P.rsc r).q p }).ps.length := hp2
  go_wp2_with ((with_reducible show wpList _ _ _ (Oper.mk _ (Op.store _ _ _) _ _ _ _ :: _) _ _); refine wpList_storeP rfl 3 _ _ rfl H4 HF4 5 (.int .i64 (-1)) (by first | exact hp2 | (rw [ps_setP]; exact hp2)) HA (by decide) { P.proc p with res := -1 } (rfl) rfl rfl s1Int rfl ?_)
  intro w5 H5 HF5
  go_wp2_with ((with_reducible show wpList _ _ _ (Oper.mk _ (Op.store _ _ _) _ _ _ _ :: _) _ _); refine wpList_storeP rfl 3 _ _ rfl H5 HF5 6 (.int .i64 0) (by first | exact hp2 | (rw [ps_setP]; exact hp2)) HA (by decide) { P.proc p with res := -1, left := 0 } (by rw [proc_setP hp2]; rfl) rfl rfl s1Int rfl ?_)
  rw [setP_setP]
  intro w6 H6 HF6
  go_wp2_with ((with_reducible show wpList _ _ _ (Oper.mk _ (Op.store _ _ _) _ _ _ _ :: _) _ _); refine wpList_storeP rfl 2 _ _ rfl H6 HF6 7 (.int .i64 0) (by first | exact hp2 | (rw [ps_setP]; exact hp2)) HA (by decide) { P.proc p with res := -1, left := 0, item := 0 } (by rw [proc_setP hp2]; rfl) rfl rfl s1I64 rfl ?_)
  rw [setP_setP]
  intro w7 H7 HF7
  go_wp2
  have HE : Hid (SetM w7 S (leave P p) A c) := Lib.hid (by rw [HL.out]; exact H7.out)
  exact bodyPost_ret (v := .tuple #[]) (by simp [results, Try.results37, go_sem]) rfl ⟨rfl, _, _, HE.out, HF7.out⟩
theorem leave_calls (w : World) (S : Nat) (P : PSet) (A : Nat → Option Addr) (c : Nat → Nat) (h : SetM w S P A c) (hw : Wf P 1000) (p : Nat) (hp : p < P.ps.length) :
    Calls Try.prog 37 #[.pointer (some ⟨S, 0, none⟩), .int .i64 (p : Int)] w (RetSet w S A (.tuple #[]) (leave P p)) := by
  by_cases h2 : (P.proc p).st = 2 ∧ (P.proc p).res ≠ -1
  · obtain ⟨h3, h4⟩ := hw.res p h2.1 h2.2
    obtain ⟨r, hr⟩ : ∃ r : Nat, (P.proc p).res = r := ⟨(P.proc p).res.toNat, by omega⟩
    exact leave_some w S P A c h hw p r hp h2.1 hr (by omega)
  · exact leave_none w S P A c h hw p hp h2
end Go.Proofs.Ytgeffkdobnipgaa
