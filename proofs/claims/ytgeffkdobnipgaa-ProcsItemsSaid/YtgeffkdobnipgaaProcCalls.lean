/- procs: Last, Start, Stop, Lower, Sleep, refused. -/
import Derived.Test.YtgeffkdobnipgaaProcRun
import Derived.Test.YtgeffkdobnipgaaProcActs
namespace Nac.Procs
def lastO (P : PSet) (p : Int) : Out := if isP P p = true then (P.proc p.toNat).last else ok
theorem isP_nat {P : PSet} {p : Int} (h : isP P p = true) : ∃ k : Nat, p = k ∧ k < P.ps.length := by
  unfold isP at h
  simp at h
  exact ⟨p.toNat, by omega, by omega⟩
theorem isR_nat {P : PSet} {p : Int} (h : isR P p = true) : ∃ k : Nat, p = k ∧ k < P.rs.length := by
  unfold isR at h
  simp at h
  exact ⟨p.toNat, by omega, by omega⟩
end Nac.Procs
namespace Go.Proofs.Ytgeffkdobnipgaa
open Go.RowKit Nac Nac.Procs
def RetVb (w : World) (v : Value) (e : Ending) (w' : World) : Prop := e = .returned v ∧ Below w.heap.size w w'
theorem RetSet.same {w : World} {S : Nat} {P : PSet} {A : Nat → Option Addr} {c : Nat → Nat} {v v' : Value} (h : SetM w S P A c) (hv : v' = v) : RetSet w S A v P (.returned v') w := ⟨by rw [hv], A, c, h, FrS.refl S A w⟩
theorem Last_calls (w : World) (S : Nat) (P : PSet) (A : Nat → Option Addr) (c : Nat → Nat) (h : SetM w S P A c) (hI : Inv P) (p : Int) : Calls Try.prog 16 #[.pointer (some ⟨S, 0, none⟩), .int .i64 p] w (RetVb w (.agg (ocs (lastO P p)).toArray)) := by
  have H := Lib.hid h
  have HI := Lib.hid hI
  cases hip : isP P p with
  | false =>
    have HX : Hid (lastO P p = ok) := Lib.hid (by unfold lastO; rw [hip]; rfl)
    have HP := Lib.hid hip
    clear h hip hI
    go_enter Try.func16, Try.ntmps16
    go_wp2_with ((with_reducible show wpList _ _ _ (Oper.mk _ (Op.alloc 37) _ _ _ _ :: _) _ _); refine wpList_allocS _ zOut rfl rfl ?_)
    intro w1 hbk hg1 hs1
    obtain ⟨b, hb⟩ : ∃ b, b = w.heap.size := ⟨_, rfl⟩
    rw [← hb] at hbk ⊢
    have HB1 := Lib.hid hbk
    have HW1 : Hid (Below w.heap.size w w1) := Lib.hid (grown_below hg1 (Nat.le_refl _) fun k e => by cases e)
    have HBE : Hid (w.heap.size ≤ b) := Lib.hid (by omega)
    have H1 : Hid (SetM w1 S P A c) := Lib.hid (H.out.below HW1.out)
    clear hbk hg1 hs1 hb H
    go_wp2_with fail
    refine (isProcess_calls w1 S P A c H1.out p).mono ?_
    rintro e w2 ⟨rfl, rfl⟩
    rw [HP.out]
    go_wp2_with ((with_reducible show wpList _ _ _ (Oper.mk _ (Op.store 37 _ _) _ _ _ _ :: _) _ _); refine wpList_storeS sOut rfl _ _ rfl b [.int .i64 0, .int .i64 0, .bool false] (ocs ok) rfl rfl HB1.out rfl rfl (ocs_one _) ?_)
    intro w8 hb8 hg8
    have l8 := Lib.hid (run_loadS sOut b _ hb8 rfl)
    have HBW : Hid (Below w.heap.size w w8) := Lib.hid (HW1.out.trans (grown_below hg8 HW1.out.size fun k e => by injection e with e; have := HBE.out; omega))
    clear hb8 hg8
    go_wp2
    exact bodyPost_ret (v := .agg (ocs ok).toArray) (by simp [results, Try.results16, asAddr, Sem.run_bind, Sem.run_pure, l8.out]) rfl ⟨by rw [HX.out], HBW.out⟩
  | true =>
    have HP := Lib.hid hip
    obtain ⟨k, rfl, hk⟩ := isP_nat hip
    have HX : Hid (lastO P k = (P.proc k).last) := Lib.hid (by unfold lastO; rw [hip]; rfl)
    have HK := Lib.hid hk
    obtain ⟨n, hn⟩ : ∃ n, n = P.ps.length := ⟨_, rfl⟩
    have HN := Lib.hid hn
    have hn8 : n ≤ 1000 := by rw [hn]; exact hI.wf.n
    rw [← hn] at hk
    clear h hip hI hn
    go_enter Try.func16, Try.ntmps16
    go_wp2_with ((with_reducible show wpList _ _ _ (Oper.mk _ (Op.alloc 37) _ _ _ _ :: _) _ _); refine wpList_allocS _ zOut rfl rfl ?_)
    intro w1 hbk hg1 hs1
    obtain ⟨b, hb⟩ : ∃ b, b = w.heap.size := ⟨_, rfl⟩
    rw [← hb] at hbk ⊢
    have HB1 := Lib.hid hbk
    have HW1 : Hid (Below w.heap.size w w1) := Lib.hid (grown_below hg1 (Nat.le_refl _) fun k e => by cases e)
    have HBE : Hid (w.heap.size ≤ b) := Lib.hid (by omega)
    have H1 : Hid (SetM w1 S P A c) := Lib.hid (H.out.below HW1.out)
    obtain ⟨g, hA, _⟩ := H1.out.pcell HK.out
    have c0 := H1.out.head0 hA HN.out
    obtain ⟨u, hu⟩ : ∃ u, u = (P.proc k).last := ⟨_, rfl⟩
    have HRG : Hid (w1.rangeAt g (k * 8 + 2) (ocs u)) := Lib.hid fun j v hv => by
      have hj : j < 3 := (List.getElem?_eq_some_iff.1 hv).1
      rw [show k * 8 + 2 + j = k * 8 + (2 + j) by omega]
      refine H1.out.pget HK.out hA ?_
      rw [hu] at hv
      rcases (by omega : j = 0 ∨ j = 1 ∨ j = 2) with rfl | rfl | rfl <;> exact hv
    rw [← hu] at HX
    obtain ⟨oc, ov, ow⟩ := u
    clear hbk hg1 hs1 hb H hA hu
    go_wp2_with fail
    refine (isProcess_calls w1 S P A c H1.out k).mono ?_
    rintro e w2 ⟨rfl, rfl⟩
    rw [HP.out]
    go_wp2_with (first | ((with_reducible show wpList _ _ _ (Oper.mk _ (Op.load 37 _) _ _ _ _ :: _) _ _); refine wpList_load_mid rfl 37 _ rfl g (k * 8 + 2) rfl [.int .i64 oc, .int .i64 ov, .bool ow] _ HRG.out Try.underlying37 rfl s3Out ?_) | ((with_reducible show wpList _ _ _ (Oper.mk _ (Op.store 37 _ _) _ _ _ _ :: _) _ _); refine wpList_storeS sOut rfl _ _ rfl b [.int .i64 0, .int .i64 0, .bool false] [.int .i64 oc, .int .i64 ov, .bool ow] rfl rfl HB1.out rfl rfl (ocs_one ⟨oc, ov, ow⟩) ?_))
    intro w8 hb8 hg8
    have l8 := Lib.hid (run_loadS sOut b _ hb8 rfl)
    have HBW : Hid (Below w.heap.size w w8) := Lib.hid (HW1.out.trans (grown_below hg8 HW1.out.size fun k e => by injection e with e; have := HBE.out; omega))
    clear hb8 hg8 c0
    go_wp2
    exact bodyPost_ret (v := .agg #[.int .i64 oc, .int .i64 ov, .bool ow]) (by simp [results, Try.results16, asAddr, Sem.run_bind, Sem.run_pure, l8.out]) rfl ⟨by rw [HX.out]; rfl, HBW.out⟩
theorem Start_calls (w : World) (S : Nat) (P : PSet) (A : Nat → Option Addr) (c : Nat → Nat) (h : SetM w S P A c) (hI : Inv P) (p : Int) : Calls Try.prog 11 #[.pointer (some ⟨S, 0, none⟩), .int .i64 p] w (RetSet w S A (.int .i64 (startS P p).1) (startS P p).2) := by
  have H := Lib.hid h
  have HI := Lib.hid hI
  cases hip : isP P p with
  | false =>
    have HX : Hid (startS P p = (4, P)) := Lib.hid (by unfold startS; rw [hip]; rfl)
    have HP := Lib.hid hip
    clear h hip hI
    rw [HX.out]
    go_enter Try.func11, Try.ntmps11
    go_wp2_with fail
    refine (isProcess_calls w S P A c H.out p).mono ?_
    rintro e w2 ⟨rfl, rfl⟩
    rw [HP.out]
    go_wp2
    go_ret
    exact RetSet.same H.out rfl
  | true =>
    have HP := Lib.hid hip
    obtain ⟨k, rfl, hk⟩ := isP_nat hip
    have HK := Lib.hid hk
    obtain ⟨g, hA, _⟩ := h.pcell hk
    obtain ⟨n, hn⟩ : ∃ n, n = P.ps.length := ⟨_, rfl⟩
    have c0 := h.head0 hA hn
    have c1 : w.cell? ⟨g, k * 8 + 1, none⟩ = some (.int .i64 (P.proc k).st) := h.pget (f := 1) hk hA rfl
    obtain ⟨st, hst⟩ : ∃ x, x = (P.proc k).st := ⟨_, rfl⟩
    rw [← hst] at c1
    have hn8 : n ≤ 1000 := by rw [hn]; exact hI.wf.n
    rw [← hn] at hk
    by_cases hs : st = 0
    · have HX : Hid (startS P k = (0, wake P k)) := Lib.hid (by unfold startS; rw [hip, if_pos rfl, if_pos (by rw [← hs, hst]; rfl)]; rfl)
      subst hs
      clear h hip hI hn hA hst
      rw [HX.out]
      go_enter Try.func11, Try.ntmps11
      go_wp2_with fail
      refine (isProcess_calls w S P A c H.out k).mono ?_
      rintro e w2 ⟨rfl, rfl⟩
      rw [HP.out]
      go_wp2_with fail
      refine (wake_calls w S P A c H.out HI.out.wf.n (by have := HI.out.rlen; omega) k HK.out).mono ?_
      rintro e w3 ⟨rfl, hrs⟩
      have HRS := Lib.hid hrs
      clear hrs
      go_wp2
      go_ret
      exact ⟨rfl, HRS.out⟩
    · have HX : Hid (startS P k = (1, P)) := Lib.hid (by unfold startS; rw [hip, if_pos rfl, if_neg (by intro e; exact hs (hst.trans e))])
      have hs1 : (st != 0) = true := by simpa using hs
      have hs2 : (st == 0) = false := by simpa using hs
      clear h hip hI hn hA hst hs
      rw [HX.out]
      go_enter Try.func11, Try.ntmps11
      go_wp2_with fail
      refine (isProcess_calls w S P A c H.out k).mono ?_
      rintro e w2 ⟨rfl, rfl⟩
      rw [HP.out]
      go_wp2
      go_ret
      exact RetSet.same H.out rfl
theorem Stop_calls (w : World) (S : Nat) (P : PSet) (A : Nat → Option Addr) (c : Nat → Nat) (h : SetM w S P A c) (hI : Inv P) (p : Int) : Calls Try.prog 22 #[.pointer (some ⟨S, 0, none⟩), .int .i64 p] w (RetSet w S A (.int .i64 (stopS P p).1) (stopS P p).2) := by
  have H := Lib.hid h
  have HI := Lib.hid hI
  cases hip : isP P p with
  | false =>
    have HX : Hid (stopS P p = (4, P)) := Lib.hid (by unfold stopS; rw [hip]; rfl)
    have HP := Lib.hid hip
    clear h hip hI
    rw [HX.out]
    go_enter Try.func22, Try.ntmps22
    go_wp2_with fail
    refine (isProcess_calls w S P A c H.out p).mono ?_
    rintro e w2 ⟨rfl, rfl⟩
    rw [HP.out]
    go_wp2
    go_ret
    exact RetSet.same H.out rfl
  | true =>
    have HP := Lib.hid hip
    obtain ⟨k, rfl, hk⟩ := isP_nat hip
    have HK := Lib.hid hk
    obtain ⟨g, hA, _⟩ := h.pcell hk
    obtain ⟨n, hn⟩ : ∃ n, n = P.ps.length := ⟨_, rfl⟩
    have c0 := h.head0 hA hn
    have c1 : w.cell? ⟨g, k * 8 + 1, none⟩ = some (.int .i64 (P.proc k).st) := h.pget (f := 1) hk hA rfl
    obtain ⟨st, hst⟩ : ∃ x, x = (P.proc k).st := ⟨_, rfl⟩
    rw [← hst] at c1
    have hn8 : n ≤ 1000 := by rw [hn]; exact hI.wf.n
    have HN := Lib.hid hn
    rw [← hn] at hk
    by_cases hs : st = 0
    · have HX : Hid (stopS P k = (6, P)) := Lib.hid (by unfold stopS; rw [hip, if_pos rfl, if_pos (by rw [← hs, hst]; rfl)])
      subst hs
      clear h hip hI hn hA hst
      rw [HX.out]
      go_enter Try.func22, Try.ntmps22
      go_wp2_with fail
      refine (isProcess_calls w S P A c H.out k).mono ?_
      rintro e w2 ⟨rfl, rfl⟩
      rw [HP.out]
      go_wp2
      go_ret
      exact RetSet.same H.out rfl
    · have HX : Hid (stopS P k = (0, dorm P k)) := Lib.hid (by unfold stopS; rw [hip, if_pos rfl, if_neg (by intro e; exact hs (hst.trans e))]; rfl)
      have hs1 : (st != 0) = true := by simpa using hs
      have hs2 : (st == 0) = false := by simpa using hs
      clear h hip hI hn hA hst hs
      rw [HX.out]
      go_enter Try.func22, Try.ntmps22
      go_wp2_with fail
      refine (isProcess_calls w S P A c H.out k).mono ?_
      rintro e w2 ⟨rfl, rfl⟩
      rw [HP.out]
      go_wp2_with fail
      refine (leave_calls w S P A c H.out (HI.out.wf.mono (by decide)) k HK.out).mono ?_
      rintro e w3 ⟨rfl, A1, c1', h3, hf3⟩
      have hp2 : k < (leave P k).ps.length := by rw [leave_n]; exact HK.out
      obtain ⟨g', hA', _⟩ := h3.pcell hp2
      have c3 := h3.head0 hA' (n := n) (by rw [leave_n]; exact HN.out)
      have H3 := Lib.hid h3
      have HF3 := Lib.hid hf3
      have HA' := Lib.hid hA'
      have HP2 := Lib.hid hp2
      clear h3 hf3 hA' hp2 c0 c1
      go_wp2_with ((with_reducible show wpList _ _ _ (Oper.mk _ (Op.store _ _ _) _ _ _ _ :: _) _ _); refine wpList_storeP rfl 3 _ _ rfl H3 HF3 1 (.int .i64 0) HP2.out HA' (by decide) { (leave P k).proc k with st := 0 } (by rfl) rfl rfl s1Int rfl ?_)
      intro w4 H4 HF4
      clear c3
      go_wp2
      go_ret
      exact ⟨rfl, _, _, H4.out, HF4.out⟩
theorem Lower_calls (w : World) (S : Nat) (P : PSet) (A : Nat → Option Addr) (c : Nat → Nat) (h : SetM w S P A c) (hI : Inv P) (p : Int) : Calls Try.prog 44 #[.pointer (some ⟨S, 0, none⟩), .int .i64 p] w (RetSet w S A (.int .i64 (lowerS P p).1) (lowerS P p).2) := by
  have H := Lib.hid h
  have HI := Lib.hid hI
  cases hip : isR P p with
  | false =>
    have HX : Hid (lowerS P p = (4, P)) := Lib.hid (by unfold lowerS; rw [hip]; rfl)
    have HP := Lib.hid hip
    clear h hip hI
    rw [HX.out]
    go_enter Try.func44, Try.ntmps44
    go_wp2_with fail
    refine (isResource_calls w S P A c H.out p).mono ?_
    rintro e w2 ⟨rfl, rfl⟩
    rw [HP.out]
    go_wp2
    go_ret
    exact RetSet.same H.out rfl
  | true =>
    have HP := Lib.hid hip
    obtain ⟨k, rfl, hk⟩ := isR_nat hip
    have HK := Lib.hid hk
    obtain ⟨g, hA, _⟩ := h.rcell hk
    obtain ⟨n, hn⟩ : ∃ n, n = P.rs.length := ⟨_, rfl⟩
    have c0 := h.head1 hA hn
    have c1 : w.cell? ⟨g, k * 5, none⟩ = some (.int .i64 (P.rsc k).kind) := h.rget (f := 0) hk hA rfl
    obtain ⟨st, hst⟩ : ∃ x, x = (P.rsc k).kind := ⟨_, rfl⟩
    rw [← hst] at c1
    have hn8 : n ≤ 1000 := by rw [hn]; exact hI.wf.m
    have HA := Lib.hid hA
    rw [← hn] at hk
    by_cases hs : st = 1
    · have HX : Hid (lowerS P k = (0, P.setR k { P.rsc k with count := 0 })) := Lib.hid (by unfold lowerS; rw [hip, if_pos rfl, if_pos (by rw [← hs, hst]; rfl)]; rfl)
      subst hs
      have HF := Lib.hid (FrS.refl S A w)
      clear h hip hI hn hA hst
      rw [HX.out]
      go_enter Try.func44, Try.ntmps44
      go_wp2_with fail
      refine (isResource_calls w S P A c H.out k).mono ?_
      rintro e w2 ⟨rfl, rfl⟩
      rw [HP.out]
      go_wp2_with ((with_reducible show wpList _ _ _ (Oper.mk _ (Op.store _ _ _) _ _ _ _ :: _) _ _); refine wpList_storeR rfl 3 _ _ rfl H HF 1 (.int .i64 0) HK.out HA (by decide) { P.rsc k with count := 0 } (by rfl) rfl rfl rfl rfl s1Int rfl ?_)
      intro w4 H4 HF4
      clear c0 c1
      go_wp2
      go_ret
      exact ⟨rfl, _, _, H4.out, HF4.out⟩
    · have HX : Hid (lowerS P k = (1, P)) := Lib.hid (by unfold lowerS; rw [hip, if_pos rfl, if_neg (by intro e; exact hs (hst.trans e))])
      have hs1 : (st != 1) = true := by simpa using hs
      have hs2 : (st == 1) = false := by simpa using hs
      clear h hip hI hn hA hst hs
      rw [HX.out]
      go_enter Try.func44, Try.ntmps44
      go_wp2_with fail
      refine (isResource_calls w S P A c H.out k).mono ?_
      rintro e w2 ⟨rfl, rfl⟩
      rw [HP.out]
      go_wp2
      go_ret
      exact RetSet.same H.out rfl
end Go.Proofs.Ytgeffkdobnipgaa
