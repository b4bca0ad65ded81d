/- procs: refused, Sleep. -/
import Derived.Test.YtgeffkdobnipgaaProcCalls
namespace Go.Proofs.Ytgeffkdobnipgaa
open Go.RowKit Nac Nac.Procs
theorem RetSet.fin {w w1 wk w8 : World} {S b : Nat} {A A' : Nat → Option Addr} {c' : Nat → Nat} {P' : PSet} {v : Value} (hg1 : w.grownBy w1 none) (hbe : w.heap.size ≤ b) (hnf : ¬ Foot S A b) (hbl : b < w1.heap.size) (hf : FrS S A w1 A' wk) (hm : SetM wk S P' A' c') (hg8 : wk.grownBy w8 (some b)) : RetSet w S A v P' (.returned v) w8 :=
  RetSet.of hg1 hbe hf hg8 (hm.keepB hg8 (hf.nf hnf hbl))
theorem refused_calls (w : World) (S : Nat) (P : PSet) (A : Nat → Option Addr) (c : Nat → Nat) (h : SetM w S P A c) (p r ticks : Int) : Calls Try.prog 30 #[.pointer (some ⟨S, 0, none⟩), .int .i64 p, .int .i64 r, .int .i64 ticks] w (RetIw w (refusedI P p r ticks)) := by
  have H := Lib.hid h
  clear h
  by_cases hp : p < 0
  · have HX : Hid (refusedI P p r ticks = 6) := Lib.hid (by unfold refusedI; rw [if_pos hp])
    rw [HX.out]
    go_enter Try.func30, Try.ntmps30
    go_wp2
    go_ret
    exact ⟨rfl, rfl⟩
  cases hr : isR P r with
  | false =>
    have HX : Hid (refusedI P p r ticks = 4) := Lib.hid (by unfold refusedI; rw [if_neg hp, if_pos hr])
    have HR := Lib.hid hr
    clear hr
    rw [HX.out]
    go_enter Try.func30, Try.ntmps30
    go_wp2_with fail
    refine (isResource_calls w S P A c H.out r).mono ?_
    rintro e w1 ⟨rfl, rfl⟩
    rw [HR.out]
    go_wp2
    go_ret
    exact ⟨rfl, rfl⟩
  | true =>
    have HR := Lib.hid hr
    clear hr
    cases hb : badT ticks with
    | true =>
      have HX : Hid (refusedI P p r ticks = 1) := Lib.hid (by unfold refusedI; rw [if_neg hp, if_neg (by rw [HR.out]; decide), if_pos hb])
      have hb' : ticks < 0 ∨ 1048576 < ticks := by unfold badT at hb; simpa using hb
      clear hb
      rw [HX.out]
      rcases hb' with hb' | hb'
      · go_enter Try.func30, Try.ntmps30
        go_wp2_with fail
        refine (isResource_calls w S P A c H.out r).mono ?_
        rintro e w1 ⟨rfl, rfl⟩
        rw [HR.out]
        go_wp2
        go_ret
        exact ⟨rfl, rfl⟩
      · have h0 : ¬ ticks < 0 := by omega
        go_enter Try.func30, Try.ntmps30
        go_wp2_with fail
        refine (isResource_calls w S P A c H.out r).mono ?_
        rintro e w1 ⟨rfl, rfl⟩
        rw [HR.out]
        go_wp2
        go_ret
        exact ⟨rfl, rfl⟩
    | false =>
      have HX : Hid (refusedI P p r ticks = 0) := Lib.hid (by unfold refusedI; rw [if_neg hp, if_neg (by rw [HR.out]; decide), if_neg (by rw [hb]; decide)])
      have hb' : ¬ ticks < 0 ∧ ¬ 1048576 < ticks := by unfold badT at hb; simpa using hb
      obtain ⟨h0, h1⟩ := hb'
      clear hb
      rw [HX.out]
      go_enter Try.func30, Try.ntmps30
      go_wp2_with fail
      refine (isResource_calls w S P A c H.out r).mono ?_
      rintro e w1 ⟨rfl, rfl⟩
      rw [HR.out]
      go_wp2
      go_ret
      exact ⟨rfl, rfl⟩
theorem Sleep_calls (w : World) (S : Nat) (P : PSet) (A : Nat → Option Addr) (c : Nat → Nat) (h : SetM w S P A c) (hI : Inv P) (ticks : Int) : Calls Try.prog 20 #[.pointer (some ⟨S, 0, none⟩), .int .i64 ticks] w (RetSet w S A (.agg (ocs (sleepS P ticks).1).toArray) (sleepS P ticks).2) := by
  have H := Lib.hid h
  have HI := Lib.hid hI
  have hrun := run_lt hI
  obtain ⟨ru, hru⟩ : ∃ x, x = runI P := ⟨_, rfl⟩
  have HRU := Lib.hid hru
  clear h hI
  rcases hrun with hrun | ⟨p, hrun, hpr, hpn⟩
  · have HX : Hid (sleepS P ticks = (errO 6, P)) := Lib.hid (by unfold sleepS; rw [if_pos (by omega)])
    have HN : Hid (runI P = -1) := Lib.hid hrun
    clear hrun hru HRU
    rw [HX.out]
    go_enter Try.func20, Try.ntmps20
    go_wp2_with ((with_reducible show wpList _ _ _ (Oper.mk _ (Op.alloc 37) _ _ _ _ :: _) _ _); refine wpList_allocS _ zOut rfl rfl ?_)
    intro w1 hbk hg1 hs1
    obtain ⟨b, hb⟩ : ∃ b, b = w.heap.size := ⟨_, rfl⟩
    rw [← hb] at hbk ⊢
    have HNF : Hid (¬ Foot S A b) := Lib.hid (H.out.notFoot (by rw [hb]; exact Nat.le_refl _))
    have HBL : Hid (b < w1.heap.size) := Lib.hid (by omega)
    have HB1 := Lib.hid hbk
    have HG1 := Lib.hid hg1
    have HBE : Hid (w.heap.size ≤ b) := Lib.hid (by omega)
    have H1 : Hid (SetM w1 S P A c) := Lib.hid (H.out.apart hg1 fun k e => by cases e)
    clear hbk hg1 hs1 hb H
    go_wp2_with fail
    refine (Running_calls w1 S P A c H1.out HI.out.wf.n (by have := HI.out.rlen; omega) HI.out.rin).mono ?_
    rintro e w2 ⟨rfl, hb2⟩
    have H2 : Hid (SetM w2 S P A c) := Lib.hid (H1.out.below hb2)
    have HF2 : Hid (FrS S A w1 A w2) := Lib.hid (FrS.below hb2)
    have HB2 : Hid (Blk w2 b [.int .i64 0, .int .i64 0, .bool false]) := Lib.hid (HB1.out.below hb2 HB1.out.lt)
    clear hb2 H1 HB1
    rw [HN.out]
    go_wp2_with ((with_reducible show wpList _ _ _ (Oper.mk _ (Op.store 37 _ _) _ _ _ _ :: _) _ _); refine wpList_storeS sOut rfl _ _ rfl b [.int .i64 0, .int .i64 0, .bool false] (ocs (errO 6)) rfl rfl HB2.out rfl rfl (ocs_one _) ?_)
    intro w8 hb8 hg8
    have l8 := Lib.hid (run_loadS sOut b _ hb8 rfl)
    have HRS := Lib.hid (RetSet.fin (v := .agg (ocs (errO 6)).toArray) HG1.out HBE.out HNF.out HBL.out HF2.out H2.out hg8)
    clear hb8 hg8
    go_wp2
    exact bodyPost_ret (v := .agg (ocs (errO 6)).toArray) (by simp [results, Try.results20, asAddr, Sem.run_bind, Sem.run_pure, l8.out]) rfl HRS.out
  · have HN : Hid (runI P = p) := Lib.hid hrun
    have HPN := Lib.hid hpn
    have h0 : ¬ runI P < 0 := by omega
    have htn : (runI P).toNat = p := by omega
    cases hb : badT ticks with
    | true =>
      have HX : Hid (sleepS P ticks = (errO 1, P)) := Lib.hid (by unfold sleepS; rw [if_neg h0, if_pos hb])
      have hb' : ticks < 0 ∨ (¬ ticks < 0 ∧ 1048576 < ticks) := by unfold badT at hb; simp at hb; omega
      clear hb hrun hru HRU h0 htn hpr hpn
      rw [HX.out]
      rcases hb' with hb' | ⟨h0, hb'⟩
      · go_enter Try.func20, Try.ntmps20
        go_wp2_with ((with_reducible show wpList _ _ _ (Oper.mk _ (Op.alloc 37) _ _ _ _ :: _) _ _); refine wpList_allocS _ zOut rfl rfl ?_)
        intro w1 hbk hg1 hs1
        obtain ⟨b, hb⟩ : ∃ b, b = w.heap.size := ⟨_, rfl⟩
        rw [← hb] at hbk ⊢
        have HNF : Hid (¬ Foot S A b) := Lib.hid (H.out.notFoot (by rw [hb]; exact Nat.le_refl _))
        have HBL : Hid (b < w1.heap.size) := Lib.hid (by omega)
        have HB1 := Lib.hid hbk
        have HG1 := Lib.hid hg1
        have HBE : Hid (w.heap.size ≤ b) := Lib.hid (by omega)
        have H1 : Hid (SetM w1 S P A c) := Lib.hid (H.out.apart hg1 fun k e => by cases e)
        clear hbk hg1 hs1 hb H
        go_wp2_with fail
        refine (Running_calls w1 S P A c H1.out HI.out.wf.n (by have := HI.out.rlen; omega) HI.out.rin).mono ?_
        rintro e w2 ⟨rfl, hb2⟩
        have H2 : Hid (SetM w2 S P A c) := Lib.hid (H1.out.below hb2)
        have HF2 : Hid (FrS S A w1 A w2) := Lib.hid (FrS.below hb2)
        have HB2 : Hid (Blk w2 b [.int .i64 0, .int .i64 0, .bool false]) := Lib.hid (HB1.out.below hb2 HB1.out.lt)
        clear hb2 H1 HB1
        rw [HN.out]
        go_wp2_with ((with_reducible show wpList _ _ _ (Oper.mk _ (Op.store 37 _ _) _ _ _ _ :: _) _ _); refine wpList_storeS sOut rfl _ _ rfl b [.int .i64 0, .int .i64 0, .bool false] (ocs (errO 1)) rfl rfl HB2.out rfl rfl (ocs_one _) ?_)
        intro w8 hb8 hg8
        have l8 := Lib.hid (run_loadS sOut b _ hb8 rfl)
        have HRS := Lib.hid (RetSet.fin (v := .agg (ocs (errO 1)).toArray) HG1.out HBE.out HNF.out HBL.out HF2.out H2.out hg8)
        clear hb8 hg8
        go_wp2
        exact bodyPost_ret (v := .agg (ocs (errO 1)).toArray) (by simp [results, Try.results20, asAddr, Sem.run_bind, Sem.run_pure, l8.out]) rfl HRS.out
      · go_enter Try.func20, Try.ntmps20
        go_wp2_with ((with_reducible show wpList _ _ _ (Oper.mk _ (Op.alloc 37) _ _ _ _ :: _) _ _); refine wpList_allocS _ zOut rfl rfl ?_)
        intro w1 hbk hg1 hs1
        obtain ⟨b, hb⟩ : ∃ b, b = w.heap.size := ⟨_, rfl⟩
        rw [← hb] at hbk ⊢
        have HNF : Hid (¬ Foot S A b) := Lib.hid (H.out.notFoot (by rw [hb]; exact Nat.le_refl _))
        have HBL : Hid (b < w1.heap.size) := Lib.hid (by omega)
        have HB1 := Lib.hid hbk
        have HG1 := Lib.hid hg1
        have HBE : Hid (w.heap.size ≤ b) := Lib.hid (by omega)
        have H1 : Hid (SetM w1 S P A c) := Lib.hid (H.out.apart hg1 fun k e => by cases e)
        clear hbk hg1 hs1 hb H
        go_wp2_with fail
        refine (Running_calls w1 S P A c H1.out HI.out.wf.n (by have := HI.out.rlen; omega) HI.out.rin).mono ?_
        rintro e w2 ⟨rfl, hb2⟩
        have H2 : Hid (SetM w2 S P A c) := Lib.hid (H1.out.below hb2)
        have HF2 : Hid (FrS S A w1 A w2) := Lib.hid (FrS.below hb2)
        have HB2 : Hid (Blk w2 b [.int .i64 0, .int .i64 0, .bool false]) := Lib.hid (HB1.out.below hb2 HB1.out.lt)
        clear hb2 H1 HB1
        rw [HN.out]
        go_wp2_with ((with_reducible show wpList _ _ _ (Oper.mk _ (Op.store 37 _ _) _ _ _ _ :: _) _ _); refine wpList_storeS sOut rfl _ _ rfl b [.int .i64 0, .int .i64 0, .bool false] (ocs (errO 1)) rfl rfl HB2.out rfl rfl (ocs_one _) ?_)
        intro w8 hb8 hg8
        have l8 := Lib.hid (run_loadS sOut b _ hb8 rfl)
        have HRS := Lib.hid (RetSet.fin (v := .agg (ocs (errO 1)).toArray) HG1.out HBE.out HNF.out HBL.out HF2.out H2.out hg8)
        clear hb8 hg8
        go_wp2
        exact bodyPost_ret (v := .agg (ocs (errO 1)).toArray) (by simp [results, Try.results20, asAddr, Sem.run_bind, Sem.run_pure, l8.out]) rfl HRS.out
    | false =>
      have hb' : ¬ ticks < 0 ∧ ¬ 1048576 < ticks := by unfold badT at hb; simpa using hb
      obtain ⟨hb1, hb2'⟩ := hb'
      by_cases ht : ticks = 0
      · subst ht
        have HX : Hid (sleepS P 0 = (ok, wake (leave P p) p)) := Lib.hid (by unfold sleepS; rw [if_neg h0, if_neg (by rw [hb]; decide), if_pos rfl, htn])
        clear hb hrun hru HRU h0 htn hpr hpn hb1 hb2'
        rw [HX.out]
        go_enter Try.func20, Try.ntmps20
        go_wp2_with ((with_reducible show wpList _ _ _ (Oper.mk _ (Op.alloc 37) _ _ _ _ :: _) _ _); refine wpList_allocS _ zOut rfl rfl ?_)
        intro w1 hbk hg1 hs1
        obtain ⟨b, hb⟩ : ∃ b, b = w.heap.size := ⟨_, rfl⟩
        rw [← hb] at hbk ⊢
        have HNF : Hid (¬ Foot S A b) := Lib.hid (H.out.notFoot (by rw [hb]; exact Nat.le_refl _))
        have HBL : Hid (b < w1.heap.size) := Lib.hid (by omega)
        have HB1 := Lib.hid hbk
        have HG1 := Lib.hid hg1
        have HBE : Hid (w.heap.size ≤ b) := Lib.hid (by omega)
        have H1 : Hid (SetM w1 S P A c) := Lib.hid (H.out.apart hg1 fun k e => by cases e)
        clear hbk hg1 hs1 hb H
        go_wp2_with fail
        refine (Running_calls w1 S P A c H1.out HI.out.wf.n (by have := HI.out.rlen; omega) HI.out.rin).mono ?_
        rintro e w2 ⟨rfl, hb2⟩
        have H2 : Hid (SetM w2 S P A c) := Lib.hid (H1.out.below hb2)
        have HF2 : Hid (FrS S A w1 A w2) := Lib.hid (FrS.below hb2)
        have HB2 : Hid (Blk w2 b [.int .i64 0, .int .i64 0, .bool false]) := Lib.hid (HB1.out.below hb2 HB1.out.lt)
        clear hb2 H1 HB1
        rw [HN.out]
        go_wp2_with fail
        refine (leave_calls w2 S P A c H2.out (HI.out.wf.mono (by decide)) p HPN.out).mono ?_
        rintro e w3 ⟨rfl, A3, c3, h3, hf3⟩
        have H3 := Lib.hid h3
        have HF3 := Lib.hid (HF2.out.trans hf3)
        have hf3' := Lib.hid hf3
        clear h3 hf3 H2 HF2
        go_wp2_with fail
        refine (wake_calls w3 S _ A3 c3 H3.out (by rw [leave_n]; exact HI.out.wf.n) (by rw [leave_ready]; have := without_le P.ready p; have := HI.out.rlen; omega) p (by rw [leave_n]; exact HPN.out)).mono ?_
        rintro e w4 ⟨rfl, A4, c4, h4, hf4⟩
        have H4 := Lib.hid h4
        have HF4 := Lib.hid (HF3.out.trans hf4)
        have HB4 : Hid (Blk w4 b [.int .i64 0, .int .i64 0, .bool false]) := Lib.hid (hf4.blk ((hf3').out.blk HB2.out HNF.out) (HF3.out.nf HNF.out HBL.out))
        clear h4 hf4 H3 HF3
        go_wp2_with ((with_reducible show wpList _ _ _ (Oper.mk _ (Op.store 37 _ _) _ _ _ _ :: _) _ _); refine wpList_storeS sOut rfl _ _ rfl b [.int .i64 0, .int .i64 0, .bool false] (ocs ok) rfl rfl HB4.out rfl rfl (ocs_one _) ?_)
        intro w8 hb8 hg8
        have l8 := Lib.hid (run_loadS sOut b _ hb8 rfl)
        have HRS := Lib.hid (RetSet.fin (v := .agg (ocs ok).toArray) HG1.out HBE.out HNF.out HBL.out HF4.out H4.out hg8)
        clear hb8 hg8
        go_wp2
        exact bodyPost_ret (v := .agg (ocs ok).toArray) (by simp [results, Try.results20, asAddr, Sem.run_bind, Sem.run_pure, l8.out]) rfl HRS.out
      · have HX : Hid (sleepS P ticks = (waits, park P p (-1) ticks 0)) := Lib.hid (by unfold sleepS; rw [if_neg h0, if_neg (by rw [hb]; decide), if_neg ht, htn])
        have ht1 : (ticks == 0) = false := by simpa using ht
        have ht2 : (ticks != 0) = true := by simpa using ht
        clear hb hrun hru HRU h0 htn hpr hpn ht
        rw [HX.out]
        go_enter Try.func20, Try.ntmps20
        go_wp2_with ((with_reducible show wpList _ _ _ (Oper.mk _ (Op.alloc 37) _ _ _ _ :: _) _ _); refine wpList_allocS _ zOut rfl rfl ?_)
        intro w1 hbk hg1 hs1
        obtain ⟨b, hb⟩ : ∃ b, b = w.heap.size := ⟨_, rfl⟩
        rw [← hb] at hbk ⊢
        have HNF : Hid (¬ Foot S A b) := Lib.hid (H.out.notFoot (by rw [hb]; exact Nat.le_refl _))
        have HBL : Hid (b < w1.heap.size) := Lib.hid (by omega)
        have HB1 := Lib.hid hbk
        have HG1 := Lib.hid hg1
        have HBE : Hid (w.heap.size ≤ b) := Lib.hid (by omega)
        have H1 : Hid (SetM w1 S P A c) := Lib.hid (H.out.apart hg1 fun k e => by cases e)
        clear hbk hg1 hs1 hb H
        go_wp2_with fail
        refine (Running_calls w1 S P A c H1.out HI.out.wf.n (by have := HI.out.rlen; omega) HI.out.rin).mono ?_
        rintro e w2 ⟨rfl, hb2⟩
        have H2 : Hid (SetM w2 S P A c) := Lib.hid (H1.out.below hb2)
        have HF2 : Hid (FrS S A w1 A w2) := Lib.hid (FrS.below hb2)
        have HB2 : Hid (Blk w2 b [.int .i64 0, .int .i64 0, .bool false]) := Lib.hid (HB1.out.below hb2 HB1.out.lt)
        clear hb2 H1 HB1
        rw [HN.out]
        go_wp2_with fail
        refine (wait_time w2 S P A c H2.out (HI.out.wf.mono (by decide)) p HPN.out ticks 0).mono ?_
        rintro e w4 ⟨rfl, A4, c4, h4, hf4⟩
        have H4 := Lib.hid h4
        have HF4 := Lib.hid (HF2.out.trans hf4)
        have HB4 : Hid (Blk w4 b [.int .i64 0, .int .i64 0, .bool false]) := Lib.hid (hf4.blk HB2.out HNF.out)
        clear h4 hf4 H2 HF2
        go_wp2_with ((with_reducible show wpList _ _ _ (Oper.mk _ (Op.store 37 _ _) _ _ _ _ :: _) _ _); refine wpList_storeS sOut rfl _ _ rfl b [.int .i64 0, .int .i64 0, .bool false] (ocs waits) rfl rfl HB4.out rfl rfl (ocs_one _) ?_)
        intro w8 hb8 hg8
        have l8 := Lib.hid (run_loadS sOut b _ hb8 rfl)
        have HRS := Lib.hid (RetSet.fin (v := .agg (ocs waits).toArray) HG1.out HBE.out HNF.out HBL.out HF4.out H4.out hg8)
        clear hb8 hg8
        go_wp2
        exact bodyPost_ret (v := .agg (ocs waits).toArray) (by simp [results, Try.results20, asAddr, Sem.run_bind, Sem.run_pure, l8.out]) rfl HRS.out
end Go.Proofs.Ytgeffkdobnipgaa
