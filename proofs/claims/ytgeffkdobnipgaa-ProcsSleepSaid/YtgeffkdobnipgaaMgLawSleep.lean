/- ProcsSleep: the walk. -/
import Derived.Test.YtgeffkdobnipgaaMgSleepPlain
namespace Go.Proofs.Ytgeffkdobnipgaa
open Go.RowKit Nac Nac.Procs
/-- while p sleeps: the j-th tick of T is to come -/
def SlpW (w : World) (S b10 : Nat) (p : Nat) (n T j : Nat) (wr : World) : Prop := ∃ P A c, SetM wr S P A c ∧ Inv P ∧ P.ps.length = n ∧ (j ≤ T → Slp P p ((T : Int) - j + 1)) ∧ (j = T + 1 → (P.proc p).st = 1 ∧ (P.proc p).last = ok) ∧ Blk wr b10 (ocs waits) ∧ ¬ Foot S A b10 ∧ Below w.heap.size w wr ∧ (∀ k, Foot S A k → w.heap.size ≤ k) ∧ w.heap.size ≤ b10
set_option maxRecDepth 100000 in
set_option maxHeartbeats 2000000 in
theorem sleep_in (w : World) (Ap Ar Aa : Option Addr) (cp cr ca : Nat) (lp : List Int) (lr : List RIn) (la : List ActI) (hp : RG w w.heap.size Ap 1 c1I lp) (hr : RG w w.heap.size Ar 3 c3R lr) (ha : RG w w.heap.size Aa 4 c4A la)
    (hpc : lp.length ≤ cp) (hrc : lr.length ≤ cr) (hp8 : lp.length ≤ 140737488351232) (hr8 : lr.length ≤ 140737488351232) (ha8 : la.length ≤ 140737488351232) (tk : Nat) (ht1 : 1 ≤ tk) (ht2 : tk ≤ 60) :
    Calls Try.prog 6 #[.agg #[.slice Ap lp.length cp, .slice Ar lr.length cr], .slice Aa la.length ca, .int .i64 (tk : Int)] w (RetBb w true) := by
  obtain ⟨np, hnp⟩ : ∃ n, n = lp.length := ⟨_, rfl⟩
  obtain ⟨nr, hnr⟩ : ∃ n, n = lr.length := ⟨_, rfl⟩
  obtain ⟨na, hna⟩ : ∃ n, n = la.length := ⟨_, rfl⟩
  have HPL : Hid (∀ (w' : World), Below w.heap.size w w' → Calls Try.prog 18 #[.agg #[.slice Ap np cp, .slice Ar nr cr], .slice Aa na ca] w' (RetPl w')) := Lib.hid fun w' hb => by
    rw [hnp, hnr, hna]
    exact played_calls w' Ap Ar Aa cp cr ca lp lr la (RG.mono (hp.below hb) hb.size) (RG.mono (hr.below hb) hb.size) (RG.mono (ha.below hb) hb.size) hpc hrc hp8 hr8 ha8
  rw [← hnp, ← hnr, ← hna]
  clear hp hr ha hpc hrc hp8 hr8 ha8 hnp hnr hna
  go_enter Try.func6, Try.ntmps6
  go_wp2_with (first | ((with_reducible show wpList _ _ _ (Oper.mk _ (Op.box 43 _) _ _ _ _ :: _) _ _); refine wpList_boxS (T := 43) rfl _ rfl [.slice Ap np cp, .slice Ar nr cr] rfl ?_) | fail)
  intro w1 hb1 hg1 hs1
  obtain ⟨b2, hb2⟩ : ∃ b, b = w.heap.size := ⟨_, rfl⟩
  rw [← hb2] at hb1 ⊢
  have HB1 := Lib.hid hb1
  have HG1 : Hid (Below w.heap.size w w1) := Lib.hid (grown_below hg1 (Nat.le_refl _) fun k e => by cases e)
  have HB2E : Hid (b2 = w.heap.size ∧ w1.heap.size = b2 + 1) := Lib.hid ⟨hb2, by omega⟩
  clear hb1 hg1 hs1 hb2
  go_wp2_with ((with_reducible show wpList _ _ _ (Oper.mk _ (Op.load 43 _) _ _ _ _ :: _) _ _); refine wpList_loadS sShp rfl _ rfl b2 [.slice Ap np cp, .slice Ar nr cr] rfl HB1.out rfl ?_)
  refine (HPL.out w1 HG1.out).mono ?_
  rintro e w2 ⟨S, P, A, c, prs, rs, Aq, As, nq, ns, cq, cs, rfl, hok, hI, hs, hm, hnq, hns, hri, hrr, hfr, hbw⟩
  have HB22 : Hid (Blk w2 b2 [.slice Ap np cp, .slice Ar nr cr]) := Lib.hid (HB1.out.below hbw HB1.out.lt)
  have HM2 := Lib.hid hm
  have HRI2 := Lib.hid hri
  have HRR2 := Lib.hid hrr
  have HFR : Hid (∀ k, Foot S A k → b2 < k) := Lib.hid fun k hk => by have := hfr k hk; have := HB2E.out; omega
  have HW2 : Hid (Below w.heap.size w w2) := Lib.hid (HG1.out.trans (hbw.mono HG1.out.size))
  have HOK := Lib.hid hok
  have HI := Lib.hid hI
  have HSM := Lib.hid hs
  have HNQ : Hid (nq = prs.length ∧ P.ps.length = nq ∧ nq ≤ 8 ∧ 1 ≤ nq) := Lib.hid ⟨hnq, by rw [hs.n, hnq]; simp [P0], by rw [hnq]; exact hok.n8, by rw [hnq]; exact hok.n1⟩
  have HNS : Hid (ns = rs.length ∧ P.rs.length = ns ∧ ns ≤ 8) := Lib.hid ⟨hns, by rw [hs.m, hns]; simp [P0], by rw [hns]; exact hok.m8⟩
  have hnq8 : nq ≤ 8 := HNQ.out.2.2.1
  have hns8 : ns ≤ 8 := HNS.out.2.2
  clear hok hI hs hm hnq hns hri hrr hfr hbw HPL HB1
  go_wp2_with (first | ((with_reducible show wpList _ _ _ (Oper.mk _ (Op.alloc 43) _ _ _ _ :: _) _ _); refine wpList_allocS _ zShp rfl rfl ?_) | fail)
  intro w25 hb25 hg25 hs25
  obtain ⟨b8, hb8⟩ : ∃ b, b = w2.heap.size := ⟨_, rfl⟩
  rw [← hb8] at hb25 ⊢
  have HB25 := Lib.hid hb25
  have HM25 : Hid (SetM w25 S P A c) := Lib.hid (HM2.out.apart hg25 fun k e => by cases e)
  have HF8 : Hid (¬ Foot S A b8) := Lib.hid (HM2.out.notFoot (by rw [hb8]; exact Nat.le_refl _))
  have HW25 : Hid (Below w.heap.size w w25) := Lib.hid (HW2.out.trans (grown_below hg25 HW2.out.size fun k e => by cases e))
  have HB8 : Hid (w.heap.size ≤ b8) := Lib.hid (by rw [hb8]; exact HW2.out.size)
  clear hb25 hg25 hs25 hb8 HB22 HM2 HRI2 HRR2 HW2
  go_wp2_with ((with_reducible show wpList _ _ _ (Oper.mk _ (Op.store 43 _ _) _ _ _ _ :: _) _ _); refine wpList_storeS sShp rfl _ _ rfl b8 [.slice none 0 0, .slice none 0 0] [.slice Aq nq cq, .slice As ns cs] rfl rfl HB25.out rfl rfl (shp_one _ _ _ _ _ _) ?_)
  intro w3 hb3 hg3
  have HM : Hid (SetM w3 S P A c) := Lib.hid (HM25.out.apart hg3 fun k e hf => by injection e with e; rw [← e] at hf; exact HF8.out hf)
  have HW : Hid (Below w.heap.size w w3) := Lib.hid (HW25.out.trans (grown_below hg3 HW25.out.size fun k e => by injection e with e; rw [← e]; exact HB8.out))
  have HFW : Hid (∀ k, Foot S A k → w.heap.size ≤ k) := Lib.hid fun k hk => by have := HFR.out k hk; have := HB2E.out; omega
  clear hb3 hg3 HB25 HM25 HW25 HB8 HF8
  go_wp2_with fail
  refine (Running_calls w3 S P A c HM.out (by have := HNQ.out; omega) (by have := HI.out.rlen; omega) HI.out.rin).mono ?_
  rintro e w4 ⟨rfl, hb4⟩
  have HM4 : Hid (SetM w4 S P A c) := Lib.hid (HM.out.below hb4)
  have HW4 : Hid (Below w.heap.size w w4) := Lib.hid (HW.out.trans (hb4.mono HW.out.size))
  clear hb4 HM HW
  rcases run_best HI.out with ⟨hrun, hemp⟩ | ⟨p, hrun, hpr, hpn, hbest⟩
  · have HSL : Hid (sleepS P (tk : Int) = (errO 6, P)) := Lib.hid (sleepS_none hrun _)
    rw [hrun]
    clear hrun hemp
    go_wp2_with fail
    refine (Sleep_calls w4 S P A c HM4.out HI.out (tk : Int)).mono ?_
    rw [HSL.out]
    rintro e w5 ⟨rfl, A5, c5, hm5, hf5⟩
    have HW5 : Hid (Below w.heap.size w w5) := Lib.hid (hf5.out HW4.out HFW.out (Nat.le_refl _))
    clear hm5 hf5 HM4 HW4
    go_wp2_with (first | ((with_reducible show wpList _ _ _ (Oper.mk _ (Op.alloc 37) _ _ _ _ :: _) _ _); refine wpList_allocS _ zOut rfl rfl ?_) | fail)
    intro w6 hb6 hg6 hs6
    obtain ⟨b10, hb10⟩ : ∃ b, b = w5.heap.size := ⟨_, rfl⟩
    rw [← hb10] at hb6 ⊢
    have HB6 := Lib.hid hb6
    have HW6 : Hid (Below w.heap.size w w6) := Lib.hid (HW5.out.trans (grown_below hg6 HW5.out.size fun k e => by cases e))
    have HB10 : Hid (w.heap.size ≤ b10) := Lib.hid (by rw [hb10]; exact HW5.out.size)
    clear hb6 hg6 hs6 hb10 HW5
    go_wp2_with ((with_reducible show wpList _ _ _ (Oper.mk _ (Op.store 37 _ _) _ _ _ _ :: _) _ _); refine wpList_storeS sOut rfl _ _ rfl b10 [.int .i64 0, .int .i64 0, .bool false] (ocs (errO 6)) rfl rfl HB6.out rfl rfl (ocs_one _) ?_)
    intro w7 hb7 hg7
    have HB7 := Lib.hid hb7
    have HW7 : Hid (Below w.heap.size w w7) := Lib.hid (HW6.out.trans (grown_below hg7 HW6.out.size fun k e => by injection e with e; rw [← e]; exact HB10.out))
    have HEQ : Hid (∀ (w : World) (p q : Operand) (x y : Out), (do eqGuard .eql 37 p q (.agg (ocs x).toArray) (.agg (ocs y).toArray); binOp .eql 37 (.agg (ocs x).toArray) (.agg (ocs y).toArray) : Sem Value).run Try.prog w = .ok (.bool (outEq x y)) w) := Lib.hid run_eql_out
    clear hb7 hg7 HB6 HW6 HB10
    go_wp2_with (first
      | ((with_reducible show wpList _ _ _ (Oper.mk _ (Op.load 37 (.tmp 10)) _ _ _ _ :: _) _ _); refine wpList_loadSw sOut (by rfl) _ rfl b10 (ocs (errO 6)) rfl HB7.out rfl ?_)
      | ((with_reducible show wpList _ _ _ (Oper.mk (some 35) (Op.binOp BinOp.eql 37 _ _ _) _ _ _ _ :: _) _ _); refine wpList_binV (by rfl) _ _ _ _ _ rfl (.bool true) (HEQ.out _ _ _ (errO 6) (errO 6)) ?_)
      | fail)
    refine (awake_calls _).mono ?_
    rintro e w9 ⟨rfl, hb9⟩
    have HRES : Hid (Below w.heap.size w w9) := Lib.hid (HW7.out.trans (hb9.mono (by exact HW7.out.size)))
    clear hb9 HEQ HB7
    go_wp2
    go_ret
    exact ⟨rfl, HRES.out⟩
  · have HSL : Hid (sleepS P (tk : Int) = (waits, park P p (-1) (tk : Int) 0)) := Lib.hid (sleepS_some hrun (by omega) (by omega))
    have HSP : Hid (Slp (park P p (-1) (tk : Int) 0) p (tk : Int)) := Lib.hid (slp_park HI.out hpn _ (by omega) (by omega))
    have HNP : Hid ((park P p (-1) (tk : Int) 0).ps.length = nq) := Lib.hid (by rw [park_time, ps_setP, leave_n]; exact HNQ.out.2.1)
    rw [hrun]
    have HPN := Lib.hid hpn
    have hpq : p < nq := by have := HNQ.out; omega
    clear hrun hpr hpn hbest
    go_wp2_with fail
    refine (Sleep_calls w4 S P A c HM4.out HI.out (tk : Int)).mono ?_
    rw [HSL.out]
    rintro e w5 ⟨rfl, A5, c5, hm5, hf5⟩
    have HW5 : Hid (Below w.heap.size w w5) := Lib.hid (hf5.out HW4.out HFW.out (Nat.le_refl _))
    have HM5 := Lib.hid hm5
    have HF5 : Hid (∀ k, Foot S A5 k → w.heap.size ≤ k) := Lib.hid fun k hk => by
      rcases hf5.foot k hk with h | h
      · exact HFW.out k h
      · exact Nat.le_trans HW4.out.size h
    clear hm5 hf5 HM4 HW4
    go_wp2_with (first | ((with_reducible show wpList _ _ _ (Oper.mk _ (Op.alloc 37) _ _ _ _ :: _) _ _); refine wpList_allocS _ zOut rfl rfl ?_) | fail)
    intro w6 hb6 hg6 hs6
    obtain ⟨b10, hb10⟩ : ∃ b, b = w5.heap.size := ⟨_, rfl⟩
    rw [← hb10] at hb6 ⊢
    have HB6 := Lib.hid hb6
    have HM6 : Hid (SetM w6 S (park P p (-1) (tk : Int) 0) A5 c5) := Lib.hid (HM5.out.apart hg6 fun k e => by cases e)
    have HN10 : Hid (¬ Foot S A5 b10) := Lib.hid (HM5.out.notFoot (by rw [hb10]; exact Nat.le_refl _))
    have HW6 : Hid (Below w.heap.size w w6) := Lib.hid (HW5.out.trans (grown_below hg6 HW5.out.size fun k e => by cases e))
    have HB10 : Hid (w.heap.size ≤ b10) := Lib.hid (by rw [hb10]; exact HW5.out.size)
    clear hb6 hg6 hs6 hb10 HW5 HM5
    go_wp2_with ((with_reducible show wpList _ _ _ (Oper.mk _ (Op.store 37 _ _) _ _ _ _ :: _) _ _); refine wpList_storeS sOut rfl _ _ rfl b10 [.int .i64 0, .int .i64 0, .bool false] (ocs waits) rfl rfl HB6.out rfl rfl (ocs_one _) ?_)
    intro w7 hb7 hg7
    have HST : Hid (SlpW w S b10 p nq tk 1 w7) := Lib.hid ⟨park P p (-1) (tk : Int) 0, A5, c5, HM6.out.apart hg7 (fun k e hf => by injection e with e; rw [← e] at hf; exact HN10.out hf), HSP.out.inv, HNP.out, fun _ => by have := HSP.out; rw [show ((tk : Nat) : Int) - ((1 : Nat) : Int) + 1 = (tk : Int) by omega]; exact this, fun e => by omega, hb7, HN10.out, HW6.out.trans (grown_below hg7 HW6.out.size fun k e => by injection e with e; rw [← e]; exact HB10.out), HF5.out, HB10.out⟩
    have HEQ : Hid (∀ (w : World) (p q : Operand) (x y : Out), (do eqGuard .eql 37 p q (.agg (ocs x).toArray) (.agg (ocs y).toArray); binOp .eql 37 (.agg (ocs x).toArray) (.agg (ocs y).toArray) : Sem Value).run Try.prog w = .ok (.bool (outEq x y)) w) := Lib.hid run_eql_out
    have HNE : Hid (∀ (w : World) (p q : Operand) (x y : Out), (do eqGuard .neq 37 p q (.agg (ocs x).toArray) (.agg (ocs y).toArray); binOp .neq 37 (.agg (ocs x).toArray) (.agg (ocs y).toArray) : Sem Value).run Try.prog w = .ok (.bool (!outEq x y)) w) := Lib.hid run_neq_out
    clear hb7 hg7 HB6 HW6 HB10 HM6 HN10 HF5 HSP HNP HSL HFW
    go_wp2
    go_loopw [11] (fun s11 wr => ∃ j : Nat, 1 ≤ j ∧ j ≤ tk + 1 ∧ s11 = .int .i64 (j : Int) ∧ SlpW w S b10 p nq tk j wr) (fun s11 _ => tk + 1 - (intOf s11).toNat)
    case atStart => exact ⟨1, Nat.le_refl _, by omega, rfl, HST.out⟩
    case round =>
      obtain ⟨j, hj1, hj2, rfl, P', A', c', hm, hi, hn, hsl, hup, hbo, hnf, hbw, hft, hb10⟩ := hrel
      have HM := Lib.hid hm
      have HI' := Lib.hid hi
      have HN' := Lib.hid hn
      have HBO := Lib.hid hbo
      have HNF := Lib.hid hnf
      have HBW := Lib.hid hbw
      have HFT := Lib.hid hft
      have HB10 := Lib.hid hb10
      have hpp : p < P'.ps.length := by omega
      by_cases hlt : j ≤ tk
      · have HS := Lib.hid (hsl hlt)
        have HST2 : Hid (stateI P' p = 2) := Lib.hid (by rw [stateI_nat hpp]; exact (hsl hlt).st)
        clear hm hi hn hsl hup hbo hnf hbw hft hb10 hpp HST
        go_wp2_with (first
          | ((with_reducible show wpList _ _ _ (Oper.mk _ (Op.load 37 (.tmp 10)) _ _ _ _ :: _) _ _); refine wpList_loadSw sOut (by rfl) _ rfl b10 (ocs waits) rfl HBO.out rfl ?_)
          | ((with_reducible show wpList _ _ _ (Oper.mk (some 46) (Op.binOp BinOp.neq 37 _ _ _) _ _ _ _ :: _) _ _); refine wpList_binV (by rfl) _ _ _ _ _ rfl (.bool false) (HNE.out _ _ _ waits waits) ?_)
          | fail)
        refine (State_calls wr S P' A' c' HM.out (by have := HN'.out; omega) p).mono ?_
        rintro e w8 ⟨rfl, rfl⟩
        rw [HST2.out]
        clear HST2
        go_wp2_with fail
        refine (Tick_calls wr S P' A' c' HM.out HI'.out).mono ?_
        rintro e w9 ⟨rfl, A9, c9, hm9, hf9⟩
        have HR9 : Hid (SlpW w S b10 p nq tk (j + 1) w9) := Lib.hid ⟨tickS P', A9, c9, hm9, tick_inv HI'.out, (tickS_n HI'.out).trans HN'.out, fun h => by
            have h7 := tick_slp HS.out (by omega)
            rw [show ((tk : Nat) : Int) - ((j + 1 : Nat) : Int) + 1 = ((tk : Nat) : Int) - (j : Int) + 1 - 1 by omega]
            exact h7, fun h => by
            have h7 := HS.out
            rw [show ((tk : Nat) : Int) - (j : Int) + 1 = 1 by omega] at h7
            exact tick_up h7, hf9.blk HBO.out HNF.out, hf9.nf HNF.out HBO.out.lt, hf9.out HBW.out HFT.out (Nat.le_refl _), fun k hk => by
            rcases hf9.foot k hk with h | h
            · exact HFT.out k h
            · exact Nat.le_trans HBW.out.size h, HB10.out⟩
        clear hm9 hf9 HM HI' HN' HBO HNF HBW HFT HB10 HS
        go_wp2
        go_roundw
        case rel => exact ⟨j + 1, by omega, by omega, by go_num, HR9.out⟩
        case measure => simp [intOf]; omega
      · obtain ⟨hu1, hu2⟩ := hup (by omega)
        have HST2 : Hid (stateI P' p = 1) := Lib.hid (by rw [stateI_nat hpp]; exact hu1)
        have HLO : Hid (lastO P' p = ok) := Lib.hid (by unfold lastO isP; simp [hpp, hu2])
        clear hm hi hn hsl hup hbo hnf hbw hft hb10 hpp hu1 hu2 HST HBO HNF HFT HB10
        go_wp2_with fail
        refine (State_calls wr S P' A' c' HM.out (by have := HN'.out; omega) p).mono ?_
        rintro e w8 ⟨rfl, rfl⟩
        rw [HST2.out]
        clear HST2
        go_wp2_with fail
        refine (Last_calls wr S P' A' c' HM.out HI'.out p).mono ?_
        rintro e w9 ⟨rfl, hb9⟩
        have HW9 : Hid (Below w.heap.size w w9) := Lib.hid (HBW.out.trans (hb9.mono HBW.out.size))
        rw [HLO.out]
        clear hb9 HBW HLO
        go_wp2_with (first
          | ((with_reducible show wpList _ _ _ (Oper.mk (some 64) (Op.binOp BinOp.eql 37 _ _ _) _ _ _ _ :: _) _ _); refine wpList_binV (by rfl) _ _ _ _ _ rfl (.bool true) (HEQ.out _ _ _ ok ok) ?_)
          | fail)
        refine (awake_calls _).mono ?_
        rintro e w99 ⟨rfl, hb9⟩
        have HRES : Hid (Below w.heap.size w w99) := Lib.hid (HW9.out.trans (hb9.mono (by exact HW9.out.size)))
        clear hb9 HEQ HNE
        go_wp2
        go_ret
        exact ⟨rfl, HRES.out⟩
set_option maxRecDepth 100000 in
set_option maxHeartbeats 2000000 in
theorem sleep_7 (w : World) (Ap Ar Aa : Option Addr) (cp cr ca : Nat) (lp : List Int) (lr : List RIn) (la : List ActI) (hp : RG w w.heap.size Ap 1 c1I lp) (hr : RG w w.heap.size Ar 3 c3R lr) (ha : RG w w.heap.size Aa 4 c4A la)
    (hpc : lp.length ≤ cp) (hrc : lr.length ≤ cr) (hp8 : lp.length ≤ 140737488351232) (hr8 : lr.length ≤ 140737488351232) (ha8 : la.length ≤ 140737488351232) (tk : Int) (htk : tk < 1 ∨ 60 < tk) :
    Calls Try.prog 6 #[.agg #[.slice Ap lp.length cp, .slice Ar lr.length cr], .slice Aa la.length ca, .int .i64 tk] w (RetBb w true) := by
  rcases htk with htk | htk
  · obtain ⟨np, hnp⟩ : ∃ n, n = lp.length := ⟨_, rfl⟩
    obtain ⟨nr, hnr⟩ : ∃ n, n = lr.length := ⟨_, rfl⟩
    obtain ⟨na, hna⟩ : ∃ n, n = la.length := ⟨_, rfl⟩
    have HPL : Hid (∀ (w' : World), Below w.heap.size w w' → Calls Try.prog 18 #[.agg #[.slice Ap np cp, .slice Ar nr cr], .slice Aa na ca] w' (RetPl w')) := Lib.hid fun w' hb => by
      rw [hnp, hnr, hna]
      exact played_calls w' Ap Ar Aa cp cr ca lp lr la (RG.mono (hp.below hb) hb.size) (RG.mono (hr.below hb) hb.size) (RG.mono (ha.below hb) hb.size) hpc hrc hp8 hr8 ha8
    rw [← hnp, ← hnr, ← hna]
    clear hp hr ha hpc hrc hp8 hr8 ha8 hnp hnr hna
    go_enter Try.func6, Try.ntmps6
    go_wp2_with (first | ((with_reducible show wpList _ _ _ (Oper.mk _ (Op.box 43 _) _ _ _ _ :: _) _ _); refine wpList_boxS (T := 43) rfl _ rfl [.slice Ap np cp, .slice Ar nr cr] rfl ?_) | fail)
    intro w1 hb1 hg1 hs1
    obtain ⟨b2, hb2⟩ : ∃ b, b = w.heap.size := ⟨_, rfl⟩
    rw [← hb2] at hb1 ⊢
    have HB1 := Lib.hid hb1
    have HG1 : Hid (Below w.heap.size w w1) := Lib.hid (grown_below hg1 (Nat.le_refl _) fun k e => by cases e)
    have HB2E : Hid (b2 = w.heap.size ∧ w1.heap.size = b2 + 1) := Lib.hid ⟨hb2, by omega⟩
    clear hb1 hg1 hs1 hb2
    go_wp2_with ((with_reducible show wpList _ _ _ (Oper.mk _ (Op.load 43 _) _ _ _ _ :: _) _ _); refine wpList_loadS sShp rfl _ rfl b2 [.slice Ap np cp, .slice Ar nr cr] rfl HB1.out rfl ?_)
    refine (HPL.out w1 HG1.out).mono ?_
    rintro e w2 ⟨S, P, A, c, prs, rs, Aq, As, nq, ns, cq, cs, rfl, hok, hI, hs, hm, hnq, hns, hri, hrr, hfr, hbw⟩
    have HB22 : Hid (Blk w2 b2 [.slice Ap np cp, .slice Ar nr cr]) := Lib.hid (HB1.out.below hbw HB1.out.lt)
    have HM2 := Lib.hid hm
    have HRI2 := Lib.hid hri
    have HRR2 := Lib.hid hrr
    have HFR : Hid (∀ k, Foot S A k → b2 < k) := Lib.hid fun k hk => by have := hfr k hk; have := HB2E.out; omega
    have HW2 : Hid (Below w.heap.size w w2) := Lib.hid (HG1.out.trans (hbw.mono HG1.out.size))
    have HOK := Lib.hid hok
    have HI := Lib.hid hI
    have HSM := Lib.hid hs
    have HNQ : Hid (nq = prs.length ∧ P.ps.length = nq ∧ nq ≤ 8 ∧ 1 ≤ nq) := Lib.hid ⟨hnq, by rw [hs.n, hnq]; simp [P0], by rw [hnq]; exact hok.n8, by rw [hnq]; exact hok.n1⟩
    have HNS : Hid (ns = rs.length ∧ P.rs.length = ns ∧ ns ≤ 8) := Lib.hid ⟨hns, by rw [hs.m, hns]; simp [P0], by rw [hns]; exact hok.m8⟩
    have hnq8 : nq ≤ 8 := HNQ.out.2.2.1
    have hns8 : ns ≤ 8 := HNS.out.2.2
    clear hok hI hs hm hnq hns hri hrr hfr hbw HPL HB1
    go_wp2_with (first | ((with_reducible show wpList _ _ _ (Oper.mk _ (Op.alloc 43) _ _ _ _ :: _) _ _); refine wpList_allocS _ zShp rfl rfl ?_) | fail)
    intro w25 hb25 hg25 hs25
    obtain ⟨b8, hb8⟩ : ∃ b, b = w2.heap.size := ⟨_, rfl⟩
    rw [← hb8] at hb25 ⊢
    have HB25 := Lib.hid hb25
    have HM25 : Hid (SetM w25 S P A c) := Lib.hid (HM2.out.apart hg25 fun k e => by cases e)
    have HF8 : Hid (¬ Foot S A b8) := Lib.hid (HM2.out.notFoot (by rw [hb8]; exact Nat.le_refl _))
    have HW25 : Hid (Below w.heap.size w w25) := Lib.hid (HW2.out.trans (grown_below hg25 HW2.out.size fun k e => by cases e))
    have HB8 : Hid (w.heap.size ≤ b8) := Lib.hid (by rw [hb8]; exact HW2.out.size)
    clear hb25 hg25 hs25 hb8 HB22 HM2 HRI2 HRR2 HW2
    go_wp2_with ((with_reducible show wpList _ _ _ (Oper.mk _ (Op.store 43 _ _) _ _ _ _ :: _) _ _); refine wpList_storeS sShp rfl _ _ rfl b8 [.slice none 0 0, .slice none 0 0] [.slice Aq nq cq, .slice As ns cs] rfl rfl HB25.out rfl rfl (shp_one _ _ _ _ _ _) ?_)
    intro w3 hb3 hg3
    have HM : Hid (SetM w3 S P A c) := Lib.hid (HM25.out.apart hg3 fun k e hf => by injection e with e; rw [← e] at hf; exact HF8.out hf)
    have HW : Hid (Below w.heap.size w w3) := Lib.hid (HW25.out.trans (grown_below hg3 HW25.out.size fun k e => by injection e with e; rw [← e]; exact HB8.out))
    have HFW : Hid (∀ k, Foot S A k → w.heap.size ≤ k) := Lib.hid fun k hk => by have := HFR.out k hk; have := HB2E.out; omega
    clear hb3 hg3 HB25 HM25 HW25 HB8 HF8
    go_wp2_with fail
    refine (Running_calls w3 S P A c HM.out (by have := HNQ.out; omega) (by have := HI.out.rlen; omega) HI.out.rin).mono ?_
    rintro e w4 ⟨rfl, hb4⟩
    have HM4 : Hid (SetM w4 S P A c) := Lib.hid (HM.out.below hb4)
    have HW4 : Hid (Below w.heap.size w w4) := Lib.hid (HW.out.trans (hb4.mono HW.out.size))
    clear hb4 HM HW
    rcases run_best HI.out with ⟨hrun, hemp⟩ | ⟨p, hrun, hpr, hpn, hbest⟩
    · have HSL : Hid (sleepS P 7 = (errO 6, P)) := Lib.hid (sleepS_none hrun _)
      rw [hrun]
      clear hrun hemp
      go_wp2_with fail
      refine (Sleep_calls w4 S P A c HM4.out HI.out 7).mono ?_
      rw [HSL.out]
      rintro e w5 ⟨rfl, A5, c5, hm5, hf5⟩
      have HW5 : Hid (Below w.heap.size w w5) := Lib.hid (hf5.out HW4.out HFW.out (Nat.le_refl _))
      clear hm5 hf5 HM4 HW4
      go_wp2_with (first | ((with_reducible show wpList _ _ _ (Oper.mk _ (Op.alloc 37) _ _ _ _ :: _) _ _); refine wpList_allocS _ zOut rfl rfl ?_) | fail)
      intro w6 hb6 hg6 hs6
      obtain ⟨b10, hb10⟩ : ∃ b, b = w5.heap.size := ⟨_, rfl⟩
      rw [← hb10] at hb6 ⊢
      have HB6 := Lib.hid hb6
      have HW6 : Hid (Below w.heap.size w w6) := Lib.hid (HW5.out.trans (grown_below hg6 HW5.out.size fun k e => by cases e))
      have HB10 : Hid (w.heap.size ≤ b10) := Lib.hid (by rw [hb10]; exact HW5.out.size)
      clear hb6 hg6 hs6 hb10 HW5
      go_wp2_with ((with_reducible show wpList _ _ _ (Oper.mk _ (Op.store 37 _ _) _ _ _ _ :: _) _ _); refine wpList_storeS sOut rfl _ _ rfl b10 [.int .i64 0, .int .i64 0, .bool false] (ocs (errO 6)) rfl rfl HB6.out rfl rfl (ocs_one _) ?_)
      intro w7 hb7 hg7
      have HB7 := Lib.hid hb7
      have HW7 : Hid (Below w.heap.size w w7) := Lib.hid (HW6.out.trans (grown_below hg7 HW6.out.size fun k e => by injection e with e; rw [← e]; exact HB10.out))
      have HEQ : Hid (∀ (w : World) (p q : Operand) (x y : Out), (do eqGuard .eql 37 p q (.agg (ocs x).toArray) (.agg (ocs y).toArray); binOp .eql 37 (.agg (ocs x).toArray) (.agg (ocs y).toArray) : Sem Value).run Try.prog w = .ok (.bool (outEq x y)) w) := Lib.hid run_eql_out
      clear hb7 hg7 HB6 HW6 HB10
      go_wp2_with (first
        | ((with_reducible show wpList _ _ _ (Oper.mk _ (Op.load 37 (.tmp 10)) _ _ _ _ :: _) _ _); refine wpList_loadSw sOut (by rfl) _ rfl b10 (ocs (errO 6)) rfl HB7.out rfl ?_)
        | ((with_reducible show wpList _ _ _ (Oper.mk (some 35) (Op.binOp BinOp.eql 37 _ _ _) _ _ _ _ :: _) _ _); refine wpList_binV (by rfl) _ _ _ _ _ rfl (.bool true) (HEQ.out _ _ _ (errO 6) (errO 6)) ?_)
        | fail)
      refine (awake_calls _).mono ?_
      rintro e w9 ⟨rfl, hb9⟩
      have HRES : Hid (Below w.heap.size w w9) := Lib.hid (HW7.out.trans (hb9.mono (by exact HW7.out.size)))
      clear hb9 HEQ HB7
      go_wp2
      go_ret
      exact ⟨rfl, HRES.out⟩
    · have HSL : Hid (sleepS P 7 = (waits, park P p (-1) 7 0)) := Lib.hid (sleepS_some hrun (by omega) (by omega))
      have HSP : Hid (Slp (park P p (-1) 7 0) p 7) := Lib.hid (slp_park HI.out hpn _ (by omega) (by omega))
      have HNP : Hid ((park P p (-1) 7 0).ps.length = nq) := Lib.hid (by rw [park_time, ps_setP, leave_n]; exact HNQ.out.2.1)
      rw [hrun]
      have HPN := Lib.hid hpn
      have hpq : p < nq := by have := HNQ.out; omega
      clear hrun hpr hpn hbest
      go_wp2_with fail
      refine (Sleep_calls w4 S P A c HM4.out HI.out 7).mono ?_
      rw [HSL.out]
      rintro e w5 ⟨rfl, A5, c5, hm5, hf5⟩
      have HW5 : Hid (Below w.heap.size w w5) := Lib.hid (hf5.out HW4.out HFW.out (Nat.le_refl _))
      have HM5 := Lib.hid hm5
      have HF5 : Hid (∀ k, Foot S A5 k → w.heap.size ≤ k) := Lib.hid fun k hk => by
        rcases hf5.foot k hk with h | h
        · exact HFW.out k h
        · exact Nat.le_trans HW4.out.size h
      clear hm5 hf5 HM4 HW4
      go_wp2_with (first | ((with_reducible show wpList _ _ _ (Oper.mk _ (Op.alloc 37) _ _ _ _ :: _) _ _); refine wpList_allocS _ zOut rfl rfl ?_) | fail)
      intro w6 hb6 hg6 hs6
      obtain ⟨b10, hb10⟩ : ∃ b, b = w5.heap.size := ⟨_, rfl⟩
      rw [← hb10] at hb6 ⊢
      have HB6 := Lib.hid hb6
      have HM6 : Hid (SetM w6 S (park P p (-1) 7 0) A5 c5) := Lib.hid (HM5.out.apart hg6 fun k e => by cases e)
      have HN10 : Hid (¬ Foot S A5 b10) := Lib.hid (HM5.out.notFoot (by rw [hb10]; exact Nat.le_refl _))
      have HW6 : Hid (Below w.heap.size w w6) := Lib.hid (HW5.out.trans (grown_below hg6 HW5.out.size fun k e => by cases e))
      have HB10 : Hid (w.heap.size ≤ b10) := Lib.hid (by rw [hb10]; exact HW5.out.size)
      clear hb6 hg6 hs6 hb10 HW5 HM5
      go_wp2_with ((with_reducible show wpList _ _ _ (Oper.mk _ (Op.store 37 _ _) _ _ _ _ :: _) _ _); refine wpList_storeS sOut rfl _ _ rfl b10 [.int .i64 0, .int .i64 0, .bool false] (ocs waits) rfl rfl HB6.out rfl rfl (ocs_one _) ?_)
      intro w7 hb7 hg7
      have HST : Hid (SlpW w S b10 p nq 7 1 w7) := Lib.hid ⟨park P p (-1) 7 0, A5, c5, HM6.out.apart hg7 (fun k e hf => by injection e with e; rw [← e] at hf; exact HN10.out hf), HSP.out.inv, HNP.out, fun _ => by have := HSP.out; rw [show ((7 : Nat) : Int) - ((1 : Nat) : Int) + 1 = 7 by omega]; exact this, fun e => by omega, hb7, HN10.out, HW6.out.trans (grown_below hg7 HW6.out.size fun k e => by injection e with e; rw [← e]; exact HB10.out), HF5.out, HB10.out⟩
      have HEQ : Hid (∀ (w : World) (p q : Operand) (x y : Out), (do eqGuard .eql 37 p q (.agg (ocs x).toArray) (.agg (ocs y).toArray); binOp .eql 37 (.agg (ocs x).toArray) (.agg (ocs y).toArray) : Sem Value).run Try.prog w = .ok (.bool (outEq x y)) w) := Lib.hid run_eql_out
      have HNE : Hid (∀ (w : World) (p q : Operand) (x y : Out), (do eqGuard .neq 37 p q (.agg (ocs x).toArray) (.agg (ocs y).toArray); binOp .neq 37 (.agg (ocs x).toArray) (.agg (ocs y).toArray) : Sem Value).run Try.prog w = .ok (.bool (!outEq x y)) w) := Lib.hid run_neq_out
      clear hb7 hg7 HB6 HW6 HB10 HM6 HN10 HF5 HSP HNP HSL HFW
      go_wp2
      go_loopw [11] (fun s11 wr => ∃ j : Nat, 1 ≤ j ∧ j ≤ 7 + 1 ∧ s11 = .int .i64 (j : Int) ∧ SlpW w S b10 p nq 7 j wr) (fun s11 _ => 7 + 1 - (intOf s11).toNat)
      case atStart => exact ⟨1, Nat.le_refl _, by omega, rfl, HST.out⟩
      case round =>
        obtain ⟨j, hj1, hj2, rfl, P', A', c', hm, hi, hn, hsl, hup, hbo, hnf, hbw, hft, hb10⟩ := hrel
        have HM := Lib.hid hm
        have HI' := Lib.hid hi
        have HN' := Lib.hid hn
        have HBO := Lib.hid hbo
        have HNF := Lib.hid hnf
        have HBW := Lib.hid hbw
        have HFT := Lib.hid hft
        have HB10 := Lib.hid hb10
        have hpp : p < P'.ps.length := by omega
        by_cases hlt : j ≤ 7
        · have HS := Lib.hid (hsl hlt)
          have HST2 : Hid (stateI P' p = 2) := Lib.hid (by rw [stateI_nat hpp]; exact (hsl hlt).st)
          clear hm hi hn hsl hup hbo hnf hbw hft hb10 hpp HST
          go_wp2_with (first
            | ((with_reducible show wpList _ _ _ (Oper.mk _ (Op.load 37 (.tmp 10)) _ _ _ _ :: _) _ _); refine wpList_loadSw sOut (by rfl) _ rfl b10 (ocs waits) rfl HBO.out rfl ?_)
            | ((with_reducible show wpList _ _ _ (Oper.mk (some 46) (Op.binOp BinOp.neq 37 _ _ _) _ _ _ _ :: _) _ _); refine wpList_binV (by rfl) _ _ _ _ _ rfl (.bool false) (HNE.out _ _ _ waits waits) ?_)
            | fail)
          refine (State_calls wr S P' A' c' HM.out (by have := HN'.out; omega) p).mono ?_
          rintro e w8 ⟨rfl, rfl⟩
          rw [HST2.out]
          clear HST2
          go_wp2_with fail
          refine (Tick_calls wr S P' A' c' HM.out HI'.out).mono ?_
          rintro e w9 ⟨rfl, A9, c9, hm9, hf9⟩
          have HR9 : Hid (SlpW w S b10 p nq 7 (j + 1) w9) := Lib.hid ⟨tickS P', A9, c9, hm9, tick_inv HI'.out, (tickS_n HI'.out).trans HN'.out, fun h => by
              have h7 := tick_slp HS.out (by omega)
              rw [show ((7 : Nat) : Int) - ((j + 1 : Nat) : Int) + 1 = ((7 : Nat) : Int) - (j : Int) + 1 - 1 by omega]
              exact h7, fun h => by
              have h7 := HS.out
              rw [show ((7 : Nat) : Int) - (j : Int) + 1 = 1 by omega] at h7
              exact tick_up h7, hf9.blk HBO.out HNF.out, hf9.nf HNF.out HBO.out.lt, hf9.out HBW.out HFT.out (Nat.le_refl _), fun k hk => by
              rcases hf9.foot k hk with h | h
              · exact HFT.out k h
              · exact Nat.le_trans HBW.out.size h, HB10.out⟩
          clear hm9 hf9 HM HI' HN' HBO HNF HBW HFT HB10 HS
          go_wp2
          go_roundw
          case rel => exact ⟨j + 1, by omega, by omega, by go_num, HR9.out⟩
          case measure => simp [intOf]; omega
        · obtain ⟨hu1, hu2⟩ := hup (by omega)
          have HST2 : Hid (stateI P' p = 1) := Lib.hid (by rw [stateI_nat hpp]; exact hu1)
          have HLO : Hid (lastO P' p = ok) := Lib.hid (by unfold lastO isP; simp [hpp, hu2])
          clear hm hi hn hsl hup hbo hnf hbw hft hb10 hpp hu1 hu2 HST HBO HNF HFT HB10
          go_wp2_with fail
          refine (State_calls wr S P' A' c' HM.out (by have := HN'.out; omega) p).mono ?_
          rintro e w8 ⟨rfl, rfl⟩
          rw [HST2.out]
          clear HST2
          go_wp2_with fail
          refine (Last_calls wr S P' A' c' HM.out HI'.out p).mono ?_
          rintro e w9 ⟨rfl, hb9⟩
          have HW9 : Hid (Below w.heap.size w w9) := Lib.hid (HBW.out.trans (hb9.mono HBW.out.size))
          rw [HLO.out]
          clear hb9 HBW HLO
          go_wp2_with (first
            | ((with_reducible show wpList _ _ _ (Oper.mk (some 64) (Op.binOp BinOp.eql 37 _ _ _) _ _ _ _ :: _) _ _); refine wpList_binV (by rfl) _ _ _ _ _ rfl (.bool true) (HEQ.out _ _ _ ok ok) ?_)
            | fail)
          refine (awake_calls _).mono ?_
          rintro e w99 ⟨rfl, hb9⟩
          have HRES : Hid (Below w.heap.size w w99) := Lib.hid (HW9.out.trans (hb9.mono (by exact HW9.out.size)))
          clear hb9 HEQ HNE
          go_wp2
          go_ret
          exact ⟨rfl, HRES.out⟩
  · have htk1 : ¬ tk < 1 := by omega
    obtain ⟨np, hnp⟩ : ∃ n, n = lp.length := ⟨_, rfl⟩
    obtain ⟨nr, hnr⟩ : ∃ n, n = lr.length := ⟨_, rfl⟩
    obtain ⟨na, hna⟩ : ∃ n, n = la.length := ⟨_, rfl⟩
    have HPL : Hid (∀ (w' : World), Below w.heap.size w w' → Calls Try.prog 18 #[.agg #[.slice Ap np cp, .slice Ar nr cr], .slice Aa na ca] w' (RetPl w')) := Lib.hid fun w' hb => by
      rw [hnp, hnr, hna]
      exact played_calls w' Ap Ar Aa cp cr ca lp lr la (RG.mono (hp.below hb) hb.size) (RG.mono (hr.below hb) hb.size) (RG.mono (ha.below hb) hb.size) hpc hrc hp8 hr8 ha8
    rw [← hnp, ← hnr, ← hna]
    clear hp hr ha hpc hrc hp8 hr8 ha8 hnp hnr hna
    go_enter Try.func6, Try.ntmps6
    go_wp2_with (first | ((with_reducible show wpList _ _ _ (Oper.mk _ (Op.box 43 _) _ _ _ _ :: _) _ _); refine wpList_boxS (T := 43) rfl _ rfl [.slice Ap np cp, .slice Ar nr cr] rfl ?_) | fail)
    intro w1 hb1 hg1 hs1
    obtain ⟨b2, hb2⟩ : ∃ b, b = w.heap.size := ⟨_, rfl⟩
    rw [← hb2] at hb1 ⊢
    have HB1 := Lib.hid hb1
    have HG1 : Hid (Below w.heap.size w w1) := Lib.hid (grown_below hg1 (Nat.le_refl _) fun k e => by cases e)
    have HB2E : Hid (b2 = w.heap.size ∧ w1.heap.size = b2 + 1) := Lib.hid ⟨hb2, by omega⟩
    clear hb1 hg1 hs1 hb2
    go_wp2_with ((with_reducible show wpList _ _ _ (Oper.mk _ (Op.load 43 _) _ _ _ _ :: _) _ _); refine wpList_loadS sShp rfl _ rfl b2 [.slice Ap np cp, .slice Ar nr cr] rfl HB1.out rfl ?_)
    refine (HPL.out w1 HG1.out).mono ?_
    rintro e w2 ⟨S, P, A, c, prs, rs, Aq, As, nq, ns, cq, cs, rfl, hok, hI, hs, hm, hnq, hns, hri, hrr, hfr, hbw⟩
    have HB22 : Hid (Blk w2 b2 [.slice Ap np cp, .slice Ar nr cr]) := Lib.hid (HB1.out.below hbw HB1.out.lt)
    have HM2 := Lib.hid hm
    have HRI2 := Lib.hid hri
    have HRR2 := Lib.hid hrr
    have HFR : Hid (∀ k, Foot S A k → b2 < k) := Lib.hid fun k hk => by have := hfr k hk; have := HB2E.out; omega
    have HW2 : Hid (Below w.heap.size w w2) := Lib.hid (HG1.out.trans (hbw.mono HG1.out.size))
    have HOK := Lib.hid hok
    have HI := Lib.hid hI
    have HSM := Lib.hid hs
    have HNQ : Hid (nq = prs.length ∧ P.ps.length = nq ∧ nq ≤ 8 ∧ 1 ≤ nq) := Lib.hid ⟨hnq, by rw [hs.n, hnq]; simp [P0], by rw [hnq]; exact hok.n8, by rw [hnq]; exact hok.n1⟩
    have HNS : Hid (ns = rs.length ∧ P.rs.length = ns ∧ ns ≤ 8) := Lib.hid ⟨hns, by rw [hs.m, hns]; simp [P0], by rw [hns]; exact hok.m8⟩
    have hnq8 : nq ≤ 8 := HNQ.out.2.2.1
    have hns8 : ns ≤ 8 := HNS.out.2.2
    clear hok hI hs hm hnq hns hri hrr hfr hbw HPL HB1
    go_wp2_with (first | ((with_reducible show wpList _ _ _ (Oper.mk _ (Op.alloc 43) _ _ _ _ :: _) _ _); refine wpList_allocS _ zShp rfl rfl ?_) | fail)
    intro w25 hb25 hg25 hs25
    obtain ⟨b8, hb8⟩ : ∃ b, b = w2.heap.size := ⟨_, rfl⟩
    rw [← hb8] at hb25 ⊢
    have HB25 := Lib.hid hb25
    have HM25 : Hid (SetM w25 S P A c) := Lib.hid (HM2.out.apart hg25 fun k e => by cases e)
    have HF8 : Hid (¬ Foot S A b8) := Lib.hid (HM2.out.notFoot (by rw [hb8]; exact Nat.le_refl _))
    have HW25 : Hid (Below w.heap.size w w25) := Lib.hid (HW2.out.trans (grown_below hg25 HW2.out.size fun k e => by cases e))
    have HB8 : Hid (w.heap.size ≤ b8) := Lib.hid (by rw [hb8]; exact HW2.out.size)
    clear hb25 hg25 hs25 hb8 HB22 HM2 HRI2 HRR2 HW2
    go_wp2_with ((with_reducible show wpList _ _ _ (Oper.mk _ (Op.store 43 _ _) _ _ _ _ :: _) _ _); refine wpList_storeS sShp rfl _ _ rfl b8 [.slice none 0 0, .slice none 0 0] [.slice Aq nq cq, .slice As ns cs] rfl rfl HB25.out rfl rfl (shp_one _ _ _ _ _ _) ?_)
    intro w3 hb3 hg3
    have HM : Hid (SetM w3 S P A c) := Lib.hid (HM25.out.apart hg3 fun k e hf => by injection e with e; rw [← e] at hf; exact HF8.out hf)
    have HW : Hid (Below w.heap.size w w3) := Lib.hid (HW25.out.trans (grown_below hg3 HW25.out.size fun k e => by injection e with e; rw [← e]; exact HB8.out))
    have HFW : Hid (∀ k, Foot S A k → w.heap.size ≤ k) := Lib.hid fun k hk => by have := HFR.out k hk; have := HB2E.out; omega
    clear hb3 hg3 HB25 HM25 HW25 HB8 HF8
    go_wp2_with fail
    refine (Running_calls w3 S P A c HM.out (by have := HNQ.out; omega) (by have := HI.out.rlen; omega) HI.out.rin).mono ?_
    rintro e w4 ⟨rfl, hb4⟩
    have HM4 : Hid (SetM w4 S P A c) := Lib.hid (HM.out.below hb4)
    have HW4 : Hid (Below w.heap.size w w4) := Lib.hid (HW.out.trans (hb4.mono HW.out.size))
    clear hb4 HM HW
    rcases run_best HI.out with ⟨hrun, hemp⟩ | ⟨p, hrun, hpr, hpn, hbest⟩
    · have HSL : Hid (sleepS P 7 = (errO 6, P)) := Lib.hid (sleepS_none hrun _)
      rw [hrun]
      clear hrun hemp
      go_wp2_with fail
      refine (Sleep_calls w4 S P A c HM4.out HI.out 7).mono ?_
      rw [HSL.out]
      rintro e w5 ⟨rfl, A5, c5, hm5, hf5⟩
      have HW5 : Hid (Below w.heap.size w w5) := Lib.hid (hf5.out HW4.out HFW.out (Nat.le_refl _))
      clear hm5 hf5 HM4 HW4
      go_wp2_with (first | ((with_reducible show wpList _ _ _ (Oper.mk _ (Op.alloc 37) _ _ _ _ :: _) _ _); refine wpList_allocS _ zOut rfl rfl ?_) | fail)
      intro w6 hb6 hg6 hs6
      obtain ⟨b10, hb10⟩ : ∃ b, b = w5.heap.size := ⟨_, rfl⟩
      rw [← hb10] at hb6 ⊢
      have HB6 := Lib.hid hb6
      have HW6 : Hid (Below w.heap.size w w6) := Lib.hid (HW5.out.trans (grown_below hg6 HW5.out.size fun k e => by cases e))
      have HB10 : Hid (w.heap.size ≤ b10) := Lib.hid (by rw [hb10]; exact HW5.out.size)
      clear hb6 hg6 hs6 hb10 HW5
      go_wp2_with ((with_reducible show wpList _ _ _ (Oper.mk _ (Op.store 37 _ _) _ _ _ _ :: _) _ _); refine wpList_storeS sOut rfl _ _ rfl b10 [.int .i64 0, .int .i64 0, .bool false] (ocs (errO 6)) rfl rfl HB6.out rfl rfl (ocs_one _) ?_)
      intro w7 hb7 hg7
      have HB7 := Lib.hid hb7
      have HW7 : Hid (Below w.heap.size w w7) := Lib.hid (HW6.out.trans (grown_below hg7 HW6.out.size fun k e => by injection e with e; rw [← e]; exact HB10.out))
      have HEQ : Hid (∀ (w : World) (p q : Operand) (x y : Out), (do eqGuard .eql 37 p q (.agg (ocs x).toArray) (.agg (ocs y).toArray); binOp .eql 37 (.agg (ocs x).toArray) (.agg (ocs y).toArray) : Sem Value).run Try.prog w = .ok (.bool (outEq x y)) w) := Lib.hid run_eql_out
      clear hb7 hg7 HB6 HW6 HB10
      go_wp2_with (first
        | ((with_reducible show wpList _ _ _ (Oper.mk _ (Op.load 37 (.tmp 10)) _ _ _ _ :: _) _ _); refine wpList_loadSw sOut (by rfl) _ rfl b10 (ocs (errO 6)) rfl HB7.out rfl ?_)
        | ((with_reducible show wpList _ _ _ (Oper.mk (some 35) (Op.binOp BinOp.eql 37 _ _ _) _ _ _ _ :: _) _ _); refine wpList_binV (by rfl) _ _ _ _ _ rfl (.bool true) (HEQ.out _ _ _ (errO 6) (errO 6)) ?_)
        | fail)
      refine (awake_calls _).mono ?_
      rintro e w9 ⟨rfl, hb9⟩
      have HRES : Hid (Below w.heap.size w w9) := Lib.hid (HW7.out.trans (hb9.mono (by exact HW7.out.size)))
      clear hb9 HEQ HB7
      go_wp2
      go_ret
      exact ⟨rfl, HRES.out⟩
    · have HSL : Hid (sleepS P 7 = (waits, park P p (-1) 7 0)) := Lib.hid (sleepS_some hrun (by omega) (by omega))
      have HSP : Hid (Slp (park P p (-1) 7 0) p 7) := Lib.hid (slp_park HI.out hpn _ (by omega) (by omega))
      have HNP : Hid ((park P p (-1) 7 0).ps.length = nq) := Lib.hid (by rw [park_time, ps_setP, leave_n]; exact HNQ.out.2.1)
      rw [hrun]
      have HPN := Lib.hid hpn
      have hpq : p < nq := by have := HNQ.out; omega
      clear hrun hpr hpn hbest
      go_wp2_with fail
      refine (Sleep_calls w4 S P A c HM4.out HI.out 7).mono ?_
      rw [HSL.out]
      rintro e w5 ⟨rfl, A5, c5, hm5, hf5⟩
      have HW5 : Hid (Below w.heap.size w w5) := Lib.hid (hf5.out HW4.out HFW.out (Nat.le_refl _))
      have HM5 := Lib.hid hm5
      have HF5 : Hid (∀ k, Foot S A5 k → w.heap.size ≤ k) := Lib.hid fun k hk => by
        rcases hf5.foot k hk with h | h
        · exact HFW.out k h
        · exact Nat.le_trans HW4.out.size h
      clear hm5 hf5 HM4 HW4
      go_wp2_with (first | ((with_reducible show wpList _ _ _ (Oper.mk _ (Op.alloc 37) _ _ _ _ :: _) _ _); refine wpList_allocS _ zOut rfl rfl ?_) | fail)
      intro w6 hb6 hg6 hs6
      obtain ⟨b10, hb10⟩ : ∃ b, b = w5.heap.size := ⟨_, rfl⟩
      rw [← hb10] at hb6 ⊢
      have HB6 := Lib.hid hb6
      have HM6 : Hid (SetM w6 S (park P p (-1) 7 0) A5 c5) := Lib.hid (HM5.out.apart hg6 fun k e => by cases e)
      have HN10 : Hid (¬ Foot S A5 b10) := Lib.hid (HM5.out.notFoot (by rw [hb10]; exact Nat.le_refl _))
      have HW6 : Hid (Below w.heap.size w w6) := Lib.hid (HW5.out.trans (grown_below hg6 HW5.out.size fun k e => by cases e))
      have HB10 : Hid (w.heap.size ≤ b10) := Lib.hid (by rw [hb10]; exact HW5.out.size)
      clear hb6 hg6 hs6 hb10 HW5 HM5
      go_wp2_with ((with_reducible show wpList _ _ _ (Oper.mk _ (Op.store 37 _ _) _ _ _ _ :: _) _ _); refine wpList_storeS sOut rfl _ _ rfl b10 [.int .i64 0, .int .i64 0, .bool false] (ocs waits) rfl rfl HB6.out rfl rfl (ocs_one _) ?_)
      intro w7 hb7 hg7
      have HST : Hid (SlpW w S b10 p nq 7 1 w7) := Lib.hid ⟨park P p (-1) 7 0, A5, c5, HM6.out.apart hg7 (fun k e hf => by injection e with e; rw [← e] at hf; exact HN10.out hf), HSP.out.inv, HNP.out, fun _ => by have := HSP.out; rw [show ((7 : Nat) : Int) - ((1 : Nat) : Int) + 1 = 7 by omega]; exact this, fun e => by omega, hb7, HN10.out, HW6.out.trans (grown_below hg7 HW6.out.size fun k e => by injection e with e; rw [← e]; exact HB10.out), HF5.out, HB10.out⟩
      have HEQ : Hid (∀ (w : World) (p q : Operand) (x y : Out), (do eqGuard .eql 37 p q (.agg (ocs x).toArray) (.agg (ocs y).toArray); binOp .eql 37 (.agg (ocs x).toArray) (.agg (ocs y).toArray) : Sem Value).run Try.prog w = .ok (.bool (outEq x y)) w) := Lib.hid run_eql_out
      have HNE : Hid (∀ (w : World) (p q : Operand) (x y : Out), (do eqGuard .neq 37 p q (.agg (ocs x).toArray) (.agg (ocs y).toArray); binOp .neq 37 (.agg (ocs x).toArray) (.agg (ocs y).toArray) : Sem Value).run Try.prog w = .ok (.bool (!outEq x y)) w) := Lib.hid run_neq_out
      clear hb7 hg7 HB6 HW6 HB10 HM6 HN10 HF5 HSP HNP HSL HFW
      go_wp2
      go_loopw [11] (fun s11 wr => ∃ j : Nat, 1 ≤ j ∧ j ≤ 7 + 1 ∧ s11 = .int .i64 (j : Int) ∧ SlpW w S b10 p nq 7 j wr) (fun s11 _ => 7 + 1 - (intOf s11).toNat)
      case atStart => exact ⟨1, Nat.le_refl _, by omega, rfl, HST.out⟩
      case round =>
        obtain ⟨j, hj1, hj2, rfl, P', A', c', hm, hi, hn, hsl, hup, hbo, hnf, hbw, hft, hb10⟩ := hrel
        have HM := Lib.hid hm
        have HI' := Lib.hid hi
        have HN' := Lib.hid hn
        have HBO := Lib.hid hbo
        have HNF := Lib.hid hnf
        have HBW := Lib.hid hbw
        have HFT := Lib.hid hft
        have HB10 := Lib.hid hb10
        have hpp : p < P'.ps.length := by omega
        by_cases hlt : j ≤ 7
        · have HS := Lib.hid (hsl hlt)
          have HST2 : Hid (stateI P' p = 2) := Lib.hid (by rw [stateI_nat hpp]; exact (hsl hlt).st)
          clear hm hi hn hsl hup hbo hnf hbw hft hb10 hpp HST
          go_wp2_with (first
            | ((with_reducible show wpList _ _ _ (Oper.mk _ (Op.load 37 (.tmp 10)) _ _ _ _ :: _) _ _); refine wpList_loadSw sOut (by rfl) _ rfl b10 (ocs waits) rfl HBO.out rfl ?_)
            | ((with_reducible show wpList _ _ _ (Oper.mk (some 46) (Op.binOp BinOp.neq 37 _ _ _) _ _ _ _ :: _) _ _); refine wpList_binV (by rfl) _ _ _ _ _ rfl (.bool false) (HNE.out _ _ _ waits waits) ?_)
            | fail)
          refine (State_calls wr S P' A' c' HM.out (by have := HN'.out; omega) p).mono ?_
          rintro e w8 ⟨rfl, rfl⟩
          rw [HST2.out]
          clear HST2
          go_wp2_with fail
          refine (Tick_calls wr S P' A' c' HM.out HI'.out).mono ?_
          rintro e w9 ⟨rfl, A9, c9, hm9, hf9⟩
          have HR9 : Hid (SlpW w S b10 p nq 7 (j + 1) w9) := Lib.hid ⟨tickS P', A9, c9, hm9, tick_inv HI'.out, (tickS_n HI'.out).trans HN'.out, fun h => by
              have h7 := tick_slp HS.out (by omega)
              rw [show ((7 : Nat) : Int) - ((j + 1 : Nat) : Int) + 1 = ((7 : Nat) : Int) - (j : Int) + 1 - 1 by omega]
              exact h7, fun h => by
              have h7 := HS.out
              rw [show ((7 : Nat) : Int) - (j : Int) + 1 = 1 by omega] at h7
              exact tick_up h7, hf9.blk HBO.out HNF.out, hf9.nf HNF.out HBO.out.lt, hf9.out HBW.out HFT.out (Nat.le_refl _), fun k hk => by
              rcases hf9.foot k hk with h | h
              · exact HFT.out k h
              · exact Nat.le_trans HBW.out.size h, HB10.out⟩
          clear hm9 hf9 HM HI' HN' HBO HNF HBW HFT HB10 HS
          go_wp2
          go_roundw
          case rel => exact ⟨j + 1, by omega, by omega, by go_num, HR9.out⟩
          case measure => simp [intOf]; omega
        · obtain ⟨hu1, hu2⟩ := hup (by omega)
          have HST2 : Hid (stateI P' p = 1) := Lib.hid (by rw [stateI_nat hpp]; exact hu1)
          have HLO : Hid (lastO P' p = ok) := Lib.hid (by unfold lastO isP; simp [hpp, hu2])
          clear hm hi hn hsl hup hbo hnf hbw hft hb10 hpp hu1 hu2 HST HBO HNF HFT HB10
          go_wp2_with fail
          refine (State_calls wr S P' A' c' HM.out (by have := HN'.out; omega) p).mono ?_
          rintro e w8 ⟨rfl, rfl⟩
          rw [HST2.out]
          clear HST2
          go_wp2_with fail
          refine (Last_calls wr S P' A' c' HM.out HI'.out p).mono ?_
          rintro e w9 ⟨rfl, hb9⟩
          have HW9 : Hid (Below w.heap.size w w9) := Lib.hid (HBW.out.trans (hb9.mono HBW.out.size))
          rw [HLO.out]
          clear hb9 HBW HLO
          go_wp2_with (first
            | ((with_reducible show wpList _ _ _ (Oper.mk (some 64) (Op.binOp BinOp.eql 37 _ _ _) _ _ _ _ :: _) _ _); refine wpList_binV (by rfl) _ _ _ _ _ rfl (.bool true) (HEQ.out _ _ _ ok ok) ?_)
            | fail)
          refine (awake_calls _).mono ?_
          rintro e w99 ⟨rfl, hb9⟩
          have HRES : Hid (Below w.heap.size w w99) := Lib.hid (HW9.out.trans (hb9.mono (by exact HW9.out.size)))
          clear hb9 HEQ HNE
          go_wp2
          go_ret
          exact ⟨rfl, HRES.out⟩
theorem sleep_law (w : World) (Ap Ar Aa : Option Addr) (cp cr ca : Nat) (lp : List Int) (lr : List RIn) (la : List ActI) (hp : RG w w.heap.size Ap 1 c1I lp) (hr : RG w w.heap.size Ar 3 c3R lr) (ha : RG w w.heap.size Aa 4 c4A la)
    (hpc : lp.length ≤ cp) (hrc : lr.length ≤ cr) (hp8 : lp.length ≤ 140737488351232) (hr8 : lr.length ≤ 140737488351232) (ha8 : la.length ≤ 140737488351232) (tk : Int) :
    Calls Try.prog 6 #[.agg #[.slice Ap lp.length cp, .slice Ar lr.length cr], .slice Aa la.length ca, .int .i64 tk] w (RetBb w true) := by
  by_cases h : tk < 1 ∨ 60 < tk
  · exact sleep_7 w Ap Ar Aa cp cr ca lp lr la hp hr ha hpc hrc hp8 hr8 ha8 tk h
  · obtain ⟨k, rfl⟩ : ∃ k : Nat, tk = k := ⟨tk.toNat, by omega⟩
    exact sleep_in w Ap Ar Aa cp cr ca lp lr la hp hr ha hpc hrc hp8 hr8 ha8 k (by omega) (by omega)
end Go.Proofs.Ytgeffkdobnipgaa
