/- procs: Tick. -/
import Derived.Test.YtgeffkdobnipgaaProcInv2
namespace Go.Proofs.Ytgeffkdobnipgaa
open Go.RowKit Nac Nac.Procs
/-- all stays but the set's own blocks and those that are new -/
theorem FrS.bump {S b : Nat} {A A' : Nat → Option Addr} {w0 w w' : World} (h : FrS S A w0 A' w) (hg : w.grownBy w' (some b)) (hb : w0.heap.size ≤ b) : FrS S A w0 A' w' :=
  ⟨hg.os.trans h.os, hg.tape.trans h.tape, hg.output.trans h.output, Nat.le_trans h.size hg.size, fun k hk hf => by
    rw [hg.block k (Nat.lt_of_lt_of_le hk h.size) (fun e => by injection e with e; omega)]
    exact h.block k hk hf, h.foot, h.p0, h.p1⟩
theorem s1Errno : (Try.prog.info? 25).map (·.size) = some 1 := by kernel_rfl
def TickRel (w : World) (S : Nat) (P : PSet) (A : Nat → Option Addr) (k : Nat) (wr : World) : Prop := ∃ A' c', SetM wr S (tickTo P k) A' c' ∧ FrS S A w A' wr
theorem tick1_idle {P : PSet} {p : Nat} (h : (P.proc p).st ≠ 2) : tick1 P p = P := by unfold tick1; rw [if_neg h]
theorem tick1_less {P : PSet} {p : Nat} (h : (P.proc p).st = 2) (hl : 0 < (P.proc p).left - 1) : tick1 P p = P.setP p { P.proc p with left := (P.proc p).left - 1 } := by unfold tick1; rw [if_pos h, if_pos hl]
theorem tick1_time {P : PSet} {p : Nat} (h : (P.proc p).st = 2) (hl : ¬ 0 < (P.proc p).left - 1) (hr : (P.proc p).res = -1) : tick1 P p = release (P.setP p { P.proc p with left := (P.proc p).left - 1 }) p ⟨0, 0, false⟩ := by unfold tick1; rw [if_pos h, if_neg hl, if_pos hr]; rfl
theorem tick1_over {P : PSet} {p : Nat} (h : (P.proc p).st = 2) (hl : ¬ 0 < (P.proc p).left - 1) (hr : (P.proc p).res ≠ -1) : tick1 P p = release (P.setP p { P.proc p with left := (P.proc p).left - 1 }) p ⟨131, 0, false⟩ := by unfold tick1; rw [if_pos h, if_neg hl, if_neg hr]; rfl
theorem Wf.setP {P : PSet} {k p : Nat} {y : Prc} (h : Wf P k) (h1 : y.st = (P.proc p).st) (h2 : y.res = (P.proc p).res) : Wf (P.setP p y) k :=
  ⟨by rw [ps_setP]; exact h.n, h.m, h.rd, h.q, fun q h3 h4 => by
    by_cases e : q = p
    · subst e
      by_cases hq : q < P.ps.length
      · rw [proc_setP hq] at h3 h4 ⊢
        rw [h1] at h3
        rw [h2] at h4 ⊢
        exact h.res q h3 h4
      · rw [proc_out (by rw [ps_setP]; omega)] at h3; exact absurd h3 (by decide)
    · rw [proc_setP_ne e] at h3 h4 ⊢
      exact h.res q h3 h4⟩
set_option maxRecDepth 100000 in
set_option maxHeartbeats 1000000 in
theorem Tick_calls (w : World) (S : Nat) (P : PSet) (A : Nat → Option Addr) (c : Nat → Nat) (h : SetM w S P A c) (hI : Inv P) :
    Calls Try.prog 21 #[.pointer (some ⟨S, 0, none⟩)] w (RetSet w S A (.tuple #[]) (tickS P)) := by
  obtain ⟨n, hn⟩ : ∃ n, n = P.ps.length := ⟨_, rfl⟩
  obtain ⟨g, hA, _⟩ := h.pcell (p := 0) hI.n1
  have c0 := h.head0 hA hn
  have hn8 : n ≤ 1000 := by rw [hn]; exact hI.wf.n
  have HS0 : Hid (TickRel w S P A 0 w) := Lib.hid ⟨A, c, h, FrS.refl S A w⟩
  have HI := Lib.hid hI
  have HA := Lib.hid hA
  have HN := Lib.hid hn
  clear h hI hn hA
  go_enter Try.func21, Try.ntmps21
  go_wp2
  clear c0
  go_loopw [10] (fun i wr => ∃ k : Nat, k ≤ n ∧ i = .int .i64 k ∧ TickRel w S P A k wr) (fun i _ => n - (intOf i).toNat)
  case atStart => exact ⟨0, Nat.zero_le _, rfl, HS0.out⟩
  case round =>
    obtain ⟨k, hk, rfl, A', c', hm, hf⟩ := hrel
    have HM := Lib.hid hm
    have HF := Lib.hid hf
    by_cases hlt : k < n
    · obtain ⟨hik, hnk⟩ := tickTo_inv HI.out k (by rw [← HN.out]; exact hk)
      obtain ⟨Pk, hPk⟩ : ∃ X, X = tickTo P k := ⟨_, rfl⟩
      rw [← hPk] at hik hnk HM hm
      have hkp : k < Pk.ps.length := by rw [hnk, ← HN.out]; exact hlt
      have hA' : A' 0 = some ⟨g, 0, none⟩ := hf.p0.trans HA.out
      have c0 : wr.cell? ⟨S, 0, none⟩ = some (.slice (some ⟨g, 0, none⟩) n (c' 0)) := hm.head0 hA' (by rw [hnk, ← HN.out])
      obtain ⟨st, hst⟩ : ∃ x, x = (Pk.proc k).st := ⟨_, rfl⟩
      obtain ⟨lf, hlf⟩ : ∃ x, x = (Pk.proc k).left := ⟨_, rfl⟩
      obtain ⟨rs, hrs⟩ : ∃ x, x = (Pk.proc k).res := ⟨_, rfl⟩
      have c1 : wr.cell? ⟨g, k * 8 + 1, none⟩ = some (.int .i64 st) := by rw [hst]; exact hm.pget (f := 1) hkp hA' rfl
      have c5 : wr.cell? ⟨g, k * 8 + 5, none⟩ = some (.int .i64 rs) := by rw [hrs]; exact hm.pget (f := 5) hkp hA' rfl
      have c6 : wr.cell? ⟨g, k * 8 + 6, none⟩ = some (.int .i64 lf) := by rw [hlf]; exact hm.pget (f := 6) hkp hA' rfl
      have HTS : Hid (tickTo P (k + 1) = tick1 Pk k) := Lib.hid (by rw [tickTo_succ, ← hPk])
      have HA' := Lib.hid hA'
      have HKP := Lib.hid hkp
      have HIK := Lib.hid hik
      have HLF := Lib.hid hlf
      by_cases hs : st = 2
      · have hl1 := hik.left k hkp (by rw [← hst, hs]) (by simp)
        have hb1 : 1 ≤ lf := by rw [hlf]; exact hl1.1
        have hb2 : lf ≤ 1048576 := by rw [hlf]; exact hl1.2
        have HST : Hid ((Pk.proc k).st = 2) := Lib.hid (by rw [← hst, hs])
        have HRS := Lib.hid hrs
        subst hs
        clear hm hf hik hnk hkp hA' hst hlf hrs hPk hl1 HS0
        go_wp2_with ((with_reducible show wpList _ _ _ (Oper.mk _ (Op.store _ _ _) _ _ _ _ :: _) _ _); refine wpList_storeP rfl 3 _ _ rfl HM HF 6 (.int .i64 (lf - 1)) HKP.out HA' (by decide) { Pk.proc k with left := (Pk.proc k).left - 1 } (by rw [HLF.out]; rfl) rfl rfl s1Int rfl ?_)
        intro w2 H2 HF2
        obtain ⟨P2, hP2⟩ : ∃ X, X = Pk.setP k { Pk.proc k with left := (Pk.proc k).left - 1 } := ⟨_, rfl⟩
        rw [← hP2] at H2
        have hkp2 : k < P2.ps.length := by rw [hP2, ps_setP]; exact HKP.out
        have hpp : P2.proc k = { Pk.proc k with left := (Pk.proc k).left - 1 } := by rw [hP2, proc_setP HKP.out]
        have d6 : w2.cell? ⟨g, k * 8 + 6, none⟩ = some (.int .i64 (lf - 1)) := by rw [HLF.out]; exact H2.out.pget (f := 6) hkp2 HA'.out (by rw [hpp]; rfl)
        have d5 : w2.cell? ⟨g, k * 8 + 5, none⟩ = some (.int .i64 rs) := by rw [HRS.out]; exact H2.out.pget (f := 5) hkp2 HA'.out (by rw [hpp]; rfl)
        have HP2 := Lib.hid hP2
        have HKP2 := Lib.hid hkp2
        have HW2 : Hid (Wf P2 999) := Lib.hid (by rw [hP2]; exact Wf.setP (HIK.out.wf.mono (by decide)) rfl rfl)
        clear c0 c1 c5 c6 hP2 hkp2 hpp HM HF
        by_cases hl : 0 < lf - 1
        · have HT : Hid (tick1 Pk k = P2) := Lib.hid (by rw [HP2.out]; exact tick1_less HST.out (by rw [← HLF.out]; exact hl))
          have HR : Hid (TickRel w S P A (k + 1) w2) := Lib.hid ⟨A', c', by rw [HTS.out, HT.out]; exact H2.out, HF2.out⟩
          clear H2 HF2
          go_wp2
          go_roundw
          case rel => exact ⟨k + 1, by omega, by go_num, HR.out⟩
          case measure => simp [intOf]; omega
        · have HLN := Lib.hid hl
          by_cases hr : rs = -1
          · have HT : Hid (tick1 Pk k = release P2 k ⟨0, 0, false⟩) := Lib.hid (by rw [HP2.out]; exact tick1_time HST.out (by rw [← HLF.out]; exact HLN.out) (by rw [← HRS.out]; exact hr))
            have HWS : Hid (w.heap.size ≤ w2.heap.size) := Lib.hid HF2.out.size
            subst hr
            go_wp2_with ((with_reducible show wpList _ _ _ (Oper.mk _ (Op.alloc 37) _ _ _ _ :: _) _ _); refine wpList_allocS _ zOut rfl rfl ?_)
            intro w3 hb3 hg3 hs3
            obtain ⟨b, hbe⟩ : ∃ b, b = w2.heap.size := ⟨_, rfl⟩
            rw [← hbe] at hb3 ⊢
            have HB3 := Lib.hid hb3
            have H3 : Hid (SetM w3 S P2 A' c') := Lib.hid (H2.out.apart hg3 fun k e => by cases e)
            have HF3 : Hid (FrS S A w A' w3) := Lib.hid (HF2.out.trans (FrS.grown hg3 fun k e => by cases e))
            have HNF : Hid (¬ Foot S A' b) := Lib.hid (H2.out.notFoot (by rw [hbe]; exact Nat.le_refl _))
            have HWB : Hid (w.heap.size ≤ b) := Lib.hid (by rw [hbe]; exact HWS.out)
            have e5 : w3.cell? ⟨g, k * 8 + 5, none⟩ = some (.int .i64 (-1)) := hg3.cell d5 (by simp)
            clear hb3 hg3 hs3 hbe H2 HF2 d5 d6
            go_wp2_with ((with_reducible show wpList _ _ _ (Oper.mk _ (Op.store 37 _ _) _ _ _ _ :: _) _ _); refine wpList_storeS sOut rfl _ _ rfl b [.int .i64 0, .int .i64 0, .bool false] (ocs (errO 131)) rfl rfl HB3.out rfl rfl (ocs_one _) ?_)
            intro w4 hb4 hg4
            have HB4 : Hid (Blk w4 b [.int .i64 131, .int .i64 0, .bool false]) := Lib.hid hb4
            have H4 : Hid (SetM w4 S P2 A' c') := Lib.hid (H3.out.keepB hg4 HNF.out)
            have HF4 : Hid (FrS S A w A' w4) := Lib.hid (HF3.out.bump hg4 HWB.out)
            have f5 : w4.cell? ⟨g, k * 8 + 5, none⟩ = some (.int .i64 (-1)) := hg4.cell e5 (fun e => by injection e with e; exact HNF.out (.inr ⟨0, by rw [HA'.out]; exact congrArg some e⟩))
            clear hb4 hg4 H3 HF3 HB3 e5
            go_wp2_with ((with_reducible show wpList _ _ _ (Oper.mk _ (Op.store _ _ _) _ _ _ _ :: _) _ _); refine wpList_storeB rfl 25 _ _ rfl b 0 [.int .i64 131, .int .i64 0, .bool false] (.int .i64 0) rfl rfl HB4.out (Nat.succ_pos 2) s1Errno rfl ?_)
            intro w5 hb5 hg5
            have HB5 : Hid (Blk w5 b [.int .i64 0, .int .i64 0, .bool false]) := Lib.hid hb5
            have H5 : Hid (SetM w5 S P2 A' c') := Lib.hid (H4.out.keepB hg5 HNF.out)
            have HF5 : Hid (FrS S A w A' w5) := Lib.hid (HF4.out.bump hg5 HWB.out)
            clear hb5 hg5 H4 HF4 HB4 f5
            go_wp2_with (first | ((with_reducible show wpList _ _ _ (Oper.mk _ (Op.load 37 _) _ _ _ _ :: _) _ _); refine wpList_loadS sOut rfl _ rfl b [.int .i64 0, .int .i64 0, .bool false] rfl HB5.out rfl ?_) | fail)
            refine (release_calls w5 S P2 A' c' H5.out HW2.out k HKP2.out 0 0 false).mono ?_
            rintro e w7 ⟨rfl, A7, c7, h7, hf7⟩
            have HR : Hid (TickRel w S P A (k + 1) w7) := Lib.hid ⟨A7, c7, by rw [HTS.out, HT.out]; exact h7, HF5.out.trans hf7⟩
            clear h7 hf7 H5 HF5 HB5
            go_wp2
            go_roundw
            case rel => exact ⟨k + 1, by omega, by go_num, HR.out⟩
            case measure => simp [intOf]; omega
          · have hr1 : (rs == -1) = false := by simpa using hr
            have hr2 : (rs != -1) = true := by simpa using hr
            have HT : Hid (tick1 Pk k = release P2 k ⟨131, 0, false⟩) := Lib.hid (by rw [HP2.out]; exact tick1_over HST.out (by rw [← HLF.out]; exact HLN.out) (by rw [← HRS.out]; exact hr))
            have HWS : Hid (w.heap.size ≤ w2.heap.size) := Lib.hid HF2.out.size
            clear hr
            go_wp2_with ((with_reducible show wpList _ _ _ (Oper.mk _ (Op.alloc 37) _ _ _ _ :: _) _ _); refine wpList_allocS _ zOut rfl rfl ?_)
            intro w3 hb3 hg3 hs3
            obtain ⟨b, hbe⟩ : ∃ b, b = w2.heap.size := ⟨_, rfl⟩
            rw [← hbe] at hb3 ⊢
            have HB3 := Lib.hid hb3
            have H3 : Hid (SetM w3 S P2 A' c') := Lib.hid (H2.out.apart hg3 fun k e => by cases e)
            have HF3 : Hid (FrS S A w A' w3) := Lib.hid (HF2.out.trans (FrS.grown hg3 fun k e => by cases e))
            have HNF : Hid (¬ Foot S A' b) := Lib.hid (H2.out.notFoot (by rw [hbe]; exact Nat.le_refl _))
            have HWB : Hid (w.heap.size ≤ b) := Lib.hid (by rw [hbe]; exact HWS.out)
            have e5 : w3.cell? ⟨g, k * 8 + 5, none⟩ = some (.int .i64 rs) := hg3.cell d5 (by simp)
            clear hb3 hg3 hs3 hbe H2 HF2 d5 d6
            go_wp2_with ((with_reducible show wpList _ _ _ (Oper.mk _ (Op.store 37 _ _) _ _ _ _ :: _) _ _); refine wpList_storeS sOut rfl _ _ rfl b [.int .i64 0, .int .i64 0, .bool false] (ocs (errO 131)) rfl rfl HB3.out rfl rfl (ocs_one _) ?_)
            intro w4 hb4 hg4
            have HB4 : Hid (Blk w4 b [.int .i64 131, .int .i64 0, .bool false]) := Lib.hid hb4
            have H4 : Hid (SetM w4 S P2 A' c') := Lib.hid (H3.out.keepB hg4 HNF.out)
            have HF4 : Hid (FrS S A w A' w4) := Lib.hid (HF3.out.bump hg4 HWB.out)
            have f5 : w4.cell? ⟨g, k * 8 + 5, none⟩ = some (.int .i64 rs) := hg4.cell e5 (fun e => by injection e with e; exact HNF.out (.inr ⟨0, by rw [HA'.out]; exact congrArg some e⟩))
            clear hb4 hg4 H3 HF3 HB3 e5
            go_wp2_with (first | ((with_reducible show wpList _ _ _ (Oper.mk _ (Op.load 37 _) _ _ _ _ :: _) _ _); refine wpList_loadS sOut rfl _ rfl b [.int .i64 131, .int .i64 0, .bool false] rfl HB4.out rfl ?_) | fail)
            refine (release_calls w4 S P2 A' c' H4.out HW2.out k HKP2.out 131 0 false).mono ?_
            rintro e w7 ⟨rfl, A7, c7, h7, hf7⟩
            have HR : Hid (TickRel w S P A (k + 1) w7) := Lib.hid ⟨A7, c7, by rw [HTS.out, HT.out]; exact h7, HF4.out.trans hf7⟩
            clear h7 hf7 H4 HF4 HB4 f5
            go_wp2
            go_roundw
            case rel => exact ⟨k + 1, by omega, by go_num, HR.out⟩
            case measure => simp [intOf]; omega
      · have hs1 : (st != 2) = true := by simpa using hs
        have hs2 : (st == 2) = false := by simpa using hs
        have HR : Hid (TickRel w S P A (k + 1) wr) := Lib.hid ⟨A', c', by rw [HTS.out, tick1_idle (by rw [← hst]; exact hs)]; exact HM.out, HF.out⟩
        clear hm hf hik hnk hkp hA' hst hlf hrs hPk HS0 hs HM HF
        go_wp2
        go_roundw
        case rel => exact ⟨k + 1, by omega, by go_num, HR.out⟩
        case measure => simp [intOf]; omega
    · have hkn : k = n := by omega
      have HR : Hid (RetSet w S A (.tuple #[]) (tickS P) (.returned (.tuple #[])) wr) := Lib.hid ⟨rfl, A', c', by unfold tickS; rw [← HN.out, ← hkn]; exact hm, hf⟩
      subst hkn
      clear hm hf HS0 HM HF
      go_wp2
      exact bodyPost_ret (v := .tuple #[]) (by simp [results, Try.results21, go_sem]) rfl HR.out
end Go.Proofs.Ytgeffkdobnipgaa
