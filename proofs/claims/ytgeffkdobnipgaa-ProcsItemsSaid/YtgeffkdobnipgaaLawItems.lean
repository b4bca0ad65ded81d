/- ProcsItems: the walk. -/
import Derived.Test.YtgeffkdobnipgaaItemsPlain
import Derived.Test.YtgeffkdobnipgaaOpenS
namespace Go.Proofs.Ytgeffkdobnipgaa
open Go.RowKit Nac Nac.Procs
theorem run_and7 (x : Int) : ∃ m : Int, 0 ≤ m ∧ m ≤ 7 ∧ ∀ (w : World) (p q : Operand), (do eqGuard .and 3 p q (.int .i64 x) (.int .i64 7); binOp .and 3 (.int .i64 x) (.int .i64 7) : Sem Value).run Try.prog w = .ok (.int .i64 m) w := by
  obtain ⟨n, hn⟩ : ∃ n : Nat, n = (BitVec.ofInt 64 x &&& BitVec.ofInt 64 7).toNat := ⟨_, rfl⟩
  have h7 : n ≤ 7 := by
    rw [hn, BitVec.toNat_and]
    exact Nat.le_trans Nat.and_le_right (by decide)
  refine ⟨n, by omega, by omega, fun w p q => ?_⟩
  have hw : IntKind.i64.wrap (n : Int) = n := IntWalk.i64_in _ (by omega)
  have h1 : (eqGuard .and 3 p q (.int .i64 x) (.int .i64 7)).run Try.prog w = .ok () w := by simp [eqGuard]
  rw [Sem.run_bind, h1]
  show (binOp .and 3 (.int .i64 x) (.int .i64 7)).run Try.prog w = _
  have e : binOp .and 3 (.int .i64 x) (.int .i64 7) = (pure (.int .i64 (IntKind.i64.wrap ((BitVec.ofInt 64 x &&& BitVec.ofInt 64 7).toNat : Int))) : Sem Value) := rfl
  rw [e, ← hn, hw]
  rfl
def ItemRel (S : Nat) (A1 : Nat → Option Addr) (w1 : World) (n : Nat) (s7 s8 s9 : Value) (wr : World) : Prop :=
  ∃ (k : Nat) (i o : Int) (P : PSet) (A' : Nat → Option Addr) (c' : Nat → Nat), s7 = .int .i64 i ∧ s8 = .int .i64 o ∧ s9 = .int .i64 (k : Int) ∧ k ≤ 80 ∧ k ≤ n ∧ 0 ≤ o ∧ o ≤ i ∧ i ≤ k ∧ ItI P i o ∧ SetM wr S P A' c' ∧ FrS S A1 w1 A' wr
theorem it_ok (m : Int) (h0 : 0 ≤ m) (h7 : m ≤ 7) : OkNew [5, 5] [⟨2, 0, 1 + m⟩] :=
  ⟨by decide, by decide, by simp, by simp, fun r hr => by simp at hr; subst hr; exact ⟨.inr (.inr rfl), by show (1 : Int) ≤ 1 + m; omega, by show (1 + m : Int) ≤ 16; omega, fun e => absurd (show (2 : Int) = 1 from e) (by decide), by show (0 : Int) ≤ 0; decide, by show (0 : Int) ≤ 1 + m; omega, fun _ => rfl⟩⟩
theorem it_start (m : Int) (h0 : 0 ≤ m) (h7 : m ≤ 7) : ItI (startS (startS (P0 [5, 5] [⟨2, 0, 1 + m⟩]) 0).2 1).2 0 0 :=
  ⟨start_inv (start_inv (P0_inv (it_ok m h0 h7)) 0) 1, rfl, rfl, rfl, rfl⟩
set_option maxRecDepth 100000 in
set_option maxHeartbeats 4000000 in
theorem items_calls (w : World) (most : Int) (Ag : Option Addr) (cg : Nat) (l : List Bool) (hg : RG w w.heap.size Ag 1 c1B l) : Calls Try.prog 4 #[.int .i64 most, .slice Ag l.length cg] w (RetBb w true) := by
  obtain ⟨m, hm0, hm7, hand⟩ := run_and7 most
  have HAND := Lib.hid hand
  have hbi := build2_int
  have hbr := build1_rin
  obtain ⟨W, hW⟩ : ∃ W, W = ((w.alloc (.cells #[.int .i64 5, .int .i64 5] 3)).alloc (.cells #[.int .i64 2, .int .i64 0, .int .i64 (1 + m)] 30)) := ⟨_, rfl⟩
  have HRI : Hid (RI W (w.heap.size + 1 + 1) (some ⟨w.heap.size, 0, none⟩) [5, 5]) := Lib.hid fun _ => ⟨_, _, rfl, by omega, fun j hj => by
    have hb := (Blk.new w [.int .i64 5, .int .i64 5] 3).alloc (.cells #[.int .i64 2, .int .i64 0, .int .i64 (1 + m)] 30)
    rw [Nat.zero_add, hW]
    rcases (by simp at hj; omega : j = 0 ∨ j = 1) with rfl | rfl
    · exact hb.cell rfl
    · exact hb.cell rfl⟩
  have HRR : Hid (RR W (w.heap.size + 1 + 1) (some ⟨w.heap.size + 1, 0, none⟩) [⟨2, 0, 1 + m⟩]) := Lib.hid fun _ => ⟨_, _, rfl, by omega, fun j hj => by
    have hb := Blk.new (w.alloc (.cells #[.int .i64 5, .int .i64 5] 3)) [.int .i64 2, .int .i64 0, .int .i64 (1 + m)] 30
    have hs : (w.alloc (.cells #[.int .i64 5, .int .i64 5] 3)).heap.size = w.heap.size + 1 := by simp
    rw [hs] at hb
    rw [hW]
    obtain rfl : j = 0 := by simp at hj; omega
    exact ⟨hb.cell rfl, hb.cell rfl, hb.cell rfl⟩⟩
  have HB0 : Hid (Below w.heap.size w W) := Lib.hid (by rw [hW]; exact ((Below.refl _ _).alloc (Nat.le_refl _) _).alloc (by simp) _)
  have HSZ : Hid (W.heap.size = w.heap.size + 1 + 1) := Lib.hid (by rw [hW]; simp)
  have HWW := Lib.hid hW
  have HG := Lib.hid hg
  obtain ⟨n, hn⟩ : ∃ n, n = l.length := ⟨_, rfl⟩
  have HN := Lib.hid hn
  rw [← hn]
  have HM0 := Lib.hid hm0
  have HM7 := Lib.hid hm7
  clear hW hand hg hn
  go_enter Try.func4, Try.ntmps4
  go_wp2_with ((with_reducible show wpList _ _ _ (Oper.mk _ (Op.binOp BinOp.and _ _ _ _) _ _ _ _ :: _) _ _); refine wpList_binV (by rfl) _ _ _ _ _ rfl (.int .i64 m) (HAND.out _ _ _) ?_)
  rw [← HWW.out]
  refine (new_ok W _ _ _ _ [5, 5] [⟨2, 0, 1 + m⟩] 2 1 rfl rfl (by rw [HSZ.out]; exact HRI.out) (by rw [HSZ.out]; exact HRR.out) (it_ok m HM0.out HM7.out)).mono ?_
  rintro e w1 ⟨S, A1, c1, rfl, hm1, hfr, hbe⟩
  have HFR : Hid (∀ k, Foot S A1 k → w.heap.size ≤ k) := Lib.hid fun k hk => by have := hfr k hk; rw [HSZ.out] at this; omega
  have HBW : Hid (Below w.heap.size w w1) := Lib.hid (HB0.out.trans (hbe.mono (by rw [HSZ.out]; omega)))
  have H1 := Lib.hid hm1
  have HI0 := Lib.hid (P0_inv (it_ok m HM0.out HM7.out))
  have HIS := Lib.hid (it_start m HM0.out HM7.out)
  clear hm1 hfr hbe HRI HRR HB0 HSZ HWW hbi hbr hm0 hm7 HAND
  go_wp2_with fail
  refine (Start_calls w1 S _ A1 c1 H1.out HI0.out 0).mono ?_
  rintro e w2 ⟨rfl, A2, c2, h2, hf2⟩
  have H2 := Lib.hid h2
  have HF2 := Lib.hid hf2
  clear h2 hf2 H1
  go_wp2_with fail
  refine (Start_calls w2 S _ A2 c2 H2.out (start_inv HI0.out 0) 1).mono ?_
  rintro e w3 ⟨rfl, A3, c3, h3, hf3⟩
  have HR0 : Hid (ItemRel S A1 w1 n (.int .i64 0) (.int .i64 0) (.int .i64 0) w3) := Lib.hid ⟨0, 0, 0, _, A3, c3, rfl, rfl, rfl, Nat.zero_le _, Nat.zero_le _, by decide, by decide, by decide, HIS.out, h3, HF2.out.trans hf3⟩
  clear h3 hf3 H2 HF2 HI0 HIS HM0 HM7
  go_wp2
  go_loopw [7, 8, 9] (fun s7 s8 s9 wr => ItemRel S A1 w1 n s7 s8 s9 wr) (fun _ _ s9 _ => 80 - (intOf s9).toNat)
  case atStart => exact HR0.out
  case round =>
    obtain ⟨k, i, o, P, A4, c4, rfl, rfl, rfl, hk80, hkn, ho, hoi, hik, hit, hm4, hf4⟩ := hrel
    have H4 := Lib.hid hm4
    have HF4 := Lib.hid hf4
    have HIT := Lib.hid hit
    clear hm4 hf4 hit HR0
    by_cases hlt : k < n
    · by_cases hl80 : k < 80
      · go_wp2_with fail
        refine (Running_calls wr S P A4 c4 H4.out HIT.out.inv.wf.n (by have := HIT.out.inv.rlen; omega) HIT.out.inv.rin).mono ?_
        rintro e w5 ⟨rfl, hb5⟩
        have H5 : Hid (SetM w5 S P A4 c4) := Lib.hid (H4.out.below hb5)
        have HF5 : Hid (FrS S A1 w1 A4 w5) := Lib.hid (HF4.out.trans (FrS.below hb5))
        clear hb5 H4 HF4
        rcases run_lt HIT.out.inv with hrun | ⟨p, hrun, hpr, _⟩
        · rw [hrun]
          clear hrun
          go_wp2_with fail
          refine (awake_calls _).mono ?_
          rintro e wz ⟨rfl, hbz⟩
          have HZ : Hid (Below w.heap.size w wz) := Lib.hid ((HF5.out.out HBW.out HFR.out (Nat.le_refl _)).trans (hbz.mono (Nat.le_trans HBW.out.size HF5.out.size)))
          clear hbz
          go_wp2
          go_ret
          exact ⟨rfl, HZ.out⟩
        · have HRUN : Hid (runI P = p) := Lib.hid hrun
          have HPR := Lib.hid hpr
          rw [hrun]
          clear hrun hpr
          go_wp2_with fail
          refine (Queue_calls w5 S P A4 c4 H5.out HIT.out.inv 0).mono ?_
          rintro e w6 ⟨Aq, cq, rfl, hri, hb6, hqf⟩
          have HNFQ : Hid (∀ g, Aq.map (·.block) = some g → ¬ Foot S A4 g) := Lib.hid fun g hg => H5.out.notFoot (hqf g hg)
          have hql : queueL P 0 = (P.rsc 0).q := by unfold queueL; rw [show isR P 0 = true by unfold isR; rw [HIT.out.m]; rfl]; rfl
          rw [hql] at hri ⊢
          have H6 : Hid (SetM w6 S P A4 c4) := Lib.hid (H5.out.below hb6)
          have HF6 : Hid (FrS S A1 w1 A4 w6) := Lib.hid (HF5.out.trans (FrS.below hb6))
          have HRQ := Lib.hid hri
          have HB6 := Lib.hid (HF6.out.out HBW.out HFR.out (Nat.le_refl _))
          obtain ⟨nq, hnq⟩ : ∃ x, x = (P.rsc 0).q.length := ⟨_, rfl⟩
          have HNQ := Lib.hid hnq
          have hnq8 : nq ≤ 8 := by rw [hnq]; exact HIT.out.inv.qlen 0
          rw [← hnq]
          clear hri hb6 H5 HF5 hql hnq hqf
          go_wp2_with fail
          refine (Count_calls w6 S P A4 c4 H6.out HIT.out.inv.wf.m 0).mono ?_
          rintro e w6' ⟨rfl, rfl⟩
          have hcl : countI P 0 = (P.rsc 0).count := by unfold countI; rw [show isR P 0 = true by unfold isR; rw [HIT.out.m]; rfl]; rfl
          rw [hcl]
          clear hcl
          obtain ⟨cn, hcn⟩ : ∃ x, x = (P.rsc 0).count := ⟨_, rfl⟩
          rw [← hcn]
          have HCN := Lib.hid hcn
          have hkl : k < l.length := by rw [← HN.out]; exact hlt
          obtain ⟨bg, og, hAg, hbg, hcg⟩ := HG.out.get hkl
          have cb : w6.cell? ⟨bg, og + k, none⟩ = some (.bool l[k]) := by
            have := hcg 0 _ rfl
            rw [Nat.mul_one, Nat.add_zero] at this
            exact (HB6.out.cell hbg).trans this
          subst hAg
          obtain ⟨gb, hgb⟩ : ∃ x, x = l[k] := ⟨_, rfl⟩
          rw [← hgb] at cb
          clear hcn hkl hbg hcg hgb
          cases gb with
          | true =>
            go_wp2_with fail
            refine (Give_calls w6 S P A4 c4 H6.out HIT.out.inv 0 (i + 1) 9).mono ?_
            rintro e w7 ⟨rfl, A7, c7, h7, hf7⟩
            obtain ⟨o', hit', hcase⟩ := HIT.out.give HRUN.out HPR.out
            have H7 := Lib.hid h7
            have HF7 := Lib.hid (HF6.out.trans hf7)
            have HIT' := Lib.hid hit'
            clear h7 hit'
            rcases hcase with ⟨rfl, hc⟩ | ⟨rfl, hc0, f, rest, hqe, hlast⟩
            · have HRR : Hid (ItemRel S A1 w1 n (.int .i64 (i + 1)) (.int .i64 o') (.int .i64 ((k + 1 : Nat) : Int)) w7) := Lib.hid ⟨k + 1, i + 1, o', _, A7, c7, rfl, rfl, rfl, by omega, by omega, ho, by omega, by omega, HIT'.out, H7.out, HF7.out⟩
              clear hf7 HNFQ HRQ H6 HF6 HIT HIT' H7 HF7
              by_cases hq0 : nq = 0
              · subst hq0
                clear hc
                go_wp2
                go_roundw
                case rel => exact HRR.out
                case measure => simp [intOf]; omega
              · have hq1 : 0 < nq := by omega
                have hcn0 : ¬ cn = 0 := by
                  rcases hc with hc | hc
                  · exact absurd (by rw [HNQ.out, hc]; rfl) hq0
                  · rw [HCN.out]; exact hc
                have hcn1 : (cn == 0) = false := by simpa using hcn0
                have hcn2 : (cn != 0) = true := by simpa using hcn0
                clear hc hcn0
                go_wp2
                go_roundw
                case rel => exact HRR.out
                case measure => simp [intOf]; omega
            · obtain ⟨P7, hP7⟩ : ∃ X, X = (giveS P 0 (i + 1) 9).2 := ⟨_, rfl⟩
              rw [← hP7] at hlast
              have HRR : Hid (∀ w8, Below w7.heap.size w7 w8 → ItemRel S A1 w1 n (.int .i64 (i + 1)) (.int .i64 (o + 1)) (.int .i64 ((k + 1 : Nat) : Int)) w8) := Lib.hid fun w8 hb8 => ⟨k + 1, i + 1, o + 1, _, A7, c7, rfl, rfl, rfl, by omega, by omega, by omega, by omega, by omega, HIT'.out, H7.out.below hb8, HF7.out.trans (FrS.below hb8)⟩
              have H7' : Hid (SetM w7 S P7 A7 c7) := Lib.hid (by rw [hP7]; exact H7.out)
              have HI7 : Hid (Inv P7) := Lib.hid (by rw [hP7]; exact HIT'.out.inv)
              obtain rfl : cn = 0 := by rw [HCN.out]; exact hc0
              have hq1 : 0 < nq := by rw [HNQ.out, hqe]; exact Nat.succ_pos _
              obtain ⟨b0, o0, hAq, hb0, hc0'⟩ := HRQ.out.get (k := 0) (by rw [ints_len, hqe]; exact Nat.succ_pos _)
              have hc0'' : w7.cell? ⟨b0, o0, none⟩ = some (.int .i64 (f : Int)) := by
                have e1 : w6.cell? ⟨b0, o0, none⟩ = some (.int .i64 (f : Int)) := by
                  have : (ints (P.rsc 0).q)[0]'(by rw [ints_len, hqe]; exact Nat.succ_pos _) = (f : Int) := by simp [ints, hqe]
                  rw [← this]; exact hc0'
                rw [← e1]
                unfold World.cell?
                rw [hf7.block b0 hb0 (HNFQ.out b0 (by rw [hAq]; rfl))]
              rw [hAq]
              have HLA := Lib.hid hlast
              clear hP7 hf7 HNFQ HRQ H6 HF6 HIT HIT' H7 HF7 hc0 hqe hlast hAq hb0 hc0'
              have HNE : Hid (∀ (w : World) (p q : Operand) (u : Out), (do eqGuard .neq 37 p q (.agg (ocs u).toArray) (.agg (ocs u).toArray); binOp .neq 37 (.agg (ocs u).toArray) (.agg (ocs u).toArray) : Sem Value).run Try.prog w = .ok (.bool false) w) := Lib.hid fun w p q u => by rw [run_neq_out, outEq_self]; rfl
              go_wp2_with fail
              refine (Last_calls w7 S P7 A7 c7 H7'.out HI7.out (f : Int)).mono ?_
              rintro e w8 ⟨rfl, hb8⟩
              have HR8 := Lib.hid (HRR.out w8 hb8)
              rw [HLA.out]
              clear hb8 HRR H7' HI7 HLA hc0''
              go_wp2_with ((with_reducible show wpList _ _ _ (Oper.mk _ (Op.binOp BinOp.neq 37 _ _ _) _ _ _ _ :: _) _ _); refine wpList_binV (by rfl) _ _ _ _ _ rfl (.bool false) (HNE.out _ _ _ ⟨0, o + 1, false⟩) ?_)
              go_roundw
              case rel => exact HR8.out
              case measure => simp [intOf]; omega
          | false =>
            go_wp2_with fail
            refine (Take_calls w6 S P A4 c4 H6.out HIT.out.inv 0 9).mono ?_
            rintro e w7 ⟨rfl, A7, c7, h7, hf7⟩
            obtain ⟨o', hit', hcase⟩ := HIT.out.take HRUN.out HPR.out
            have H7 := Lib.hid h7
            have HF7 := Lib.hid (HF6.out.trans hf7)
            have HIT' := Lib.hid hit'
            clear h7 hf7 hit' H6 HF6 HIT HNFQ HRQ
            go_wp2_with ((with_reducible show wpList _ _ _ (Oper.mk _ (Op.alloc 37) _ _ _ _ :: _) _ _); refine wpList_allocS _ zOut rfl rfl ?_)
            intro w8 hb hg hs
            obtain ⟨bx, hbe⟩ : ∃ b, b = w7.heap.size := ⟨_, rfl⟩
            rw [← hbe] at hb ⊢
            have H8 : Hid (SetM w8 S _ A7 c7) := Lib.hid (H7.out.apart hg fun k e => by cases e)
            have HF8 : Hid (FrS S A1 w1 A7 w8) := Lib.hid (HF7.out.trans (FrS.grown hg fun k e => by cases e))
            have HNF : Hid (¬ Foot S A7 bx) := Lib.hid (H7.out.notFoot (by rw [hbe]; exact Nat.le_refl _))
            have HWB : Hid (w1.heap.size ≤ bx) := Lib.hid (by rw [hbe]; exact HF7.out.size)
            have HB8 := Lib.hid hb
            clear hb hg hs hbe H7 HF7
            rcases hcase with ⟨rfl, hu⟩ | ⟨rfl, hu⟩
            · rw [hu]
              clear hu
              go_wp2_with ((with_reducible show wpList _ _ _ (Oper.mk _ (Op.store 37 _ _) _ _ _ _ :: _) _ _); refine wpList_storeS sOut rfl _ _ rfl bx [.int .i64 0, .int .i64 0, .bool false] (ocs waits) rfl rfl HB8.out rfl rfl (ocs_one _) ?_)
              intro w9 hb9 hg9
              have cw : w9.cell? ⟨bx, 2, none⟩ = some (.bool true) := hb9.cell rfl
              have HRR : Hid (ItemRel S A1 w1 n (.int .i64 i) (.int .i64 o') (.int .i64 ((k + 1 : Nat) : Int)) w9) := Lib.hid ⟨k + 1, i, o', _, A7, c7, rfl, rfl, rfl, by omega, by omega, ho, by omega, by omega, HIT'.out, H8.out.keepB hg9 HNF.out, HF8.out.bump hg9 HWB.out⟩
              clear hb9 hg9 HB8 H8 HF8 HIT'
              go_wp2
              go_roundw
              case rel => exact HRR.out
              case measure => simp [intOf]; omega
            · rw [hu]
              clear hu
              go_wp2_with ((with_reducible show wpList _ _ _ (Oper.mk _ (Op.store 37 _ _) _ _ _ _ :: _) _ _); refine wpList_storeS sOut rfl _ _ rfl bx [.int .i64 0, .int .i64 0, .bool false] (ocs ⟨0, o + 1, false⟩) rfl rfl HB8.out rfl rfl (ocs_one _) ?_)
              intro w9 hb9 hg9
              have cw : w9.cell? ⟨bx, 2, none⟩ = some (.bool false) := hb9.cell rfl
              have HB9 := Lib.hid hb9
              have hoi' : o + 1 ≤ i := by have := (HIT'.out.runs).le; omega
              have HRR : Hid (ItemRel S A1 w1 n (.int .i64 i) (.int .i64 (o + 1)) (.int .i64 ((k + 1 : Nat) : Int)) w9) := Lib.hid ⟨k + 1, i, o + 1, _, A7, c7, rfl, rfl, rfl, by omega, by omega, by omega, hoi', by omega, HIT'.out, H8.out.keepB hg9 HNF.out, HF8.out.bump hg9 HWB.out⟩
              clear hb9 hg9 HB8 H8 HF8 HIT' hoi'
              have HNE : Hid (∀ (w : World) (p q : Operand) (u : Out), (do eqGuard .neq 37 p q (.agg (ocs u).toArray) (.agg (ocs u).toArray); binOp .neq 37 (.agg (ocs u).toArray) (.agg (ocs u).toArray) : Sem Value).run Try.prog w = .ok (.bool false) w) := Lib.hid fun w p q u => by rw [run_neq_out, outEq_self]; rfl
              go_wp2_with (first | ((with_reducible show wpList _ _ _ (Oper.mk _ (Op.load 37 _) _ _ _ _ :: _) _ _); refine wpList_loadS sOut rfl _ rfl bx (ocs ⟨0, o + 1, false⟩) rfl HB9.out rfl ?_) | ((with_reducible show wpList _ _ _ (Oper.mk _ (Op.binOp BinOp.neq 37 _ _ _) _ _ _ _ :: _) _ _); refine wpList_binV (by rfl) _ _ _ _ _ rfl (.bool false) (HNE.out _ _ _ ⟨0, o + 1, false⟩) ?_))
              go_roundw
              case rel => exact HRR.out
              case measure => simp [intOf]; omega
      · clear hkn
        go_wp2_with fail
        refine (awake_calls _).mono ?_
        rintro e wz ⟨rfl, hbz⟩
        have HZ : Hid (Below w.heap.size w wz) := Lib.hid ((HF4.out.out HBW.out HFR.out (Nat.le_refl _)).trans (hbz.mono (Nat.le_trans HBW.out.size HF4.out.size)))
        clear hbz
        go_wp2
        go_ret
        exact ⟨rfl, HZ.out⟩
    · go_wp2_with fail
      refine (awake_calls _).mono ?_
      rintro e wz ⟨rfl, hbz⟩
      have HZ : Hid (Below w.heap.size w wz) := Lib.hid ((HF4.out.out HBW.out HFR.out (Nat.le_refl _)).trans (hbz.mono (Nat.le_trans HBW.out.size HF4.out.size)))
      clear hbz
      go_wp2
      go_ret
      exact ⟨rfl, HZ.out⟩
end Go.Proofs.Ytgeffkdobnipgaa
