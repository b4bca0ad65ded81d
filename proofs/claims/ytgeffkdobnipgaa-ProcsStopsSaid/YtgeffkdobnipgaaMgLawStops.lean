/- ProcsStops: the walk. -/
import Derived.Test.YtgeffkdobnipgaaMgStopsPlain
namespace Go.Proofs.Ytgeffkdobnipgaa
open Go.RowKit Nac Nac.Procs
theorem made_ints (n : Nat) (hn : n ≤ 8) : (madeCells #[.int .i64 0] n).toList = (List.replicate n (0 : Int)).map (Value.int .i64) := by
  rcases (by omega : n = 0 ∨ n = 1 ∨ n = 2 ∨ n = 3 ∨ n = 4 ∨ n = 5 ∨ n = 6 ∨ n = 7 ∨ n = 8) with rfl | rfl | rfl | rfl | rfl | rfl | rfl | rfl | rfl <;> kernel_rfl
theorem queue_len {P : PSet} (h : Inv P) (r : Nat) : (queueL P r).length ≤ 100000 := by
  unfold queueL
  split
  · have := h.qlen (r : Int).toNat; omega
  · exact Nat.zero_le _
theorem row_cell {w : World} {g n c : Nat} {L : List Int} (h : Row w 3 1 (some ⟨g, 0, none⟩) c n (L.map (Value.int .i64))) {i : Nat} {z : Int} (hi : i < L.length) (hz : L.getD i 0 = z) : w.cell? ⟨g, i, none⟩ = some (.int .i64 z) := by
  obtain ⟨g', hg', _, hcp, _⟩ := h.at (show i < (L.map (Value.int .i64)).length by rw [List.length_map]; exact hi)
  injection hg' with e
  injection e with e
  subst e
  rw [hcp, List.getElem_map, ← hz]
  simp [List.getD, hi]
/-- a row of numbers beside the set: while it is filled -/
def Filled (w : World) (S g b : Nat) (P : PSet) (A : Nat → Option Addr) (c : Nat → Nat) (n : Nat) (sh : List Value) (k : Nat) (wr : World) : Prop := ∃ L : List Int, L.length = n ∧ (∀ i, i < k → L.getD i 0 = (P.proc i).st) ∧ Row wr 3 1 (some ⟨g, 0, none⟩) n n (L.map (Value.int .i64)) ∧ SetM wr S P A c ∧ Below w.heap.size w wr ∧ Blk wr b sh
set_option maxRecDepth 100000 in
set_option maxHeartbeats 2000000 in
theorem stops_calls (w : World) (Ap Ar Aa : Option Addr) (cp cr ca : Nat) (lp : List Int) (lr : List RIn) (la : List ActI) (hp : RG w w.heap.size Ap 1 c1I lp) (hr : RG w w.heap.size Ar 3 c3R lr) (ha : RG w w.heap.size Aa 4 c4A la)
    (hpc : lp.length ≤ cp) (hrc : lr.length ≤ cr) (hp8 : lp.length ≤ 140737488351232) (hr8 : lr.length ≤ 140737488351232) (ha8 : la.length ≤ 140737488351232) (tp : Int) :
    Calls Try.prog 7 #[.agg #[.slice Ap lp.length cp, .slice Ar lr.length cr], .slice Aa la.length ca, .int .i64 tp] w (RetBb w true) := by
  obtain ⟨np, hnp⟩ : ∃ n, n = lp.length := ⟨_, rfl⟩
  obtain ⟨nr, hnr⟩ : ∃ n, n = lr.length := ⟨_, rfl⟩
  obtain ⟨na, hna⟩ : ∃ n, n = la.length := ⟨_, rfl⟩
  have HPL : Hid (∀ (w' : World), Below w.heap.size w w' → Calls Try.prog 18 #[.agg #[.slice Ap np cp, .slice Ar nr cr], .slice Aa na ca] w' (RetPl w')) := Lib.hid fun w' hb => by
    rw [hnp, hnr, hna]
    exact played_calls w' Ap Ar Aa cp cr ca lp lr la (RG.mono (hp.below hb) hb.size) (RG.mono (hr.below hb) hb.size) (RG.mono (ha.below hb) hb.size) hpc hrc hp8 hr8 ha8
  rw [← hnp, ← hnr, ← hna]
  clear hp hr ha hpc hrc hp8 hr8 ha8 hnp hnr hna
  go_enter Try.func7, Try.ntmps7
  go_wp2_with (first | ((with_reducible show wpList _ _ _ (Oper.mk _ (Op.box 43 _) _ _ _ _ :: _) _ _); refine wpList_boxS (T := 43) rfl _ rfl [.slice Ap np cp, .slice Ar nr cr] rfl ?_) | fail)
  intro w1 hb1 hg1 hs1
  obtain ⟨b2, hb2⟩ : ∃ b, b = w.heap.size := ⟨_, rfl⟩
  rw [← hb2] at hb1 ⊢
  have HB1 := Lib.hid hb1
  have HG1 : Hid (Below w.heap.size w w1) := Lib.hid (grown_below hg1 (Nat.le_refl _) fun k e => by cases e)
  have HB2E : Hid (b2 = w.heap.size ∧ w1.heap.size = b2 + 1) := Lib.hid ⟨hb2, by omega⟩
  clear hb1 hg1 hs1 hb2
  go_wp2_with ((with_reducible show wpList _ _ _ (Oper.mk _ (Op.load 43 _) _ _ _ _ :: _) _ _); refine wpList_loadS sShp rfl _ rfl b2 [.slice Ap np cp, .slice Ar nr cr] rfl HB1.out rfl ?_)
  refine (HPL.out w1 HG1.out).mono ?_
  rintro e w2 ⟨S, P, A, c, prs, rs, Aq, As, nq, ns, cq, cs, rfl, hok, hI, hs, hm, hnq, hns, hri, hrr, hfr, hbw⟩
  have HB22 : Hid (Blk w2 b2 [.slice Ap np cp, .slice Ar nr cr]) := Lib.hid (HB1.out.below hbw HB1.out.lt)
  have HM2 := Lib.hid hm
  have HRI2 := Lib.hid hri
  have HRR2 := Lib.hid hrr
  have HFR : Hid (∀ k, Foot S A k → b2 < k) := Lib.hid fun k hk => by have := hfr k hk; have := HB2E.out; omega
  have HW2 : Hid (Below w.heap.size w w2) := Lib.hid (HG1.out.trans (hbw.mono HG1.out.size))
  have HOK := Lib.hid hok
  have HI := Lib.hid hI
  have HSM := Lib.hid hs
  have HNQ : Hid (nq = prs.length ∧ P.ps.length = nq ∧ nq ≤ 8 ∧ 1 ≤ nq) := Lib.hid ⟨hnq, by rw [hs.n, hnq]; simp [P0], by rw [hnq]; exact hok.n8, by rw [hnq]; exact hok.n1⟩
  have HNS : Hid (ns = rs.length ∧ P.rs.length = ns ∧ ns ≤ 8) := Lib.hid ⟨hns, by rw [hs.m, hns]; simp [P0], by rw [hns]; exact hok.m8⟩
  have hnq8 : nq ≤ 8 := HNQ.out.2.2.1
  have hns8 : ns ≤ 8 := HNS.out.2.2
  clear hok hI hs hm hnq hns hri hrr hfr hbw HPL HB1
  go_wp2_with ((with_reducible show wpList _ _ _ (Oper.mk _ (Op.store 43 _ _) _ _ _ _ :: _) _ _); refine wpList_storeS sShp rfl _ _ rfl b2 [.slice Ap np cp, .slice Ar nr cr] [.slice Aq nq cq, .slice As ns cs] rfl rfl HB22.out rfl rfl (shp_one _ _ _ _ _ _) ?_)
  intro w3 hb3 hg3
  have HB3 := Lib.hid hb3
  have HM : Hid (SetM w3 S P A c) := Lib.hid (HM2.out.apart hg3 fun k e hf => by injection e with e; have := HFR.out k hf; omega)
  have HRI : Hid (RI w3 w3.heap.size Aq prs) := Lib.hid ((HRI2.out.other (Nat.le_refl _) HB22.out slices_no_int hg3).mono hg3.size)
  have HRR : Hid (RR w3 w3.heap.size As rs) := Lib.hid ((HRR2.out.other (Nat.le_refl _) HB22.out slices_no_int hg3).mono hg3.size)
  have HW : Hid (Below w.heap.size w w3) := Lib.hid (HW2.out.trans (grown_below hg3 HW2.out.size fun k e => by injection e with e; have := HB2E.out; omega))
  clear hb3 hg3 HB22 HM2 HRI2 HRR2 HW2
  have c30 : w3.cell? ⟨b2, 0, none⟩ = some (.slice Aq nq cq) := HB3.out.cell rfl
  obtain ⟨ti, hi, hz, hz1, hz2⟩ := info_parts Try.infoIt
  go_wp2_with ((with_reducible show wpList _ _ _ (Oper.mk _ (Op.makeSlice _ _ _) _ _ _ _ :: _) _ _); refine wpList_make_full w3 rfl _ _ 28 rfl 0 3 ti (.int .i64 0) 1 Try.underlying28 hi hz hz1 .i64 .i64 _ _ nq rfl rfl rfl rfl (by rw [hz2]; omega) (by unfold maxLen; omega) (Nat.zero_le _) ?_)
  intro w4 hr4 hg4
  obtain ⟨g, hg⟩ : ∃ g, g = w3.heap.size := ⟨_, rfl⟩
  have hw34 : Below w3.heap.size w3 w4 := grown_below hg4 (Nat.le_refl _) fun x e => by cases e
  have HGF : Hid (¬ Foot S A g) := Lib.hid (HM.out.notFoot (by rw [hg]; exact Nat.le_refl _))
  have HGW : Hid (w.heap.size ≤ g) := Lib.hid (by rw [hg]; exact HW.out.size)
  have HGB : Hid (g ≠ b2) := Lib.hid (by have := HB3.out.lt; omega)
  have HF0 : Hid (Filled w S g b2 P A c nq [.slice Aq nq cq, .slice As ns cs] 0 w4) := Lib.hid ⟨List.replicate nq 0, List.length_replicate, fun i h => absurd h (Nat.not_lt_zero _), by rw [← made_ints nq hnq8, hg]; exact hr4, HM.out.below hw34, HW.out.trans (hw34.mono HW.out.size), HB3.out.below hw34 HB3.out.lt⟩
  rw [← hg]
  clear hr4 hg4 hg hw34 hi hz hz1 hz2 HM HB3 HRI HRR HW c30
  go_wp2
  go_loopw [10] (fun s10 wr => ∃ k : Nat, k ≤ nq ∧ s10 = .int .i64 (k : Int) ∧ Filled w S g b2 P A c nq [.slice Aq nq cq, .slice As ns cs] k wr) (fun s10 _ => nq - (intOf s10).toNat)
  case atStart => exact ⟨0, Nat.zero_le _, rfl, HF0.out⟩
  case round =>
    obtain ⟨k, hk, rfl, L, hL, hLk, hrow, hm, hbw, hbx⟩ := hrel
    have HL := Lib.hid hL
    have HLK := Lib.hid hLk
    have HROW := Lib.hid hrow
    have HM := Lib.hid hm
    have HBW := Lib.hid hbw
    have HBX := Lib.hid hbx
    clear hL hLk hrow hm hbw hbx HF0
    by_cases hlt : k < nq
    · have hkp : k < P.ps.length := by have := HNQ.out; omega
      have HST : Hid (stateI P k = (P.proc k).st) := Lib.hid (stateI_nat hkp)
      obtain ⟨z, hz⟩ : ∃ z, z = (P.proc k).st := ⟨_, rfl⟩
      have HZ := Lib.hid hz
      clear hkp hz
      go_wp2_with fail
      refine (State_calls wr S P A c HM.out (by have := HNQ.out; omega) k).mono ?_
      rintro e w5 ⟨rfl, rfl⟩
      rw [HST.out, ← HZ.out]
      obtain ⟨old, hold⟩ : ∃ old, L.getD k 0 = old := ⟨_, rfl⟩
      have HOLD : Hid (wr.cell? ⟨g, k, none⟩ = some (.int .i64 old)) := Lib.hid (row_cell HROW.out (by rw [HL.out]; exact hlt) hold)
      have HFZ : Hid (wr.frozen? ⟨g, k, none⟩ = false) := Lib.hid (row_free HROW.out)
      clear HST hold
      go_wp2_with ((with_reducible show wpList _ _ _ (Oper.mk _ (Op.store _ _ _) _ _ _ _ :: _) _ _); refine wpList_store1 rfl 3 _ _ rfl g k (.int .i64 z) (.int .i64 old) rfl rfl HOLD.out HFZ.out s1Int rfl ?_)
      intro w6 hw6
      have HF6 : Hid (Filled w S g b2 P A c nq [.slice Aq nq cq, .slice As ns cs] (k + 1) w6) := Lib.hid (by
        rw [hw6.out]
        refine ⟨L.set k z, by rw [List.length_set]; exact HL.out, fun i hi => ?_, by rw [List.map_set]; exact HROW.out.set k _, HM.out.apart (grown_setCell _ _ _) (fun x e hf => by injection e with e; rw [← e] at hf; exact HGF.out hf), HBW.out.trans (grown_below (grown_setCell _ _ _) HBW.out.size fun x e => by injection e with e; rw [← e]; exact HGW.out), HBX.out.grown (grown_setCell _ _ _) (fun e => by injection e with e; exact HGB.out e)⟩
        by_cases e : i = k
        · subst e
          rw [← HZ.out]
          simp [List.getD, show i < L.length by rw [HL.out]; exact hlt]
        · rw [← HLK.out i (by omega)]
          simp [List.getD, List.getElem?_set_ne (show k ≠ i from fun e' => e e'.symm)])
      clear hw6 HL HLK HROW HM HBW HBX HOLD HFZ HZ
      go_wp2
      go_roundw
      case rel => exact ⟨k + 1, by omega, by go_num, HF6.out⟩
      case measure => simp [intOf]; omega
    · obtain rfl : k = nq := by omega
      have HLS : Hid (∀ i, i < k → L.getD i 0 = (P.proc i).st) := Lib.hid HLK.out
      clear HLK
      have HFW : Hid (∀ x, Foot S A x → w.heap.size ≤ x) := Lib.hid fun x hx => by have := HFR.out x hx; have := HB2E.out; omega
      have HFB : Hid (¬ Foot S A b2) := Lib.hid fun hx => by have := HFR.out b2 hx; omega
      by_cases hoff : tp < 0 ∨ (k : Int) ≤ tp
      · have HSP : Hid (stopS P tp = (4, P)) := Lib.hid (stopS_off (by have := HNQ.out; omega))
        go_wp2_with fail
        refine (Stop_calls wr S P A c HM.out HI.out tp).mono ?_
        rw [HSP.out]
        rintro e w5 ⟨rfl, A5, c5, hm5, hf5⟩
        have HW5 : Hid (Below w.heap.size w w5) := Lib.hid (hf5.out HBW.out HFW.out (Nat.le_refl _))
        clear hm5 hf5 HM HBW HROW HBX
        rcases hoff with hoff | hoff
        · go_wp2_with fail
          refine (awake_calls _).mono ?_
          rintro e w9 ⟨rfl, hb9⟩
          have HRES : Hid (Below w.heap.size w w9) := Lib.hid (HW5.out.trans (hb9.mono (by exact HW5.out.size)))
          clear hb9
          go_wp2
          go_ret
          exact ⟨rfl, HRES.out⟩
        · have hoff2 : ¬ tp < 0 := by omega
          go_wp2_with fail
          refine (awake_calls _).mono ?_
          rintro e w9 ⟨rfl, hb9⟩
          have HRES : Hid (Below w.heap.size w w9) := Lib.hid (HW5.out.trans (hb9.mono (by exact HW5.out.size)))
          clear hb9
          go_wp2
          go_ret
          exact ⟨rfl, HRES.out⟩
      · obtain ⟨p, rfl⟩ : ∃ p : Nat, tp = p := ⟨tp.toNat, by omega⟩
        have hpk : p < k := by omega
        have hpn : p < P.ps.length := by have := HNQ.out; omega
        have HPN := Lib.hid hpn
        clear hoff
        have hq1 : ¬ ((p : Int) < 0) := by omega
        have hq2 : ¬ ((k : Int) ≤ (p : Int)) := by omega
        have hq3 : ¬ (k ≤ p) := by omega
        by_cases hz : (P.proc p).st = 0
        · have HSP : Hid (stopS P p = (6, P)) := Lib.hid (stopS_dead hpn hz)
          have HS1 : Hid (startS P p = (0, wake P p)) := Lib.hid (startS_dead hpn hz)
          have HS2 : Hid (stateI (wake P p) p = 1) := Lib.hid (by rw [stateI_nat (by rw [wake_n]; exact hpn)]; exact wake_proc hpn)
          have HLP : Hid (L.getD p 0 = 0) := Lib.hid (by rw [HLS.out p hpk, hz])
          clear hpn hz
          go_wp2_with fail
          refine (Stop_calls wr S P A c HM.out HI.out p).mono ?_
          rw [HSP.out]
          rintro e w5 ⟨rfl, A5, c5, hm5, hf5⟩
          have HM5 := Lib.hid hm5
          have HW5 : Hid (Below w.heap.size w w5) := Lib.hid (hf5.out HBW.out HFW.out (Nat.le_refl _))
          have HF5 : Hid (∀ x, Foot S A5 x → w.heap.size ≤ x) := Lib.hid fun x hx => by
            rcases hf5.foot x hx with h | h
            · exact HFW.out x h
            · exact Nat.le_trans HBW.out.size h
          have HROW5 : Hid (Row w5 3 1 (some ⟨g, 0, none⟩) k k (L.map (Value.int .i64))) := Lib.hid (hf5.row HROW.out fun x e => by rw [Option.map_some] at e; injection e with e; rw [← e]; exact HGF.out)
          have hcp : w5.cell? ⟨g, p, none⟩ = some (.int .i64 0) := row_cell HROW5.out (by rw [HL.out]; exact hpk) HLP.out
          clear hm5 hf5 HM HBW HROW HBX HROW5 HSP
          go_wp2_with fail
          refine (Start_calls w5 S P A5 c5 HM5.out HI.out p).mono ?_
          rw [HS1.out]
          rintro e w6 ⟨rfl, A6, c6, hm6, hf6⟩
          have HM6 := Lib.hid hm6
          have HW6 : Hid (Below w.heap.size w w6) := Lib.hid (hf6.out HW5.out HF5.out (Nat.le_refl _))
          clear hm6 hf6 HM5 HW5 hcp HS1
          go_wp2_with fail
          refine (State_calls w6 S (wake P p) A6 c6 HM6.out (by rw [wake_n]; have := HNQ.out; omega) p).mono ?_
          rintro e w7 ⟨rfl, rfl⟩
          rw [HS2.out]
          clear HS2 HM6
          go_wp2_with fail
          refine (awake_calls _).mono ?_
          rintro e w9 ⟨rfl, hb9⟩
          have HRES : Hid (Below w.heap.size w w9) := Lib.hid (HW6.out.trans (hb9.mono (by exact HW6.out.size)))
          clear hb9
          go_wp2
          go_ret
          exact ⟨rfl, HRES.out⟩
        · have HSP : Hid (stopS P p = (0, dorm P p)) := Lib.hid (stopS_on hpn hz)
          have HID : Hid (Inv (dorm P p)) := Lib.hid (by have := stop_inv HI.out (p : Int); rw [HSP.out] at this; exact this)
          have HLP : Hid (∀ i, i < k → i ≠ p → L.getD i 0 = stateI (dorm P p) i) := Lib.hid fun i hi hne => by rw [HLS.out i hi, stateI_nat (by rw [dorm_n]; have := HNQ.out; omega), dorm_proc_ne hne]
          have HLZ : Hid (∃ zz, L.getD p 0 = zz ∧ zz ≠ 0) := Lib.hid ⟨_, HLS.out p hpk, hz⟩
          have HDO : Hid (∀ r, r < ns → p ∉ queueL (dorm P p) r) := Lib.hid fun r hr => by
            have hr2 : r < (dorm P p).rs.length := by rw [dorm_m]; have := HNS.out; omega
            unfold queueL isR
            simp [hr2]
            exact dorm_out HID.out hpn r hr2
          have HS0 : Hid (stateI (dorm P p) p = 0) := Lib.hid (by rw [stateI_nat (by rw [dorm_n]; exact hpn)]; exact dorm_proc hpn)
          have HS1 : Hid (startS (dorm P p) p = (0, wake (dorm P p) p)) := Lib.hid (startS_dead (by rw [dorm_n]; exact hpn) (dorm_proc hpn))
          have HS2 : Hid (startS (wake (dorm P p) p) p = (1, wake (dorm P p) p)) := Lib.hid (startS_on (by rw [wake_n, dorm_n]; exact hpn) (by rw [wake_proc (by rw [dorm_n]; exact hpn)]; decide))
          have HIW : Hid (Inv (wake (dorm P p) p)) := Lib.hid (by have := start_inv HID.out (p : Int); rw [HS1.out] at this; exact this)
          have HND : Hid ((dorm P p).ps.length = k) := Lib.hid (by rw [dorm_n]; exact HNQ.out.2.1)
          clear hpn hz
          go_wp2_with fail
          refine (Stop_calls wr S P A c HM.out HI.out p).mono ?_
          rw [HSP.out]
          rintro e w5 ⟨rfl, A5, c5, hm5, hf5⟩
          obtain ⟨PD, hPD⟩ : ∃ X, X = dorm P p := ⟨_, rfl⟩
          rw [← hPD] at hm5 HID HLP HDO HS0 HS1 HS2 HIW HND
          have HM5 := Lib.hid hm5
          have HW5 : Hid (Below w.heap.size w w5) := Lib.hid (hf5.out HBW.out HFW.out (Nat.le_refl _))
          have HF5 : Hid (∀ x, Foot S A5 x → w.heap.size ≤ x) := Lib.hid fun x hx => by
            rcases hf5.foot x hx with h | h
            · exact HFW.out x h
            · exact Nat.le_trans HBW.out.size h
          have HROW5 : Hid (Row w5 3 1 (some ⟨g, 0, none⟩) k k (L.map (Value.int .i64))) := Lib.hid (hf5.row HROW.out fun x e => by rw [Option.map_some] at e; injection e with e; rw [← e]; exact HGF.out)
          have HBX5 : Hid (Blk w5 b2 [.slice Aq k cq, .slice As ns cs]) := Lib.hid (hf5.blk HBX.out HFB.out)
          have HROWC : Hid (∀ i z, i < k → L.getD i 0 = z → w5.cell? ⟨g, i, none⟩ = some (.int .i64 z)) := Lib.hid fun i z hi hz => row_cell HROW5.out (by rw [HL.out]; exact hi) hz
          obtain ⟨zp, hzp, hzn⟩ := HLZ.out
          have hcp : w5.cell? ⟨g, p, none⟩ = some (.int .i64 zp) := HROWC.out p zp hpk hzp
          have hzn1 : (zp == 0) = false := by simpa using hzn
          clear hm5 hf5 HM HBW HROW HBX HROW5 HSP hPD hzp hzn HI HLZ
          go_wp2
          clear hcp hzn1
          go_loopw [12] (fun s12 wx => ∃ i : Nat, i ≤ k ∧ s12 = .int .i64 (i : Int) ∧ ∃ d, wx = w5.drewN d) (fun s12 _ => k - (intOf s12).toNat)
          case atStart => exact ⟨0, Nat.zero_le _, rfl, 0, rfl⟩
          case round =>
            obtain ⟨i, hi, rfl, d, rfl⟩ := hrel
            by_cases hlt2 : i < k
            · by_cases hip : i = p
              · subst hip
                have hne : ((i : Int) != (i : Int)) = false := by simp
                go_wp2_with fail
                go_quiet (fail)
                go_wp2
                go_roundw
                case rel => exact ⟨i + 1, by omega, by go_num, _, rfl⟩
                case measure => simp [intOf]; omega
              · obtain ⟨z, hz⟩ : ∃ z, z = stateI PD i := ⟨_, rfl⟩
                have hcp : w5.cell? ⟨g, i, none⟩ = some (.int .i64 z) := HROWC.out i z hlt2 (by rw [hz]; exact HLP.out i hlt2 hip)
                have HNE : Hid (((i : Int) != (p : Int)) = true) := Lib.hid (by simp; omega)
                have CQ : Hid (∀ ww : World, (∃ n, ww = w5.drewN n) → ww.cell? ⟨g, i, none⟩ = some (.int .i64 z)) := Lib.hid fun ww hn => by
                  obtain ⟨n, rfl⟩ := hn
                  exact hcp
                have QS : Hid (∀ (L : Nat → Bool) (ww : World), (∃ n, ww = w5.drewN n) → L 6 = false → Calls Try.prog 19 #[.pointer (some ⟨S, 0, none⟩), .int .i64 (i : Int)] ww fun e w' => ∃ v, e = .returned v ∧ v = .int .i64 z ∧ ∃ n, w' = w5.drewN n) := Lib.hid fun L ww hn _ => by
                  obtain ⟨n, rfl⟩ := hn
                  refine (State_calls (w5.drewN n) S PD A5 c5 (HM5.out.below ⟨rfl, rfl, rfl, Nat.le_refl _, fun _ _ => rfl⟩) (by have := HND.out; omega) i).mono ?_
                  rintro e w' ⟨rfl, rfl⟩
                  exact ⟨_, rfl, by rw [hz], n, rfl⟩
                clear hz hcp
                go_wp2_with fail
                refine region_vals [.int .i64 (i : Int), .int .i64 (p : Int), .bool true, .bool true, .pointer (some ⟨S, 0, none⟩), .int .i64 (i : Int), .int .i64 z, .slice (some ⟨g, 0, none⟩) k k, .int .i64 (i : Int), .pointer (some ⟨g, i, none⟩), .int .i64 z, .bool false, .bool false] [some 82, some 83, some 84, some 85, some 86, some 87, some 88, some 89, some 90, some 91, some 92, some 93, some 94] (fun _ ww => ∃ n, ww = w5.drewN n) (by kernel_rfl) (by kernel_rfl) (by kernel_rfl) rfl rfl ⟨d + 1, rfl⟩ (fun ii hii => ?_) ?_
                · match ii, hii with
                  | 0, _ => exact vstep_first rfl (vwant_none rfl) (fun _ _ h => h) 12 (Or.inl rfl) (by kernel_rfl) rfl
                  | 1, _ => exact vstep_first rfl (vwant_none rfl) (fun _ _ h => h) 2 (Or.inl rfl) (by kernel_rfl) rfl
                  | 2, _ => exact vstep_pure rfl (vwant_none rfl) (fun _ _ h => h) (fun LL aa ww cc => ⟨.bool true, by have e0 : aa.tmps.getD 82 undef = .int .i64 (i : Int) := cc.slot 0 82 (by kernel_rfl) rfl; have e1 : aa.tmps.getD 83 undef = .int .i64 (p : Int) := cc.slot 1 83 (by kernel_rfl) rfl; have q := HNE.out; simp only [execOp, Act.eval, e0, e1]; go_simp, rfl⟩)
                  | 3, _ => exact vstep_copy rfl (vwant_none rfl) (fun _ _ h => h) 84 (Or.inl rfl) 2 (by kernel_rfl) rfl (fun _ h => h)
                  | 4, _ => exact vstep_first rfl (vwant 3 true 85 rfl (by kernel_rfl) rfl (fun _ h => h) (by kernel_rfl)) (fun _ _ h => h) 7 (Or.inl rfl) (by kernel_rfl) rfl
                  | 5, _ => exact vstep_first rfl (vwant 3 true 85 rfl (by kernel_rfl) rfl (fun _ h => h) (by kernel_rfl)) (fun _ _ h => h) 12 (Or.inl rfl) (by kernel_rfl) rfl
                  | 6, _ => exact vstep_call rfl (vwant 3 true 85 rfl (by kernel_rfl) rfl (fun _ h => h) (by kernel_rfl)) _ _ _ rfl (enters_of Try.func19 (by kernel_rfl) rfl) (fun LL aa ww cc => by have e0 : aa.tmps.getD 86 undef = .pointer (some ⟨S, 0, none⟩) := cc.slot 4 86 (by kernel_rfl) rfl; have e1 : aa.tmps.getD 87 undef = .int .i64 (i : Int) := cc.slot 5 87 (by kernel_rfl) rfl; simp only [List.map_toArray, List.map_cons, List.map_nil, Act.eval, e0, e1]; exact (QS.out) LL ww cc.world cc.fresh)
                  | 7, _ => exact vstep_first rfl (vwant 3 true 85 rfl (by kernel_rfl) rfl (fun _ h => h) (by kernel_rfl)) (fun _ _ h => h) 9 (Or.inl rfl) (by kernel_rfl) rfl
                  | 8, _ => exact vstep_first rfl (vwant 3 true 85 rfl (by kernel_rfl) rfl (fun _ h => h) (by kernel_rfl)) (fun _ _ h => h) 12 (Or.inl rfl) (by kernel_rfl) rfl
                  | 9, _ => exact vstep_pure rfl (vwant 3 true 85 rfl (by kernel_rfl) rfl (fun _ h => h) (by kernel_rfl)) (fun _ _ h => h) (fun LL aa ww cc => ⟨.pointer (some ⟨g, i, none⟩), by have e0 : aa.tmps.getD 89 undef = .slice (some ⟨g, 0, none⟩) k k := cc.slot 7 89 (by kernel_rfl) rfl; have e1 : aa.tmps.getD 90 undef = .int .i64 (i : Int) := cc.slot 8 90 (by kernel_rfl) rfl; simp only [execOp, Act.eval, e0, e1]; go_simp, rfl⟩)
                  | 10, _ => exact vstep_pure rfl (vwant 3 true 85 rfl (by kernel_rfl) rfl (fun _ h => h) (by kernel_rfl)) (fun _ _ h => h) (fun LL aa ww cc => ⟨.int .i64 z, by have e0 : aa.tmps.getD 91 undef = .pointer (some ⟨g, i, none⟩) := cc.slot 9 91 (by kernel_rfl) rfl; have q := CQ.out _ cc.world; simp only [execOp, Act.eval, e0]; go_simp, rfl⟩)
                  | 11, _ => exact vstep_pure rfl (vwant 3 true 85 rfl (by kernel_rfl) rfl (fun _ h => h) (by kernel_rfl)) (fun _ _ h => h) (fun LL aa ww cc => ⟨.bool false, by have e0 : aa.tmps.getD 88 undef = .int .i64 z := cc.slot 6 88 (by kernel_rfl) rfl; have e1 : aa.tmps.getD 92 undef = .int .i64 z := cc.slot 10 92 (by kernel_rfl) rfl; have q : (z != z) = false := (by simp); simp only [execOp, Act.eval, e0, e1]; go_simp, rfl⟩)
                  | 12, _ => exact vstep_pure rfl (vwant_none rfl) (fun _ _ h => h) (fun LL aa ww cc => ⟨.bool false, by have e0 : aa.tmps.getD 85 undef = .bool true := cc.slot 3 85 (by kernel_rfl) rfl; have e1 : aa.tmps.getD 93 undef = .bool false := cc.slot 11 93 (by kernel_rfl) rfl; simp only [execOp, Act.eval, e0, e1]; go_simp, rfl⟩)
                  | n + 13, h => exact absurd h (by show ¬ (n + 13 < 13); omega)
                · intro L9 w6 _ hj6
                  obtain ⟨d6, rfl⟩ := hj6
                  clear QS CQ HNE
                  refine (by assumption : ∀ (a : Act) (w : World), Code.wp _ _ _ a w → _) _ _ ?_
                  simp only [List.zip_cons_cons, List.zip_nil_right, putsL]
                  go_simp
                  go_wp2
                  go_roundw
                  case rel => exact ⟨i + 1, by omega, by go_num, _, rfl⟩
                  case measure => simp [intOf]; omega
            · have HQ0 : Hid (Below w5.heap.size w5 (w5.drewN d)) := Lib.hid ⟨rfl, rfl, rfl, Nat.le_refl _, fun _ _ => rfl⟩
              clear HROWC HLP
              go_wp2
              go_loopw [13] (fun s13 wq => ∃ r : Nat, r ≤ ns ∧ s13 = .int .i64 (r : Int) ∧ Hid (Below w5.heap.size w5 wq)) (fun s13 _ => ns - (intOf s13).toNat)
              case atStart => exact ⟨0, Nat.zero_le _, rfl, HQ0⟩
              case round =>
                obtain ⟨r, hr, rfl, HBY⟩ := hrel
                have c31 : wr.cell? ⟨b2, 1, none⟩ = some (.slice As ns cs) := (HBX5.out.below HBY.out HBX5.out.lt).cell rfl
                have HMY : Hid (SetM wr S PD A5 c5) := Lib.hid (HM5.out.below HBY.out)
                by_cases hlt3 : r < ns
                · obtain ⟨ql, hql⟩ : ∃ q, q = queueL PD r := ⟨_, rfl⟩
                  have HNI : Hid (p ∉ ql) := Lib.hid (by rw [hql]; exact HDO.out r hlt3)
                  have HQL := Lib.hid hql
                  clear hql
                  go_wp2_with fail
                  refine (Queue_calls wr S PD A5 c5 HMY.out HID.out r).mono ?_
                  rw [← HQL.out]
                  rintro e w7 ⟨A7, c7, rfl, hri, hb7, _⟩
                  obtain ⟨lq, hlq⟩ : ∃ n, n = ql.length := ⟨_, rfl⟩
                  have HRI7 := Lib.hid hri
                  have HB7 : Hid (Below w5.heap.size w5 w7) := Lib.hid (HBY.out.trans (hb7.mono HBY.out.size))
                  have HLQ := Lib.hid hlq
                  have hlq8 : lq ≤ 100000 := by rw [hlq, HQL.out]; exact queue_len HID.out r
                  rw [← hlq]
                  clear hri hb7 hlq c31 HMY HBY
                  go_wp2
                  go_loopw [15] (fun s15 wz => ∃ i : Nat, i ≤ lq ∧ s15 = .int .i64 (i : Int) ∧ w7 = wz) (fun s15 _ => lq - (intOf s15).toNat)
                  case atStart => exact ⟨0, Nat.zero_le _, rfl, (by first | trivial | rfl)⟩
                  case round =>
                    obtain ⟨i, hi, rfl, rfl⟩ := hrel
                    by_cases hlt4 : i < lq
                    · have hil : i < (ints ql).length := by rw [ints_len, ← HLQ.out]; exact hlt4
                      obtain ⟨b, o, hA, _, hc⟩ := HRI7.out.get hil
                      have hil2 : i < ql.length := by rw [← HLQ.out]; exact hlt4
                      obtain ⟨x, hx⟩ : ∃ x : Nat, x = ql[i] := ⟨_, rfl⟩
                      have hci : w7.cell? ⟨b, o + i, none⟩ = some (.int .i64 (x : Int)) := by rw [hc, hx]; simp [ints]
                      have hxp : ((x : Int) == (p : Int)) = false := by
                        have : x ≠ p := fun e => HNI.out (by rw [← e, hx]; exact List.getElem_mem hil2)
                        simp; omega
                      have HAA := Lib.hid hA
                      rw [hA]
                      clear hil hil2 hA hc hx
                      go_wp2
                      go_roundw
                      case rel => exact ⟨i + 1, by omega, by go_num, (by first | trivial | rfl)⟩
                      case measure => simp [intOf]; omega
                    · clear HRI7
                      go_wp2
                      go_roundw
                      case rel => exact ⟨r + 1, by omega, by go_num, HB7⟩
                      case measure => simp [intOf]; omega
                · have HWY : Hid (Below w.heap.size w wr) := Lib.hid (HW5.out.trans (HBY.out.mono HW5.out.size))
                  clear HM5 HW5 HBX5 HBY HQ0
                  go_wp2_with fail
                  refine (State_calls wr S PD A5 c5 HMY.out (by have := HND.out; omega) p).mono ?_
                  rintro e w8 ⟨rfl, rfl⟩
                  rw [HS0.out]
                  clear HS0
                  go_wp2_with fail
                  refine (Start_calls wr S PD A5 c5 HMY.out HID.out p).mono ?_
                  rw [HS1.out]
                  rintro e w9 ⟨rfl, A9, c9, hm9, hf9⟩
                  have HM9 := Lib.hid hm9
                  have HW9 : Hid (Below w.heap.size w w9) := Lib.hid (hf9.out HWY.out HF5.out (Nat.le_refl _))
                  have HF9 : Hid (∀ x, Foot S A9 x → w.heap.size ≤ x) := Lib.hid fun x hx => by
                    rcases hf9.foot x hx with h | h
                    · exact HF5.out x h
                    · exact Nat.le_trans HWY.out.size h
                  clear hm9 hf9 HMY HWY HS1
                  go_wp2_with fail
                  refine (Start_calls w9 S (wake PD p) A9 c9 HM9.out HIW.out p).mono ?_
                  rw [HS2.out]
                  rintro e w10 ⟨rfl, A10, c10, hm10, hf10⟩
                  have HW10 : Hid (Below w.heap.size w w10) := Lib.hid (hf10.out HW9.out HF9.out (Nat.le_refl _))
                  clear hm10 hf10 HM9 HW9 HS2
                  go_wp2_with fail
                  refine (awake_calls _).mono ?_
                  rintro e w99 ⟨rfl, hb9⟩
                  have HRES : Hid (Below w.heap.size w w99) := Lib.hid (HW10.out.trans (hb9.mono (by exact HW10.out.size)))
                  clear hb9
                  go_wp2
                  go_ret
                  exact ⟨rfl, HRES.out⟩
end Go.Proofs.Ytgeffkdobnipgaa
