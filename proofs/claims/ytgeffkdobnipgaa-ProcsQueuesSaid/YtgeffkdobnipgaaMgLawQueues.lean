/- ProcsQueues: the walk. -/
import Derived.Test.YtgeffkdobnipgaaMgQueuesPlain
import Derived.Test.YtgeffkdobnipgaaMgLawStops
namespace Go.Proofs.Ytgeffkdobnipgaa
open Go.RowKit Nac Nac.Procs
theorem ri_far {w w' : World} {B g : Nat} {A : Option Addr} {l : List Int} (h : RI w B A l) (hB : B ≤ w.heap.size) (hne : ∀ b, A.map (·.block) = some b → b ≠ g) (hg : w.grownBy w' (some g)) : RI w' B A l := fun hn => by
  obtain ⟨b', o, hA, hlt, hc⟩ := h hn
  have hne : b' ≠ g := hne b' (by rw [hA]; rfl)
  exact ⟨b', o, hA, hlt, fun j hj => (grown_cell hg (Nat.lt_of_lt_of_le hlt hB) (fun e => hne (by injection e))).trans (hc j hj)⟩
/-- the row of how often -/
def CntR (w3 : World) (g nq : Nat) (P : PSet) (r : Nat) (q : List Nat) (i : Nat) (wr : World) : Prop := ∃ L : List Int, L.length = nq ∧ (∀ x, x < nq → L.getD x 0 = ((cqN P r x + (q.take i).count x : Nat) : Int)) ∧ Row wr 3 1 (some ⟨g, 0, none⟩) nq nq (L.map (Value.int .i64)) ∧ Below w3.heap.size w3 wr
theorem queueL_nat {P : PSet} {r : Nat} (hr : r < P.rs.length) : queueL P r = (P.rsc r).q := by
  unfold queueL isR
  simp [hr]
theorem P0_rsc (prs : List Int) (rs : List RIn) (r : Nat) (hr : r < rs.length) : ((P0 prs rs).rsc r).kind = rs[r].kind ∧ ((P0 prs rs).rsc r).most = rs[r].most := by
  simp [P0, PSet.rsc, rsc0, List.getD, hr]
set_option maxRecDepth 100000 in
set_option maxHeartbeats 2000000 in
theorem queues_calls (w : World) (Ap Ar Aa : Option Addr) (cp cr ca : Nat) (lp : List Int) (lr : List RIn) (la : List ActI) (hp : RG w w.heap.size Ap 1 c1I lp) (hr : RG w w.heap.size Ar 3 c3R lr) (ha : RG w w.heap.size Aa 4 c4A la)
    (hpc : lp.length ≤ cp) (hrc : lr.length ≤ cr) (hp8 : lp.length ≤ 140737488351232) (hr8 : lr.length ≤ 140737488351232) (ha8 : la.length ≤ 140737488351232) :
    Calls Try.prog 8 #[.agg #[.slice Ap lp.length cp, .slice Ar lr.length cr], .slice Aa la.length ca] w (RetBb w true) := by
  obtain ⟨np, hnp⟩ : ∃ n, n = lp.length := ⟨_, rfl⟩
  obtain ⟨nr, hnr⟩ : ∃ n, n = lr.length := ⟨_, rfl⟩
  obtain ⟨na, hna⟩ : ∃ n, n = la.length := ⟨_, rfl⟩
  have HPL : Hid (∀ (w' : World), Below w.heap.size w w' → Calls Try.prog 18 #[.agg #[.slice Ap np cp, .slice Ar nr cr], .slice Aa na ca] w' (RetPl w')) := Lib.hid fun w' hb => by
    rw [hnp, hnr, hna]
    exact played_calls w' Ap Ar Aa cp cr ca lp lr la (RG.mono (hp.below hb) hb.size) (RG.mono (hr.below hb) hb.size) (RG.mono (ha.below hb) hb.size) hpc hrc hp8 hr8 ha8
  rw [← hnp, ← hnr, ← hna]
  clear hp hr ha hpc hrc hp8 hr8 ha8 hnp hnr hna
  go_enter Try.func8, Try.ntmps8
  go_wp2_with (first | ((with_reducible show wpList _ _ _ (Oper.mk _ (Op.box 43 _) _ _ _ _ :: _) _ _); refine wpList_boxS (T := 43) rfl _ rfl [.slice Ap np cp, .slice Ar nr cr] rfl ?_) | fail)
  intro w1 hb1 hg1 hs1
  obtain ⟨b2, hb2⟩ : ∃ b, b = w.heap.size := ⟨_, rfl⟩
  rw [← hb2] at hb1 ⊢
  have HB1 := Lib.hid hb1
  have HG1 : Hid (Below w.heap.size w w1) := Lib.hid (grown_below hg1 (Nat.le_refl _) fun k e => by cases e)
  have HB2E : Hid (b2 = w.heap.size ∧ w1.heap.size = b2 + 1) := Lib.hid ⟨hb2, by omega⟩
  clear hb1 hg1 hs1 hb2
  go_wp2_with ((with_reducible show wpList _ _ _ (Oper.mk _ (Op.load 43 _) _ _ _ _ :: _) _ _); refine wpList_loadS sShp rfl _ rfl b2 [.slice Ap np cp, .slice Ar nr cr] rfl HB1.out rfl ?_)
  refine (HPL.out w1 HG1.out).mono ?_
  rintro e w2 ⟨S, P, A, c, prs, rs, Aq, As, nq, ns, cq, cs, rfl, hok, hI, hs, hm, hnq, hns, hri, hrr, hfr, hbw⟩
  have HB22 : Hid (Blk w2 b2 [.slice Ap np cp, .slice Ar nr cr]) := Lib.hid (HB1.out.below hbw HB1.out.lt)
  have HM2 := Lib.hid hm
  have HRI2 := Lib.hid hri
  have HRR2 := Lib.hid hrr
  have HFR : Hid (∀ k, Foot S A k → b2 < k) := Lib.hid fun k hk => by have := hfr k hk; have := HB2E.out; omega
  have HW2 : Hid (Below w.heap.size w w2) := Lib.hid (HG1.out.trans (hbw.mono HG1.out.size))
  have HOK := Lib.hid hok
  have HI := Lib.hid hI
  have HSM := Lib.hid hs
  have HNQ : Hid (nq = prs.length ∧ P.ps.length = nq ∧ nq ≤ 8 ∧ 1 ≤ nq) := Lib.hid ⟨hnq, by rw [hs.n, hnq]; simp [P0], by rw [hnq]; exact hok.n8, by rw [hnq]; exact hok.n1⟩
  have HNS : Hid (ns = rs.length ∧ P.rs.length = ns ∧ ns ≤ 8) := Lib.hid ⟨hns, by rw [hs.m, hns]; simp [P0], by rw [hns]; exact hok.m8⟩
  have hnq8 : nq ≤ 8 := HNQ.out.2.2.1
  have hns8 : ns ≤ 8 := HNS.out.2.2
  clear hok hI hs hm hnq hns hri hrr hfr hbw HPL HB1
  go_wp2_with ((with_reducible show wpList _ _ _ (Oper.mk _ (Op.store 43 _ _) _ _ _ _ :: _) _ _); refine wpList_storeS sShp rfl _ _ rfl b2 [.slice Ap np cp, .slice Ar nr cr] [.slice Aq nq cq, .slice As ns cs] rfl rfl HB22.out rfl rfl (shp_one _ _ _ _ _ _) ?_)
  intro w3 hb3 hg3
  have HB3 := Lib.hid hb3
  have HM : Hid (SetM w3 S P A c) := Lib.hid (HM2.out.apart hg3 fun k e hf => by injection e with e; have := HFR.out k hf; omega)
  have HRI : Hid (RI w3 w3.heap.size Aq prs) := Lib.hid ((HRI2.out.other (Nat.le_refl _) HB22.out slices_no_int hg3).mono hg3.size)
  have HRR : Hid (RR w3 w3.heap.size As rs) := Lib.hid ((HRR2.out.other (Nat.le_refl _) HB22.out slices_no_int hg3).mono hg3.size)
  have HW : Hid (Below w.heap.size w w3) := Lib.hid (HW2.out.trans (grown_below hg3 HW2.out.size fun k e => by injection e with e; have := HB2E.out; omega))
  clear hb3 hg3 HB22 HM2 HRI2 HRR2 HW2
  have c20 : w3.cell? ⟨b2, 0, none⟩ = some (.slice Aq nq cq) := HB3.out.cell rfl
  obtain ⟨ti, hi, hz, hz1, hz2⟩ := info_parts Try.infoIt
  go_wp2_with ((with_reducible show wpList _ _ _ (Oper.mk _ (Op.makeSlice _ _ _) _ _ _ _ :: _) _ _); refine wpList_make_full w3 rfl _ _ 28 rfl 0 3 ti (.int .i64 0) 1 Try.underlying28 hi hz hz1 .i64 .i64 _ _ nq rfl rfl rfl rfl (by rw [hz2]; omega) (by unfold maxLen; omega) (Nat.zero_le _) ?_)
  intro w4 hr4 hg4
  obtain ⟨g, hg⟩ : ∃ g, g = w3.heap.size := ⟨_, rfl⟩
  have hw34 : Below w3.heap.size w3 w4 := grown_below hg4 (Nat.le_refl _) fun x e => by cases e
  have HGE := Lib.hid hg
  have HF0 : Hid (CntR w3 g nq P 0 [] 0 w4) := Lib.hid ⟨List.replicate nq 0, List.length_replicate, fun x hx => by simp [cqN, List.getD, hx], by rw [← made_ints nq hnq8, hg]; exact hr4, hw34⟩
  rw [← hg]
  clear hr4 hg4 hg hw34 hi hz hz1 hz2 HRI c20
  go_wp2
  go_loopw [7] (fun s7 wr => ∃ r : Nat, r ≤ ns ∧ s7 = .int .i64 (r : Int) ∧ CntR w3 g nq P r [] 0 wr) (fun s7 _ => ns - (intOf s7).toNat)
  case atStart => exact ⟨0, Nat.zero_le _, rfl, HF0.out⟩
  case round =>
    obtain ⟨r, hr, rfl, L, hL, hLk, hrow, hbw⟩ := hrel
    have HL := Lib.hid hL
    have HLK := Lib.hid hLk
    have HROW := Lib.hid hrow
    have HBW := Lib.hid hbw
    have c21 : wr.cell? ⟨b2, 1, none⟩ = some (.slice As ns cs) := (HB3.out.below hbw HB3.out.lt).cell rfl
    have HMR : Hid (SetM wr S P A c) := Lib.hid (HM.out.below hbw)
    clear hL hLk hrow hbw HF0
    by_cases hlt : r < ns
    · have hrp : r < P.rs.length := by have := HNS.out; omega
      obtain ⟨ql, hql⟩ : ∃ q, q = (P.rsc r).q := ⟨_, rfl⟩
      have HQL := Lib.hid hql
      have HQE : Hid (queueL P r = ql) := Lib.hid (by rw [hql]; exact queueL_nat hrp)
      have HQI : Hid (∀ x ∈ ql, x < nq ∧ stateI P x = 2) := Lib.hid fun x hx => by
        have h1 := (HI.out.qin r hrp x).1 (by rw [← hql]; exact hx)
        exact ⟨by have := HNQ.out; omega, by rw [stateI_nat h1.1]; exact h1.2.1⟩
      have HRP := Lib.hid hrp
      clear hql hrp
      go_wp2_with fail
      refine (Queue_calls wr S P A c HMR.out HI.out r).mono ?_
      rw [HQE.out]
      rintro e w7 ⟨A7, c7, rfl, hri, hb7, hfr7⟩
      obtain ⟨lq, hlq⟩ : ∃ n, n = ql.length := ⟨_, rfl⟩
      have HLQ := Lib.hid hlq
      have hlq8 : lq ≤ 8 := by rw [hlq, HQL.out]; exact HI.out.qlen r
      have HB7 : Hid (Below w3.heap.size w3 w7) := Lib.hid (HBW.out.trans (hb7.mono HBW.out.size))
      have HN7 : Hid (∀ b, A7.map (·.block) = some b → b ≠ g) := Lib.hid fun b hb => by have h1 := hfr7 b hb; have h2 := HROW.out.lt g rfl; omega
      have HC0 : Hid (CntR w3 g nq P r ql 0 w7) := Lib.hid ⟨L, HL.out, fun x hx => by rw [HLK.out x hx]; simp, HROW.out.below hb7, HB7.out⟩
      have HRI0 : Hid (RI w7 w7.heap.size A7 (ints ql)) := Lib.hid hri
      rw [← hlq]
      clear hri hb7 hlq hfr7 c21 HMR HBW HROW HL HLK HQE
      go_wp2
      go_loopw [9] (fun s9 wz => ∃ i : Nat, i ≤ lq ∧ s9 = .int .i64 (i : Int) ∧ CntR w3 g nq P r ql i wz ∧ Hid (RI wz w7.heap.size A7 (ints ql)) ∧ w7.heap.size ≤ wz.heap.size) (fun s9 _ => lq - (intOf s9).toNat)
      case atStart => exact ⟨0, Nat.zero_le _, rfl, HC0.out, HRI0, Nat.le_refl _⟩
      case round =>
        obtain ⟨i, hi, rfl, ⟨L, hL, hLk, hrow, hbw⟩, HRIZ, hsz⟩ := hrel
        have HL := Lib.hid hL
        have HLK := Lib.hid hLk
        have HROW := Lib.hid hrow
        have HBW := Lib.hid hbw
        have HSZ := Lib.hid hsz
        clear hL hLk hrow hbw hsz HC0 HRI0
        by_cases hlt2 : i < lq
        · have hil : i < (ints ql).length := by rw [ints_len, ← HLQ.out]; exact hlt2
          have hil2 : i < ql.length := by rw [← HLQ.out]; exact hlt2
          obtain ⟨b, o, hA, hbz, hc⟩ := HRIZ.out.get hil
          obtain ⟨x, hx⟩ : ∃ x : Nat, x = ql[i] := ⟨_, rfl⟩
          have hci : wr.cell? ⟨b, o + i, none⟩ = some (.int .i64 (x : Int)) := by rw [hc, hx]; simp [ints]
          have hxq := HQI.out x (by rw [hx]; exact List.getElem_mem hil2)
          obtain ⟨hxn, hxs⟩ := hxq
          have HXS := Lib.hid hxs
          have HMZ : Hid (SetM wr S P A c) := Lib.hid (HM.out.below HBW.out)
          obtain ⟨v, hv⟩ : ∃ v, v = L.getD x 0 := ⟨_, rfl⟩
          have hck : wr.cell? ⟨g, x, none⟩ = some (.int .i64 v) := row_cell HROW.out (by rw [HL.out]; exact hxn) hv.symm
          have HFZ : Hid (wr.frozen? ⟨g, x, none⟩ = false) := Lib.hid (row_free HROW.out)
          have hvb : 0 ≤ v ∧ v ≤ 100 := by
            rw [hv, HLK.out x hxn]
            have h1 := (cqN_bound HI.out x r (by have := HRP.out; omega)).1
            have h2 : (ql.take i).count x ≤ (ql.take i).length := List.count_le_length
            have h3 : (ql.take i).length ≤ i := by simp; omega
            omega
          obtain ⟨hv0, hv1⟩ := hvb
          have HX : Hid (∃ h : i < ql.length, ql[i] = x) := Lib.hid ⟨hil2, hx.symm⟩
          have HV := Lib.hid hv
          have HAA := Lib.hid hA
          rw [hA]
          clear hil hil2 hA hc hx hxs hv hbz
          go_wp2_with fail
          refine (State_calls wr S P A c HMZ.out (by have := HNQ.out; omega) x).mono ?_
          rintro e w8 ⟨rfl, rfl⟩
          rw [HXS.out]
          have HCK := Lib.hid hck
          clear HMZ HXS
          go_wp2_with ((with_reducible show wpList _ _ _ (Oper.mk _ (Op.store _ _ _) _ _ _ _ :: _) _ _); refine wpList_store1 rfl 3 _ _ rfl g x (.int .i64 (v + 1)) _ rfl rfl HCK.out HFZ.out s1Int rfl ?_)
          intro w9 hw9
          have HC9 : Hid (CntR w3 g nq P r ql (i + 1) w9 ∧ RI w9 w7.heap.size A7 (ints ql) ∧ w7.heap.size ≤ w9.heap.size) := Lib.hid (by
            rw [hw9.out]
            refine ⟨⟨L.set x (v + 1), by rw [List.length_set]; exact HL.out, fun y hy => ?_, by rw [List.map_set]; exact HROW.out.set x _, HBW.out.trans (grown_below (grown_setCell _ _ _) HBW.out.size fun z e => by injection e with e; rw [← e, HGE.out]; exact Nat.le_refl _)⟩, ri_far HRIZ.out HSZ.out HN7.out (grown_setCell _ _ _), Nat.le_trans HSZ.out (grown_setCell _ _ _).size⟩
            obtain ⟨h7, e7⟩ := HX.out
            rw [count_take_succ h7, e7]
            have h8 := HLK.out y hy
            by_cases e : y = x
            · subst e
              rw [if_pos rfl]
              rw [← HV.out] at h8
              simp only [List.getD, List.getElem?_set_self (show y < L.length by rw [HL.out]; exact hy), Option.getD_some]
              omega
            · rw [if_neg (fun e' => e e'.symm)]
              simp only [List.getD, List.getElem?_set_ne (show x ≠ y from fun e' => e e'.symm)]
              rw [Nat.add_zero]
              exact h8)
          clear hw9 HL HLK HROW HBW HRIZ HSZ HCK HFZ HX HV hck hci
          go_wp2
          go_roundw
          case rel => exact ⟨i + 1, by omega, by go_num, HC9.out.1, (by rw [← HAA.out]; exact Lib.hid HC9.out.2.1), HC9.out.2.2⟩
          case measure => simp [intOf]; omega
        · obtain rfl : i = lq := by omega
          have HC1 : Hid (CntR w3 g nq P (r + 1) [] 0 wr) := Lib.hid ⟨L, HL.out, fun x hx => by rw [HLK.out x hx, cqN_succ, ← HQL.out, HLQ.out, List.take_length]; simp, HROW.out, HBW.out⟩
          have HMZ : Hid (SetM wr S P A c) := Lib.hid (HM.out.below HBW.out)
          have HBZ : Hid (Blk wr b2 [.slice Aq nq cq, .slice As ns cs]) := Lib.hid (HB3.out.below HBW.out HB3.out.lt)
          have hrs : r < rs.length := by have := HNS.out; omega
          obtain ⟨b, o, hA, hbz, hc0, hc1, hc2⟩ := (HRR.out.below HBW.out).get hrs
          obtain ⟨ki, hki⟩ : ∃ x, x = rs[r].kind := ⟨_, rfl⟩
          obtain ⟨mo, hmo⟩ : ∃ x, x = rs[r].most := ⟨_, rfl⟩
          obtain ⟨cn, hcn⟩ : ∃ x, x = countI P r := ⟨_, rfl⟩
          rw [← hki] at hc0
          rw [← hmo] at hc2
          have hP := P0_rsc prs rs r hrs
          have hkm : (P.rsc r).kind = ki ∧ (P.rsc r).most = mo := by rw [HSM.out.kind r, HSM.out.most r, hP.1, hP.2]; exact ⟨hki.symm, hmo.symm⟩
          have hcc : (P.rsc r).count = cn := by rw [hcn]; exact (countI_nat HRP.out).symm
          have hcb := HI.out.cnt r HRP.out
          rw [hkm.2, hcc] at hcb
          obtain ⟨hcb0, hcb1⟩ := hcb
          have hn0 : ¬ cn < 0 := by omega
          have hn1 : ¬ mo < cn := by omega
          have hcase : i = 0 ∨ (0 < i ∧ cn = 0) ∨ (0 < i ∧ cn ≠ 0 ∧ ki = 2 ∧ cn = mo) := by
            by_cases h0 : i = 0
            · exact .inl h0
            · right
              have hne : (P.rsc r).q ≠ [] := by rw [← HQL.out]; intro e; have := HLQ.out; rw [e] at this; simp at this; omega
              rcases HI.out.emp r HRP.out (by simp) hne with h1 | h1
              · exact .inl ⟨by omega, by rw [← hcc]; exact h1⟩
              · by_cases h2 : cn = 0
                · exact .inl ⟨by omega, h2⟩
                · exact .inr ⟨by omega, h2, by rw [← hkm.1]; exact h1.1, by rw [← hcc, ← hkm.2]; exact h1.2⟩
          have HCN := Lib.hid hcn
          have c21 : wr.cell? ⟨b2, 1, none⟩ = some (.slice (some ⟨b, o, none⟩) ns cs) := by rw [← hA]; exact HBZ.out.cell rfl
          clear hA hbz hc1 hki hmo hcn hP hkm hcc HL HLK HROW HBW HRIZ HSZ hrs
          rcases hcase with h0 | ⟨h0, h1⟩ | ⟨h0, h1, h2, h3⟩
          · subst h0
            go_wp2_with fail
            refine (Count_calls wr S P A c HMZ.out (by have := HNS.out; omega) r).mono ?_
            rintro e w8 ⟨rfl, rfl⟩
            rw [← HCN.out]
            clear HMZ HBZ HCN
            go_wp2
            go_roundw
            case rel => exact ⟨r + 1, by omega, by go_num, HC1.out⟩
            case measure => simp [intOf]; omega
          · subst h1
            go_wp2_with fail
            refine (Count_calls wr S P A c HMZ.out (by have := HNS.out; omega) r).mono ?_
            rintro e w8 ⟨rfl, rfl⟩
            rw [← HCN.out]
            clear HMZ HBZ HCN
            go_wp2
            go_roundw
            case rel => exact ⟨r + 1, by omega, by go_num, HC1.out⟩
            case measure => simp [intOf]; omega
          · subst h2 h3
            have hz1 : (cn != 0) = true := by simpa using h1
            have hz2 : (cn != cn) = false := by simp
            clear h1
            go_wp2_with fail
            refine (Count_calls wr S P A c HMZ.out (by have := HNS.out; omega) r).mono ?_
            rintro e w8 ⟨rfl, rfl⟩
            rw [← HCN.out]
            clear HMZ HBZ HCN
            go_wp2
            go_roundw
            case rel => exact ⟨r + 1, by omega, by go_num, HC1.out⟩
            case measure => simp [intOf]; omega
    · obtain rfl : r = ns := by omega
      have HLE : Hid (∀ x, x < nq → 0 ≤ L.getD x 0 ∧ L.getD x 0 ≤ 1) := Lib.hid fun x hx => by
        rw [HLK.out x hx]
        have := (cqN_bound HI.out x r (by have := HNS.out; omega)).1
        simp
        omega
      have HWR : Hid (Below w.heap.size w wr) := Lib.hid (HW.out.trans (HBW.out.mono HW.out.size))
      clear HMR HLK
      go_wp2
      clear c21
      go_loopw [11] (fun s11 wz => ∃ p : Nat, p ≤ nq ∧ s11 = .int .i64 (p : Int) ∧ wr = wz) (fun s11 _ => nq - (intOf s11).toNat)
      case atStart => exact ⟨0, Nat.zero_le _, rfl, (by first | trivial | rfl)⟩
      case round =>
        obtain ⟨p, hp, rfl, rfl⟩ := hrel
        by_cases hlt2 : p < nq
        · obtain ⟨v, hv⟩ : ∃ v, v = L.getD p 0 := ⟨_, rfl⟩
          have hck : wr.cell? ⟨g, p, none⟩ = some (.int .i64 v) := row_cell HROW.out (by rw [HL.out]; exact hlt2) hv.symm
          have hv1 : ¬ 1 < v := by have := HLE.out p hlt2; omega
          clear hv
          go_wp2
          go_roundw
          case rel => exact ⟨p + 1, by omega, by go_num, (by first | trivial | rfl)⟩
          case measure => simp [intOf]; omega
        · clear HROW HL HLE HBW
          go_wp2_with fail
          refine (awake_calls wr).mono ?_
          rintro e w99 ⟨rfl, hb9⟩
          have HRES : Hid (Below w.heap.size w w99) := Lib.hid (HWR.out.trans (hb9.mono (by exact HWR.out.size)))
          clear hb9
          go_wp2
          go_ret
          exact ⟨rfl, HRES.out⟩
end Go.Proofs.Ytgeffkdobnipgaa
