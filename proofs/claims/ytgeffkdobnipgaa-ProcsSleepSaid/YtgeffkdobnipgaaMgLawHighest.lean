/- ProcsHighest: the walk. -/
import Derived.Test.YtgeffkdobnipgaaMg14
namespace Nac.Procs
/-- is one of the first k Ready? -/
def someB (P : PSet) (k : Nat) : Bool := (List.range k).any fun q => (P.proc q).st == 1
theorem someB_succ (P : PSet) (k : Nat) : someB P (k + 1) = (someB P k || (P.proc k).st == 1) := by
  unfold someB
  rw [List.range_succ, List.any_append]
  simp
theorem someB_none {P : PSet} (h : Inv P) (he : P.ready = []) (k : Nat) (hk : k < P.ps.length) : ((P.proc k).st == 1) = false := by
  cases hz : ((P.proc k).st == 1) with
  | false => rfl
  | true =>
    have h1 : (P.proc k).st = 1 := by simpa using hz
    have := (h.rdy k).2 ⟨hk, h1, by simp⟩
    rw [he] at this
    cases this
theorem stateI_nat {P : PSet} {k : Nat} (hk : k < P.ps.length) : stateI P (k : Int) = (P.proc k).st := by
  unfold stateI isP
  simp [hk]
end Nac.Procs
namespace Go.Proofs.Ytgeffkdobnipgaa
open Go.RowKit Nac Nac.Procs
theorem RG.mono {X : Type} {w : World} {B B' : Nat} {A : Option Addr} {k : Nat} {cells : X → List Value} {xs : List X} (h : RG w B A k cells xs) (hB : B ≤ B') : RG w B' A k cells xs := fun hn => by
  obtain ⟨b, o, hA, hlt, hc⟩ := h hn
  exact ⟨b, o, hA, Nat.lt_of_lt_of_le hlt hB, hc⟩
theorem P0_pr (prs : List Int) (rs : List RIn) (p : Nat) (hp : p < prs.length) : ((P0 prs rs).proc p).pr = prs[p] := by
  simp [P0, PSet.proc, prc0, List.getD, hp]
set_option maxRecDepth 100000 in
set_option maxHeartbeats 2000000 in
theorem highest_calls (w : World) (Ap Ar Aa : Option Addr) (cp cr ca : Nat) (lp : List Int) (lr : List RIn) (la : List ActI) (hp : RG w w.heap.size Ap 1 c1I lp) (hr : RG w w.heap.size Ar 3 c3R lr) (ha : RG w w.heap.size Aa 4 c4A la)
    (hpc : lp.length ≤ cp) (hrc : lr.length ≤ cr) (hp8 : lp.length ≤ 140737488351232) (hr8 : lr.length ≤ 140737488351232) (ha8 : la.length ≤ 140737488351232) :
    Calls Try.prog 5 #[.agg #[.slice Ap lp.length cp, .slice Ar lr.length cr], .slice Aa la.length ca] w (RetBb w true) := by
  obtain ⟨np, hnp⟩ : ∃ n, n = lp.length := ⟨_, rfl⟩
  obtain ⟨nr, hnr⟩ : ∃ n, n = lr.length := ⟨_, rfl⟩
  obtain ⟨na, hna⟩ : ∃ n, n = la.length := ⟨_, rfl⟩
  have HPL : Hid (∀ (w' : World), Below w.heap.size w w' → Calls Try.prog 18 #[.agg #[.slice Ap np cp, .slice Ar nr cr], .slice Aa na ca] w' (RetPl w')) := Lib.hid fun w' hb => by
    rw [hnp, hnr, hna]
    exact played_calls w' Ap Ar Aa cp cr ca lp lr la (RG.mono (hp.below hb) hb.size) (RG.mono (hr.below hb) hb.size) (RG.mono (ha.below hb) hb.size) hpc hrc hp8 hr8 ha8
  rw [← hnp, ← hnr, ← hna]
  clear hp hr ha hpc hrc hp8 hr8 ha8 hnp hnr hna
  go_enter Try.func5, Try.ntmps5
  go_wp2_with (first | ((with_reducible show wpList _ _ _ (Oper.mk _ (Op.box 43 _) _ _ _ _ :: _) _ _); refine wpList_boxS (T := 43) rfl _ rfl [.slice Ap np cp, .slice Ar nr cr] rfl ?_) | fail)
  intro w1 hb1 hg1 hs1
  obtain ⟨b2, hb2⟩ : ∃ b, b = w.heap.size := ⟨_, rfl⟩
  rw [← hb2] at hb1 ⊢
  have HB1 := Lib.hid hb1
  have HG1 : Hid (Below w.heap.size w w1) := Lib.hid (grown_below hg1 (Nat.le_refl _) fun k e => by cases e)
  have HB2E : Hid (b2 = w.heap.size ∧ w1.heap.size = b2 + 1) := Lib.hid ⟨hb2, by omega⟩
  clear hb1 hg1 hs1 hb2
  go_wp2_with ((with_reducible show wpList _ _ _ (Oper.mk _ (Op.load 43 _) _ _ _ _ :: _) _ _); refine wpList_loadS sShp rfl _ rfl b2 [.slice Ap np cp, .slice Ar nr cr] rfl HB1.out rfl ?_)
  refine (HPL.out w1 HG1.out).mono ?_
  rintro e w2 ⟨S, P, A, c, prs, rs, Aq, As, nq, ns, cq, cs, rfl, hok, hI, hs, hm, hnq, hns, hri, hrr, hfr, hbw⟩
  have HB22 : Hid (Blk w2 b2 [.slice Ap np cp, .slice Ar nr cr]) := Lib.hid (HB1.out.below hbw HB1.out.lt)
  have HM2 := Lib.hid hm
  have HRI2 := Lib.hid hri
  have HRR2 := Lib.hid hrr
  have HFR : Hid (∀ k, Foot S A k → b2 < k) := Lib.hid fun k hk => by have := hfr k hk; have := HB2E.out; omega
  have HW2 : Hid (Below w.heap.size w w2) := Lib.hid (HG1.out.trans (hbw.mono HG1.out.size))
  have HOK := Lib.hid hok
  have HI := Lib.hid hI
  have HSM := Lib.hid hs
  have HNQ : Hid (nq = prs.length ∧ P.ps.length = nq ∧ nq ≤ 8 ∧ 1 ≤ nq) := Lib.hid ⟨hnq, by rw [hs.n, hnq]; simp [P0], by rw [hnq]; exact hok.n8, by rw [hnq]; exact hok.n1⟩
  have HNS : Hid (ns = rs.length ∧ P.rs.length = ns ∧ ns ≤ 8) := Lib.hid ⟨hns, by rw [hs.m, hns]; simp [P0], by rw [hns]; exact hok.m8⟩
  have hnq8 : nq ≤ 8 := HNQ.out.2.2.1
  have hns8 : ns ≤ 8 := HNS.out.2.2
  clear hok hI hs hm hnq hns hri hrr hfr hbw HPL HB1
  go_wp2_with ((with_reducible show wpList _ _ _ (Oper.mk _ (Op.store 43 _ _) _ _ _ _ :: _) _ _); refine wpList_storeS sShp rfl _ _ rfl b2 [.slice Ap np cp, .slice Ar nr cr] [.slice Aq nq cq, .slice As ns cs] rfl rfl HB22.out rfl rfl (shp_one _ _ _ _ _ _) ?_)
  intro w3 hb3 hg3
  have HB3 := Lib.hid hb3
  have HM : Hid (SetM w3 S P A c) := Lib.hid (HM2.out.apart hg3 fun k e hf => by injection e with e; have := HFR.out k hf; omega)
  have HRI : Hid (RI w3 w3.heap.size Aq prs) := Lib.hid ((HRI2.out.other (Nat.le_refl _) HB22.out slices_no_int hg3).mono hg3.size)
  have HRR : Hid (RR w3 w3.heap.size As rs) := Lib.hid ((HRR2.out.other (Nat.le_refl _) HB22.out slices_no_int hg3).mono hg3.size)
  have HW : Hid (Below w.heap.size w w3) := Lib.hid (HW2.out.trans (grown_below hg3 HW2.out.size fun k e => by injection e with e; have := HB2E.out; omega))
  clear hb3 hg3 HB22 HM2 HRI2 HRR2 HW2
  go_wp2_with fail
  refine (Running_calls w3 S P A c HM.out (by have := HNQ.out; omega) (by have := HI.out.rlen; omega) HI.out.rin).mono ?_
  rintro e w4 ⟨rfl, hb4⟩
  have HM4 : Hid (SetM w4 S P A c) := Lib.hid (HM.out.below hb4)
  have HB4 : Hid (Blk w4 b2 [.slice Aq nq cq, .slice As ns cs]) := Lib.hid (HB3.out.below hb4 HB3.out.lt)
  have HRI4 : Hid (RI w4 w4.heap.size Aq prs) := Lib.hid ((HRI.out.below hb4).mono hb4.size)
  have HW4 : Hid (Below w.heap.size w w4) := Lib.hid (HW.out.trans (hb4.mono HW.out.size))
  have c20 : w4.cell? ⟨b2, 0, none⟩ = some (.slice Aq nq cq) := HB4.out.cell rfl
  clear hb4 HM HB3 HRI HRR HW
  rcases run_best HI.out with ⟨hrun, hemp⟩ | ⟨p, hrun, hpr, hpn, hbest⟩
  · rw [hrun]
    have HE := Lib.hid hemp
    have HAW : Hid (∀ w', Below w4.heap.size w4 w' → Calls Try.prog 9 #[] w' (RetBb w' true)) := Lib.hid fun w' _ => awake_calls w'
    clear hrun hemp HRI4
    go_wp2
    go_loopw [7, 8] (fun s7 s8 wr => ∃ k : Nat, k ≤ nq ∧ s8 = .int .i64 (k : Int) ∧ s7 = .bool false ∧ ∃ d, wr = w4.drewN d) (fun _ s8 _ => nq - (intOf s8).toNat)
    case atStart => exact ⟨0, Nat.zero_le _, rfl, rfl, 0, rfl⟩
    case round =>
      obtain ⟨k, hk, rfl, rfl, d, rfl⟩ := hrel
      by_cases hlt : k < nq
      · have hkp : k < P.ps.length := by have := HNQ.out; omega
        obtain ⟨z, hz⟩ : ∃ z, z = stateI P k := ⟨_, rfl⟩
        have hz1 : (z == 1) = false := by rw [hz, stateI_nat hkp]; exact someB_none HI.out HE.out k hkp
        have HZ := Lib.hid hz
        have HMD : Hid (SetM (w4.drewN d) S P A c) := Lib.hid (HM4.out.below ⟨rfl, rfl, rfl, Nat.le_refl _, fun _ _ => rfl⟩)
        clear hkp hz
        go_wp2_with fail
        refine (State_calls (w4.drewN d) S P A c HMD.out (by have := HNQ.out; omega) k).mono ?_
        rintro e w5 ⟨rfl, rfl⟩
        rw [← HZ.out]
        clear HZ HMD
        go_wp2
        go_roundw
        case rel => exact ⟨k + 1, by omega, by go_num, rfl, _, rfl⟩
        case measure => simp [intOf]; omega
      · go_wp2_with fail
        refine (HAW.out (w4.drewN d) ⟨rfl, rfl, rfl, Nat.le_refl _, fun _ _ => rfl⟩).mono ?_
        rintro e w9 ⟨rfl, hb9⟩
        have HRES : Hid (Below w.heap.size w w9) := Lib.hid ((below_drewN' HW4.out d).trans (hb9.mono (by exact HW4.out.size)))
        clear hb9
        go_wp2
        go_ret
        exact ⟨rfl, HRES.out⟩
  · rw [hrun]
    have HPR := Lib.hid hpr
    have HPN := Lib.hid hpn
    have HBEST := Lib.hid hbest
    have hpq : p < nq := by have := HNQ.out; omega
    clear hrun hpr hpn hbest
    go_wp2
    go_loopw [7, 8] (fun s7 s8 wr => ∃ k : Nat, k ≤ nq ∧ s8 = .int .i64 (k : Int) ∧ s7 = .bool (someB P k) ∧ ∃ d, wr = w4.drewN d) (fun _ s8 _ => nq - (intOf s8).toNat)
    case atStart => exact ⟨0, Nat.zero_le _, rfl, rfl, 0, rfl⟩
    case round =>
      obtain ⟨k, hk, rfl, rfl, d, rfl⟩ := hrel
      have HMD : Hid (SetM (w4.drewN d) S P A c) := Lib.hid (HM4.out.below ⟨rfl, rfl, rfl, Nat.le_refl _, fun _ _ => rfl⟩)
      by_cases hlt : k < nq
      · have hkp : k < P.ps.length := by have := HNQ.out; omega
        obtain ⟨z, hz⟩ : ∃ z, z = stateI P k := ⟨_, rfl⟩
        have HZ := Lib.hid hz
        have HZK : Hid (z = (P.proc k).st) := Lib.hid (hz.trans (stateI_nat hkp))
        have HKP := Lib.hid hkp
        obtain ⟨sb, hsb⟩ : ∃ sb, sb = someB P k := ⟨_, rfl⟩
        rw [← hsb]
        have HSB := Lib.hid hsb
        clear hkp hz hsb
        by_cases hz1 : z = 1
        · subst hz1
          obtain ⟨b, o, hA, hb, hcs⟩ := HRI4.out (fun e => by have := HNQ.out; rw [e] at this; simp at this; omega)
          obtain ⟨x, hx⟩ : ∃ x, x = prs[k]'(by have := HNQ.out; omega) := ⟨_, rfl⟩
          obtain ⟨y, hy⟩ : ∃ y, y = prs[p]'(by have := HNQ.out; omega) := ⟨_, rfl⟩
          have d1 : w4.cell? ⟨b, o + k, none⟩ = some (.int .i64 x) := by rw [hx]; exact hcs k _
          have d2 : w4.cell? ⟨b, o + p, none⟩ = some (.int .i64 y) := by rw [hy]; exact hcs p _
          have hxy : ¬ y < x := by
            have h1 := HBEST.out k ((HI.out.rdy k).2 ⟨HKP.out, HZK.out.symm, by simp⟩)
            rw [HSM.out.pr k, HSM.out.pr p, P0_pr prs rs k (by have := HNQ.out; omega), P0_pr prs rs p (by have := HNQ.out; omega), ← hx, ← hy] at h1
            omega
          have HS2 : Hid (someB P (k + 1) = true) := Lib.hid (by rw [someB_succ, ← HZK.out]; simp)
          have HAA := Lib.hid hA
          have c20' : w4.cell? ⟨b2, 0, none⟩ = some (.slice (some ⟨b, o, none⟩) nq cq) := by rw [← hA]; exact c20
          clear hA hb hcs hx hy c20
          go_wp2_with fail
          refine (State_calls (w4.drewN d) S P A c HMD.out (by have := HNQ.out; omega) k).mono ?_
          rintro e w5 ⟨rfl, rfl⟩
          rw [← HZ.out]
          clear HZ HMD
          go_wp2_with fail
          go_quiet (fail)
          go_wp2
          go_roundw
          case rel => exact ⟨k + 1, by omega, by go_num, by rw [HS2.out], _, rfl⟩
          case measure => simp [intOf]; omega
        · have hz2 : (z == 1) = false := by simpa using hz1
          have HS2 : Hid (someB P (k + 1) = sb) := Lib.hid (by rw [someB_succ, ← HZK.out, hz2, HSB.out]; simp)
          clear hz1
          go_wp2_with fail
          refine (State_calls (w4.drewN d) S P A c HMD.out (by have := HNQ.out; omega) k).mono ?_
          rintro e w5 ⟨rfl, rfl⟩
          rw [← HZ.out]
          clear HZ HMD
          go_wp2
          go_roundw
          case rel => exact ⟨k + 1, by omega, by go_num, by rw [HS2.out], _, rfl⟩
          case measure => simp [intOf]; omega
      · have HST : Hid (someB P k = true) := Lib.hid (by
          have hkn : k = nq := by omega
          have h1 := (HI.out.rdy p).1 HPR.out
          unfold someB
          rw [List.any_eq_true]
          exact ⟨p, by rw [List.mem_range]; omega, by simp [h1.2.1]⟩)
        rw [HST.out]
        have HSP : Hid (stateI P p = 1) := Lib.hid (by rw [stateI_nat HPN.out]; exact ((HI.out.rdy p).1 HPR.out).2.1)
        clear HST
        go_wp2_with fail
        refine (State_calls (w4.drewN d) S P A c HMD.out (by have := HNQ.out; omega) p).mono ?_
        rintro e w5 ⟨rfl, rfl⟩
        rw [HSP.out]
        clear HSP HMD
        go_wp2_with fail
        refine (awake_calls _).mono ?_
        rintro e w9 ⟨rfl, hb9⟩
        have HRES : Hid (Below w.heap.size w w9) := Lib.hid ((below_drewN' HW4.out d).trans (hb9.mono (by exact HW4.out.size)))
        clear hb9
        go_wp2
        go_ret
        exact ⟨rfl, HRES.out⟩
end Go.Proofs.Ytgeffkdobnipgaa
