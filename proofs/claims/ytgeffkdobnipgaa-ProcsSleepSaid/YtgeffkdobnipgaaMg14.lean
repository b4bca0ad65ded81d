/- Bundle 14 of the texts PlayedP, LaidN. -/
import Derived.Test.YtgeffkdobnipgaaMg13
import Derived.Test.YtgeffkdobnipgaaRows
import Derived.Test.YtgeffkdobnipgaaMg12
import Derived.Deep.DeepHandedRow
import Derived.Lib.LaidTab
import Derived.SizedLaws
/- A set that may be, behind acts. -/
namespace Go.Proofs.Ytgeffkdobnipgaa
open Go.RowKit Nac Nac.Procs
theorem ri_of_rg {w : World} {B : Nat} {A : Option Addr} {l : List Int} (h : RG w B A 1 c1I l) : RI w B A l := fun hn => by
  obtain ⟨b, o, hA, hb, hc⟩ := h hn
  refine ⟨b, o, hA, hb, fun j hj => ?_⟩
  have := hc j hj 0 _ rfl
  simpa using this
theorem rr_of_rg {w : World} {B : Nat} {A : Option Addr} {l : List RIn} (h : RG w B A 3 c3R l) : RR w B A l := fun hn => by
  obtain ⟨b, o, hA, hb, hc⟩ := h hn
  exact ⟨b, o, hA, hb, fun j hj => ⟨hc j hj 0 _ rfl, hc j hj 1 _ rfl, hc j hj 2 _ rfl⟩⟩
theorem sAct : SInfo 74 4 := ⟨by kernel_rfl, _, Try.underlying74, rfl⟩
theorem not_int_apart {w : World} {b b' o : Nat} {cs : List Value} {v : Value} (hb : Blk w b cs) (hcs : ∀ v ∈ cs, ∀ k i, v ≠ .int k i) {k : IntKind} {i : Int} (hc : w.cell? ⟨b', o, none⟩ = some (.int k i)) : b' ≠ b := by
  intro e
  subst e
  obtain ⟨t, ht⟩ := hb
  rw [cell_of_row w b' _ _ t (0, 0) ht] at hc
  have hm := List.mem_of_getElem? (l := cs) (i := o) (by simpa using hc)
  exact hcs _ hm k i rfl
theorem RI.other {w w' : World} {B b : Nat} {A : Option Addr} {l : List Int} {cs : List Value} (h : RI w B A l) (hB : B ≤ w.heap.size) (hb : Blk w b cs) (hcs : ∀ v ∈ cs, ∀ k i, v ≠ .int k i) (hg : w.grownBy w' (some b)) : RI w' B A l := fun hn => by
  obtain ⟨b', o, hA, hlt, hc⟩ := h hn
  have hpos : 0 < l.length := List.length_pos_iff.2 hn
  have hne : b' ≠ b := not_int_apart (v := .bool true) hb hcs (hc 0 hpos)
  exact ⟨b', o, hA, hlt, fun j hj => (grown_cell hg (Nat.lt_of_lt_of_le hlt hB) (fun e => hne (by injection e))).trans (hc j hj)⟩
theorem RR.other {w w' : World} {B b : Nat} {A : Option Addr} {l : List RIn} {cs : List Value} (h : RR w B A l) (hB : B ≤ w.heap.size) (hb : Blk w b cs) (hcs : ∀ v ∈ cs, ∀ k i, v ≠ .int k i) (hg : w.grownBy w' (some b)) : RR w' B A l := fun hn => by
  obtain ⟨b', o, hA, hlt, hc⟩ := h hn
  have hpos : 0 < l.length := List.length_pos_iff.2 hn
  have hne : b' ≠ b := not_int_apart (v := .bool true) hb hcs (hc 0 hpos).1
  have hg' : ∀ k, w'.cell? ⟨b', k, none⟩ = w.cell? ⟨b', k, none⟩ := fun k => grown_cell hg (Nat.lt_of_lt_of_le hlt hB) (fun e => hne (by injection e))
  exact ⟨b', o, hA, hlt, fun j hj => ⟨(hg' _).trans (hc j hj).1, (hg' _).trans (hc j hj).2.1, (hg' _).trans (hc j hj).2.2⟩⟩
/-- what played gives: a set of a fit shape that keeps its laws, and the shape -/
def RetPl (w : World) (e : Ending) (w' : World) : Prop := ∃ S P A c prs rs Aq As nq ns cq cs, e = .returned (.tuple #[.pointer (some ⟨S, 0, none⟩), .agg #[.slice Aq nq cq, .slice As ns cs]]) ∧ OkNew prs rs ∧ Inv P ∧ Same (P0 prs rs) P ∧ SetM w' S P A c ∧
  nq = prs.length ∧ ns = rs.length ∧ RI w' w'.heap.size Aq prs ∧ RR w' w'.heap.size As rs ∧ (∀ k, Foot S A k → w.heap.size ≤ k) ∧ Below w.heap.size w w'
theorem slices_no_int {A1 A2 : Option Addr} {n1 n2 c1 c2 : Nat} : ∀ v ∈ ([.slice A1 n1 c1, .slice A2 n2 c2] : List Value), ∀ k i, v ≠ .int k i := by
  intro v hv k i
  simp at hv
  rcases hv with rfl | rfl <;> simp
theorem build_ints (w : World) : (Instr.buildSlice 28 3 #[(0, .int .i64 3), (1, .int .i64 1), (2, .int .i64 3)]).run Try.prog w = .ok (.slice (some ⟨w.heap.size, 0, none⟩) 3 3) (w.alloc (.cells #[.int .i64 3, .int .i64 1, .int .i64 3] 3)) := by
  obtain ⟨ti, hi, hz, hs1, hb1⟩ := info_parts Try.infoIt
  refine run_buildSlice w _ _ 3 _ _ ti _ Try.underlying28 hi hz (by rw [hs1]; decide) (by rw [hs1]; decide) ?_
  rw [hs1]; kernel_rfl
theorem build_rins (w : World) : (Instr.buildSlice 31 3 #[(0, .agg #[.int .i64 0, .int .i64 1, .int .i64 2]), (1, .agg #[.int .i64 1, .int .i64 0, .int .i64 1]), (2, .agg #[.int .i64 2, .int .i64 0, .int .i64 2])]).run Try.prog w = .ok (.slice (some ⟨w.heap.size, 0, none⟩) 3 3) (w.alloc (.cells #[.int .i64 0, .int .i64 1, .int .i64 2, .int .i64 1, .int .i64 0, .int .i64 1, .int .i64 2, .int .i64 0, .int .i64 2] 30)) := by
  obtain ⟨ti, hi, hz, hs1, hb1⟩ := info_parts Try.infoRin
  refine run_buildSlice w _ _ 3 _ _ ti _ Try.underlying31 hi hz (by rw [hs1]; decide) (by rw [hs1]; decide) ?_
  rw [hs1]; kernel_rfl
theorem build_shp (w : World) (A1 A2 : Option Addr) (n1 n2 c1 c2 : Nat) : (Instr.build 43 #[(0, .slice A1 n1 c1), (1, .slice A2 n2 c2)]).run Try.prog w = .ok (.agg #[.slice A1 n1 c1, .slice A2 n2 c2]) w := run_build w _ _ _ (by kernel_rfl)
def dprs : List Int := [3, 1, 3]
def drs : List RIn := [⟨0, 1, 2⟩, ⟨1, 0, 1⟩, ⟨2, 0, 2⟩]
theorem d_ok : OkNew dprs drs := by
  refine ⟨by decide, by decide, by decide, by decide, fun r hr => ?_⟩
  simp [drs] at hr
  rcases hr with rfl | rfl | rfl <;> exact ⟨by decide, by decide, by decide, by decide, by decide, by decide, by decide⟩
theorem d_ri {w : World} {b B : Nat} (h : Blk w b [.int .i64 3, .int .i64 1, .int .i64 3]) (hB : b < B) : RI w B (some ⟨b, 0, none⟩) dprs := fun _ => by
  refine ⟨b, 0, rfl, hB, fun j hj => ?_⟩
  have hj3 : j < 3 := hj
  rcases (by omega : j = 0 ∨ j = 1 ∨ j = 2) with rfl | rfl | rfl <;> exact h.cell rfl
theorem d_rr {w : World} {b B : Nat} (h : Blk w b [.int .i64 0, .int .i64 1, .int .i64 2, .int .i64 1, .int .i64 0, .int .i64 1, .int .i64 2, .int .i64 0, .int .i64 2]) (hB : b < B) : RR w B (some ⟨b, 0, none⟩) drs := fun _ => by
  refine ⟨b, 0, rfl, hB, fun j hj => ?_⟩
  have hj3 : j < 3 := hj
  rcases (by omega : j = 0 ∨ j = 1 ∨ j = 2) with rfl | rfl | rfl <;> exact ⟨h.cell rfl, h.cell rfl, h.cell rfl⟩
set_option maxRecDepth 100000 in
set_option maxHeartbeats 2000000 in
theorem played_calls (w : World) (Ap Ar Aa : Option Addr) (cp cr ca : Nat) (lp : List Int) (lr : List RIn) (la : List ActI) (hp : RG w w.heap.size Ap 1 c1I lp) (hr : RG w w.heap.size Ar 3 c3R lr) (ha : RG w w.heap.size Aa 4 c4A la)
    (hpc : lp.length ≤ cp) (hrc : lr.length ≤ cr) (hp8 : lp.length ≤ 140737488351232) (hr8 : lr.length ≤ 140737488351232) (ha8 : la.length ≤ 140737488351232) :
    Calls Try.prog 18 #[.agg #[.slice Ap lp.length cp, .slice Ar lr.length cr], .slice Aa la.length ca] w (RetPl w) := by
  obtain ⟨np, hnp⟩ : ∃ n, n = lp.length := ⟨_, rfl⟩
  obtain ⟨nr, hnr⟩ : ∃ n, n = lr.length := ⟨_, rfl⟩
  obtain ⟨na, hna⟩ : ∃ n, n = la.length := ⟨_, rfl⟩
  rw [← hnp] at hpc hp8 ⊢
  rw [← hnr] at hrc hr8 ⊢
  rw [← hna] at ha8 ⊢
  have HP := Lib.hid hp
  have HR := Lib.hid hr
  have HA := Lib.hid ha
  have HNP := Lib.hid hnp
  have HNR := Lib.hid hnr
  have HNA := Lib.hid hna
  clear hp hr ha hnp hnr hna
  go_enter Try.func18, Try.ntmps18
  go_wp2_with (first | ((with_reducible show wpList _ _ _ (Oper.mk _ (Op.box 43 _) _ _ _ _ :: _) _ _); refine wpList_boxS (T := 43) rfl _ rfl [.slice Ap np cp, .slice Ar nr cr] rfl ?_) | fail)
  intro w1 hb1 hg1 hs1
  obtain ⟨b2, hb2⟩ : ∃ b, b = w.heap.size := ⟨_, rfl⟩
  rw [← hb2] at hb1 ⊢
  have HB1 := Lib.hid hb1
  have HG1 : Hid (Below w.heap.size w w1) := Lib.hid (grown_below hg1 (Nat.le_refl _) fun k e => by cases e)
  have HB2E : Hid (b2 = w.heap.size ∧ w1.heap.size = b2 + 1) := Lib.hid ⟨hb2, by omega⟩
  clear hb1 hg1 hs1 hb2
  go_wp2_with (first | ((with_reducible show wpList _ _ _ (Oper.mk _ (Op.alloc 43) _ _ _ _ :: _) _ _); refine wpList_allocS _ zShp rfl rfl ?_) | fail)
  intro w2 hb2 hg2 hs2
  obtain ⟨b5, hb5⟩ : ∃ b, b = w1.heap.size := ⟨_, rfl⟩
  rw [← hb5] at hb2 ⊢
  have HB52 := Lib.hid hb2
  have HB22 : Hid (Blk w2 b2 [.slice Ap np cp, .slice Ar nr cr]) := Lib.hid (HB1.out.grown hg2 (fun e => by cases e))
  have HW2 : Hid (Below w.heap.size w w2) := Lib.hid (HG1.out.trans (grown_below hg2 HG1.out.size fun k e => by cases e))
  have HB5E : Hid (b5 = b2 + 1) := Lib.hid (by have := HB2E.out; omega)
  clear hb2 hg2 hs2 hb5 HB1 HG1
  go_wp2_with ((with_reducible show wpList _ _ _ (Oper.mk _ (Op.load 43 _) _ _ _ _ :: _) _ _); refine wpList_loadS sShp rfl _ rfl b2 [.slice Ap np cp, .slice Ar nr cr] rfl HB22.out rfl ?_)
  refine (few_calls w2 Ap np cp Ar nr cr hpc hrc hp8 hr8).mono ?_
  rintro e w3 ⟨rfl, hb3⟩
  obtain ⟨fp, hfp⟩ : ∃ n, n = few10 np := ⟨_, rfl⟩
  obtain ⟨fr, hfr⟩ : ∃ n, n = few10 nr := ⟨_, rfl⟩
  have HB23 : Hid (Blk w3 b2 [.slice Ap np cp, .slice Ar nr cr]) := Lib.hid (HB22.out.below hb3 HB22.out.lt)
  have HB53 : Hid (Blk w3 b5 [.slice none 0 0, .slice none 0 0]) := Lib.hid (HB52.out.below hb3 HB52.out.lt)
  have HW3 : Hid (Below w.heap.size w w3) := Lib.hid (HW2.out.trans (hb3.mono HW2.out.size))
  rw [← hfp, ← hfr]
  have HFP := Lib.hid hfp
  have HFR := Lib.hid hfr
  clear hb3 hfp hfr HB22 HB52 HW2
  go_wp2_with ((with_reducible show wpList _ _ _ (Oper.mk _ (Op.store 43 _ _) _ _ _ _ :: _) _ _); refine wpList_storeS sShp rfl _ _ rfl b2 [.slice Ap np cp, .slice Ar nr cr] [.slice Ap fp cp, .slice Ar fr cr] rfl rfl HB23.out rfl rfl (shp_one _ _ _ _ _ _) ?_)
  intro w4 hb4 hg4
  obtain ⟨prs, hprs⟩ : ∃ l, l = lp.take fp := ⟨_, rfl⟩
  obtain ⟨rs, hrs⟩ : ∃ l, l = lr.take fr := ⟨_, rfl⟩
  have HN : Hid (fp = prs.length) := Lib.hid (by rw [hprs, List.length_take, HFP.out, ← HNP.out]; unfold few10; split <;> omega)
  have HM : Hid (fr = rs.length) := Lib.hid (by rw [hrs, List.length_take, HFR.out, ← HNR.out]; unfold few10; split <;> omega)
  have h10 : fp ≤ 10 := by rw [HFP.out]; unfold few10; split <;> omega
  have h10r : fr ≤ 10 := by rw [HFR.out]; unfold few10; split <;> omega
  have HW4 : Hid (Below w.heap.size w w4) := Lib.hid (HW3.out.trans (grown_below hg4 HW3.out.size fun k e => by injection e with e; have := HB2E.out; omega))
  have HB2 := Lib.hid hb4
  have HB5 : Hid (Blk w4 b5 [.slice none 0 0, .slice none 0 0]) := Lib.hid (HB53.out.grown hg4 (fun e => by injection e with e; have := HB5E.out; omega))
  have HP4 : Hid (RI w4 w4.heap.size Ap prs) := Lib.hid (by rw [hprs]; exact (ri_of_rg (((HP.out.take fp)).below HW4.out)).mono HW4.out.size)
  have HR4 : Hid (RR w4 w4.heap.size Ar rs) := Lib.hid (by rw [hrs]; exact (rr_of_rg (((HR.out.take fr)).below HW4.out)).mono HW4.out.size)
  have HA4 : Hid (RG w4 w4.heap.size Aa 4 c4A la) := Lib.hid fun hn => by
    obtain ⟨b, o, hA, hb, hc⟩ := HA.out.below HW4.out hn
    exact ⟨b, o, hA, Nat.lt_of_lt_of_le hb HW4.out.size, hc⟩
  have c20 : w4.cell? ⟨b2, 0, none⟩ = some (.slice Ap fp cp) := HB2.out.cell rfl
  have c21 : w4.cell? ⟨b2, 1, none⟩ = some (.slice Ar fr cr) := HB2.out.cell rfl
  clear hb4 hg4 hprs hrs HB23 HB53 HW3 HP HR
  go_wp2_with fail
  refine (rnew_calls w4 Ap Ar cp cr prs rs fp fr HN.out HM.out HP4.out HR4.out h10 h10r).mono ?_
  rintro e wt (⟨hno, rfl, hbt⟩ | ⟨hok, R5, A5, c5, rfl, hm5, hf5, hbt⟩)
  · have HBt := Lib.hid hbt
    have HW5 : Hid (Below w.heap.size w wt) := Lib.hid (HW4.out.trans (hbt.mono HW4.out.size))
    have HB25 : Hid (Blk wt b2 [.slice Ap fp cp, .slice Ar fr cr]) := Lib.hid (HB2.out.below hbt HB2.out.lt)
    have HB55' : Hid (Blk wt b5 [.slice none 0 0, .slice none 0 0]) := Lib.hid (HB5.out.below hbt HB5.out.lt)
    have HA5 : Hid (RG wt wt.heap.size Aa 4 c4A la) := Lib.hid fun hn => by
      obtain ⟨b, o, hA, hb, hc⟩ := HA4.out.below hbt hn
      exact ⟨b, o, hA, Nat.lt_of_lt_of_le hb hbt.size, hc⟩
    clear hno hbt HN HM HP4 HR4 HA4 HW4 HB2 HB5 c20 c21
    have q0 := build_ints
    have q1 := build_rins
    have q2 := build_shp
    obtain ⟨wy, hwy⟩ : ∃ x, x = (wt.alloc (.cells #[.int .i64 3, .int .i64 1, .int .i64 3] 3)).alloc (.cells #[.int .i64 0, .int .i64 1, .int .i64 2, .int .i64 1, .int .i64 0, .int .i64 1, .int .i64 2, .int .i64 0, .int .i64 2] 30) := ⟨_, rfl⟩
    have hty : Below wt.heap.size wt wy := by rw [hwy]; exact ((Below.refl _ _).alloc (Nat.le_refl _) _).alloc (by simp) _
    have HB2y : Hid (Blk wy b2 [.slice Ap fp cp, .slice Ar fr cr]) := Lib.hid (HB25.out.below hty HB25.out.lt)
    have HYE := Lib.hid hwy
    have HTY := Lib.hid hty
    clear hwy hty
    go_wp2_with ((with_reducible show wpList _ _ _ (Oper.mk _ (Op.store 43 _ _) _ _ _ _ :: _) _ _); (rw [← HYE.out]); refine wpList_storeS sShp rfl _ _ rfl b2 [.slice Ap fp cp, .slice Ar fr cr] [.slice (some ⟨wt.heap.size, 0, none⟩) 3 3, .slice (some ⟨wt.heap.size + 1, 0, none⟩) 3 3] rfl rfl HB2y.out rfl rfl (shp_one _ _ _ _ _ _) ?_)
    intro wz hbz hgz
    obtain ⟨prs, hprs⟩ : ∃ l, l = dprs := ⟨_, rfl⟩
    obtain ⟨rs, hrs⟩ : ∃ l, l = drs := ⟨_, rfl⟩
    have HOK : Hid (OkNew prs rs) := Lib.hid (by rw [hprs, hrs]; exact d_ok)
    have HN : Hid (3 = prs.length) := Lib.hid (by rw [hprs]; rfl)
    have HM : Hid (3 = rs.length) := Lib.hid (by rw [hrs]; rfl)
    have hs1 : wy.heap.size = wt.heap.size + 2 := by rw [HYE.out]; simp
    have hwz : wt.heap.size ≤ wz.heap.size := Nat.le_trans HTY.out.size hgz.size
    have hlt2 : b2 < wt.heap.size := HB25.out.lt
    have hi1 : Blk wz wt.heap.size [.int .i64 3, .int .i64 1, .int .i64 3] := by
      refine Blk.grown (w := wy) ?_ hgz (fun e => by injection e with e; omega)
      rw [HYE.out]
      exact (Blk.new wt [.int .i64 3, .int .i64 1, .int .i64 3] 3).alloc _
    have hi2 : Blk wz (wt.heap.size + 1) [.int .i64 0, .int .i64 1, .int .i64 2, .int .i64 1, .int .i64 0, .int .i64 1, .int .i64 2, .int .i64 0, .int .i64 2] := by
      refine Blk.grown (w := wy) ?_ hgz (fun e => by injection e with e; omega)
      rw [HYE.out]
      have := Blk.new (wt.alloc (.cells #[.int .i64 3, .int .i64 1, .int .i64 3] 3)) [.int .i64 0, .int .i64 1, .int .i64 2, .int .i64 1, .int .i64 0, .int .i64 1, .int .i64 2, .int .i64 0, .int .i64 2] 30
      simpa using this
    have hsz : wt.heap.size + 2 ≤ wz.heap.size := by rw [← hs1]; exact hgz.size
    have HP4 : Hid (RI wz wz.heap.size (some ⟨wt.heap.size, 0, none⟩) prs) := Lib.hid (by rw [hprs]; exact d_ri hi1 (by omega))
    have HR4 : Hid (RR wz wz.heap.size (some ⟨wt.heap.size + 1, 0, none⟩) rs) := Lib.hid (by rw [hrs]; exact d_rr hi2 (by omega))
    have hby : Below w.heap.size w wy := HW5.out.trans (HTY.out.mono HW5.out.size)
    have HW4 : Hid (Below w.heap.size w wz) := Lib.hid (hby.trans (grown_below hgz hby.size fun k e => by injection e with e; have := HB2E.out; omega))
    have HB2 := Lib.hid hbz
    have HB5 : Hid (Blk wz b5 [.slice none 0 0, .slice none 0 0]) := Lib.hid ((HB55'.out.below HTY.out HB55'.out.lt).grown hgz (fun e => by injection e with e; have := HB5E.out; omega))
    have HA4 : Hid (RG wz wz.heap.size Aa 4 c4A la) := Lib.hid fun hn => by
      obtain ⟨b, o, hA, hb, hc⟩ := HA.out hn
      exact ⟨b, o, hA, Nat.lt_of_lt_of_le hb HW4.out.size, fun j hj f v hv => (HW4.out.cell hb).trans (hc j hj f v hv)⟩
    obtain ⟨Aq, hAq⟩ : ∃ x : Option Addr, x = some ⟨wt.heap.size, 0, none⟩ := ⟨_, rfl⟩
    obtain ⟨As, hAs⟩ : ∃ x : Option Addr, x = some ⟨wt.heap.size + 1, 0, none⟩ := ⟨_, rfl⟩
    rw [← hAq] at HP4 HB2
    rw [← hAs] at HR4 HB2
    rw [← hAq, ← hAs]
    clear hbz hgz hprs hrs hs1 hwz hlt2 hi1 hi2 hsz hby HBt HW5 HB25 HB55' HA5 HYE HTY HB2y q0 q1 q2 hAq hAs
    have d20 : wz.cell? ⟨b2, 0, none⟩ = some (.slice Aq 3 3) := HB2.out.cell rfl
    have d21 : wz.cell? ⟨b2, 1, none⟩ = some (.slice As 3 3) := HB2.out.cell rfl
    go_wp2_with fail
    refine (new_ok wz Aq As 3 3 prs rs 3 3 HN.out HM.out HP4.out HR4.out HOK.out).mono ?_
    rintro e wu ⟨S, A, c, rfl, hm5, hf5, hb5⟩
    have HB25 : Hid (Blk wu b2 [.slice Aq 3 3, .slice As 3 3]) := Lib.hid (HB2.out.below hb5 HB2.out.lt)
    have e20 : wu.cell? ⟨b2, 0, none⟩ = some (.slice Aq 3 3) := HB25.out.cell rfl
    have e21 : wu.cell? ⟨b2, 1, none⟩ = some (.slice As 3 3) := HB25.out.cell rfl
    have HM5 := Lib.hid hm5
    have HF5 := Lib.hid hf5
    have HBB5 := Lib.hid hb5
    have HP5 : Hid (RI wu wu.heap.size Aq prs) := Lib.hid ((HP4.out.below hb5).mono hb5.size)
    have HR5 : Hid (RR wu wu.heap.size As rs) := Lib.hid ((HR4.out.below hb5).mono hb5.size)
    clear hm5 hf5 hb5 d20 d21
    go_wp2_with fail
    refine (rnew_calls wu Aq As 3 3 prs rs 3 3 HN.out HM.out HP5.out HR5.out (by rw [HN.out]; exact Nat.le_trans HOK.out.n8 (by decide)) (by rw [HM.out]; exact Nat.le_trans HOK.out.m8 (by decide))).mono ?_
    rintro e wv (⟨hno, _, _⟩ | ⟨_, R, A', c', rfl, hm6, hf6, hb6⟩)
    · exact absurd HOK.out hno
    have HT0 : Hid (TwoM wz.heap.size wz S R (P0 prs rs) 0 wv) := Lib.hid ⟨P0 prs rs, A, c, M0 prs rs, A', c', P0_inv HOK.out, Same.refl _, HM5.out.below hb6, hm6, M0_inv HOK.out, HF5.out, fun k hk => Nat.le_trans HBB5.out.size (hf6 k hk), fun k hk hk2 => by have h1 := hf6 k hk2; have h2 := SetM.flt HM5.out hk; omega, HBB5.out.trans (hb6.mono HBB5.out.size), Nat.le_refl _⟩
    clear hm6 hf6 hb6 HM5 HF5 HBB5 HP5 HR5 HB25 e20 e21
    go_wp2
    go_loopw [12] (fun s12 wr => ∃ k : Nat, k ≤ na ∧ k ≤ 60 ∧ s12 = .int .i64 (k : Int) ∧ TwoM wz.heap.size wz S R (P0 prs rs) k wr) (fun s12 _ => 60 - (intOf s12).toNat)
    case atStart => exact ⟨0, Nat.zero_le _, Nat.zero_le _, rfl, HT0.out⟩
    case round =>
      obtain ⟨k, hk, hk60, rfl, ht⟩ := hrel
      have HT := Lib.hid ht
      have HBW : Hid (Below wz.heap.size wz wr) := Lib.hid (by obtain ⟨P, A, c, M, A', c', h1, h2, h3, h4, h5, h6, h7, h8, h9, h10⟩ := ht; exact h9)
      clear ht HT0
      by_cases hlt : k < na
      · by_cases hl6 : k < 60
        · have hkl : k < la.length := by rw [← HNA.out]; exact hlt
          obtain ⟨b, o, hA, hb, hc⟩ := HA4.out.get hkl
          obtain ⟨ki, nn, tt, vv, hx⟩ : ∃ a1 a2 a3 a4, la[k] = ⟨a1, a2, a3, a4⟩ := ⟨_, _, _, _, rfl⟩
          rw [hx] at hc
          have HRG : Hid (wr.rangeAt b (o + k * 4) [.int .i64 ki, .int .i64 nn, .int .i64 tt, .int .i64 vv]) := Lib.hid fun f v hv => (HBW.out.cell hb).trans (hc f v hv)
          rw [hA]
          have HAA := Lib.hid hA
          clear hA hb hc hx hkl
          go_wp2_with ((with_reducible show wpList _ _ _ (Oper.mk _ (Op.load 74 _) _ _ _ _ :: _) _ _); refine wpList_load_mid rfl 74 _ rfl b (o + k * 4) rfl [.int .i64 ki, .int .i64 nn, .int .i64 tt, .int .i64 vv] _ HRG.out Try.underlying74 rfl sAct.info ?_)
          refine (do_calls wz.heap.size wz wr S R (P0 prs rs) k HT.out (by omega) ⟨ki, nn, tt, vv⟩).mono ?_
          rintro e w9 ⟨z, rfl, ht9⟩
          have HT9 := Lib.hid ht9
          clear ht9 HT HBW HRG
          go_wp2
          go_roundw
          case rel => exact ⟨k + 1, by omega, by omega, by go_num, HT9.out⟩
          case measure => simp [intOf]; omega
        · have h60 : ¬ ((k : Int) < 60) := by omega
          have HTK := HT
          clear HBW
          go_wp2_with fail
          have BX : Hid (∀ w', Below wr.drew.heap.size wr.drew w' → w'.cell? ⟨b2, 0, none⟩ = some (.slice Aq 3 3) ∧ w'.cell? ⟨b2, 1, none⟩ = some (.slice As 3 3)) := Lib.hid fun w' hb' => by
            obtain ⟨P, A, c, M, A', c', h1, h2, h3, h4, h5, h6, h7, h8, h9, h10⟩ := HT.out
            have h11 := (HB2.out.below h9 HB2.out.lt).drew.below hb' (Nat.lt_of_lt_of_le HB2.out.lt h9.size)
            exact ⟨h11.cell rfl, h11.cell rfl⟩
          go_wp2_with fail
          refine region_tails 3 (fun ix9 => ([.is (.pointer (some ⟨S, 0, none⟩)), .is (.agg #[.slice Aq 3 3, .slice As 3 3]), .is (.pointer (some ⟨S, 0, none⟩))] : List VD).getD ix9 (.is undef)) [some 68, some 69, some 4] (by kernel_rfl) (by kernel_rfl) (by kernel_rfl) (by kernel_rfl) rfl (fun ii hii => ?_) ?_
          · match ii, hii with
            | 0, _ => exact mstep_first rfl (mwant_none rfl) 8 (Or.inl rfl) (by kernel_rfl) (fun _ _ => rfl)
            | 1, _ => exact mstep_pure rfl (mwant_none rfl) (fun aa ww cc => ⟨.agg #[.slice Aq 3 3, .slice As 3 3], by have e0 : aa.tmps.getD 2 undef = .pointer (some ⟨b2, 0, none⟩) := (cc.orig 2 (by kernel_rfl)).trans rfl; obtain ⟨q0, q1⟩ := BX.out _ cc.below; simp only [execOp, Act.eval, e0]; go_simp, rfl⟩)
            | 2, _ => exact mstep_copy rfl (mwant_none rfl) 68 (Or.inr rfl) 0 (by kernel_rfl) rfl rfl
            | n + 3, h => exact absurd h (by show ¬ (n + 3 < 3); omega)
          · intro VV w5 hlen hb5 hok
            match VV, hlen with
            | [v0, v1, v2], _ =>
              obtain rfl : v0 = .pointer (some ⟨S, 0, none⟩) := hok 0 68 rfl
              obtain rfl : v1 = .agg #[.slice Aq 3 3, .slice As 3 3] := hok 1 69 rfl
              obtain rfl : v2 = .pointer (some ⟨S, 0, none⟩) := hok 2 4 rfl
              have HB55 : Hid (Blk w5 b5 [.slice none 0 0, .slice none 0 0]) := Lib.hid (by
                obtain ⟨P, A, c, M, A', c', h1, h2, h3, h4, h5, h6, h7, h8, h9, h10⟩ := HT.out
                exact (HB5.out.below h9 HB5.out.lt).below hb5 (Nat.lt_of_lt_of_le HB5.out.lt h9.size))
              have HBR := Lib.hid hb5
              clear hb5 hok BX
              simp only [List.zip_cons_cons, List.zip_nil_right, putsL]
              go_simp
              go_wp2_with ((with_reducible show wpList _ _ _ (Oper.mk _ (Op.store 43 _ _) _ _ _ _ :: _) _ _); refine wpList_storeS sShp rfl _ _ rfl b5 [.slice none 0 0, .slice none 0 0] [.slice Aq 3 3, .slice As 3 3] rfl rfl HB55.out rfl rfl (shp_one _ _ _ _ _ _) ?_)
              intro w8 hb8 hg8
              have l8 := Lib.hid (run_loadS sShp b5 _ hb8 rfl)
              have HRES : Hid (RetPl w (.returned (.tuple #[.pointer (some ⟨S, 0, none⟩), .agg #[.slice Aq 3 3, .slice As 3 3]])) w8) := Lib.hid (by
                obtain ⟨P, A, c, M, A', c', h1, h2, h3, h4, h5, h6, h7, h8, h9, h10⟩ := HT.out
                have hb5' : b5 < wz.heap.size := HB5.out.lt
                have hnf : ¬ Foot S A b5 := fun e => by have := h6 b5 e; omega
                have hw : Below wz.heap.size wz w5 := h9.trans (HBR.out.mono h9.size)
                have hs4 : wz.heap.size ≤ w5.heap.size := hw.size
                refine ⟨S, P, A, c, prs, rs, Aq, As, 3, 3, 3, 3, rfl, HOK.out, h1, h2, ?_, HN.out, HM.out, (((HP4.out.below hw).other hs4 HB55.out slices_no_int hg8).mono (Nat.le_trans hs4 hg8.size)), (((HR4.out.below hw).other hs4 HB55.out slices_no_int hg8).mono (Nat.le_trans hs4 hg8.size)), fun k hk => Nat.le_trans HW4.out.size (h6 k hk), ?_⟩
                · exact (h3.below HBR.out).apart hg8 (fun k e => by injection e with e; rw [← e]; exact hnf)
                · exact (HW4.out.trans (hw.mono HW4.out.size)).trans (grown_below hg8 (Nat.le_trans HW4.out.size hs4) fun k e => by injection e with e; have := HB5E.out; have := HB2E.out.1; omega))
              clear hb8 hg8
              go_wp2
              exact bodyPost_ret (v := .tuple #[.pointer (some ⟨S, 0, none⟩), .agg #[.slice Aq 3 3, .slice As 3 3]]) (by simp [results, Try.results18, asAddr, Sem.run_bind, Sem.run_pure, l8.out]) rfl HRES.out
      · have HTK := HT
        clear HBW
        go_wp2_with fail
        have BX : Hid (∀ w', Below wr.drew.heap.size wr.drew w' → w'.cell? ⟨b2, 0, none⟩ = some (.slice Aq 3 3) ∧ w'.cell? ⟨b2, 1, none⟩ = some (.slice As 3 3)) := Lib.hid fun w' hb' => by
          obtain ⟨P, A, c, M, A', c', h1, h2, h3, h4, h5, h6, h7, h8, h9, h10⟩ := HT.out
          have h11 := (HB2.out.below h9 HB2.out.lt).drew.below hb' (Nat.lt_of_lt_of_le HB2.out.lt h9.size)
          exact ⟨h11.cell rfl, h11.cell rfl⟩
        go_wp2_with fail
        refine region_tails 3 (fun ix9 => ([.is (.pointer (some ⟨S, 0, none⟩)), .is (.agg #[.slice Aq 3 3, .slice As 3 3]), .is (.pointer (some ⟨S, 0, none⟩))] : List VD).getD ix9 (.is undef)) [some 68, some 69, some 4] (by kernel_rfl) (by kernel_rfl) (by kernel_rfl) (by kernel_rfl) rfl (fun ii hii => ?_) ?_
        · match ii, hii with
          | 0, _ => exact mstep_first rfl (mwant_none rfl) 8 (Or.inl rfl) (by kernel_rfl) (fun _ _ => rfl)
          | 1, _ => exact mstep_pure rfl (mwant_none rfl) (fun aa ww cc => ⟨.agg #[.slice Aq 3 3, .slice As 3 3], by have e0 : aa.tmps.getD 2 undef = .pointer (some ⟨b2, 0, none⟩) := (cc.orig 2 (by kernel_rfl)).trans rfl; obtain ⟨q0, q1⟩ := BX.out _ cc.below; simp only [execOp, Act.eval, e0]; go_simp, rfl⟩)
          | 2, _ => exact mstep_copy rfl (mwant_none rfl) 68 (Or.inr rfl) 0 (by kernel_rfl) rfl rfl
          | n + 3, h => exact absurd h (by show ¬ (n + 3 < 3); omega)
        · intro VV w5 hlen hb5 hok
          match VV, hlen with
          | [v0, v1, v2], _ =>
            obtain rfl : v0 = .pointer (some ⟨S, 0, none⟩) := hok 0 68 rfl
            obtain rfl : v1 = .agg #[.slice Aq 3 3, .slice As 3 3] := hok 1 69 rfl
            obtain rfl : v2 = .pointer (some ⟨S, 0, none⟩) := hok 2 4 rfl
            have HB55 : Hid (Blk w5 b5 [.slice none 0 0, .slice none 0 0]) := Lib.hid (by
              obtain ⟨P, A, c, M, A', c', h1, h2, h3, h4, h5, h6, h7, h8, h9, h10⟩ := HT.out
              exact (HB5.out.below h9 HB5.out.lt).below hb5 (Nat.lt_of_lt_of_le HB5.out.lt h9.size))
            have HBR := Lib.hid hb5
            clear hb5 hok BX
            simp only [List.zip_cons_cons, List.zip_nil_right, putsL]
            go_simp
            go_wp2_with ((with_reducible show wpList _ _ _ (Oper.mk _ (Op.store 43 _ _) _ _ _ _ :: _) _ _); refine wpList_storeS sShp rfl _ _ rfl b5 [.slice none 0 0, .slice none 0 0] [.slice Aq 3 3, .slice As 3 3] rfl rfl HB55.out rfl rfl (shp_one _ _ _ _ _ _) ?_)
            intro w8 hb8 hg8
            have l8 := Lib.hid (run_loadS sShp b5 _ hb8 rfl)
            have HRES : Hid (RetPl w (.returned (.tuple #[.pointer (some ⟨S, 0, none⟩), .agg #[.slice Aq 3 3, .slice As 3 3]])) w8) := Lib.hid (by
              obtain ⟨P, A, c, M, A', c', h1, h2, h3, h4, h5, h6, h7, h8, h9, h10⟩ := HT.out
              have hb5' : b5 < wz.heap.size := HB5.out.lt
              have hnf : ¬ Foot S A b5 := fun e => by have := h6 b5 e; omega
              have hw : Below wz.heap.size wz w5 := h9.trans (HBR.out.mono h9.size)
              have hs4 : wz.heap.size ≤ w5.heap.size := hw.size
              refine ⟨S, P, A, c, prs, rs, Aq, As, 3, 3, 3, 3, rfl, HOK.out, h1, h2, ?_, HN.out, HM.out, (((HP4.out.below hw).other hs4 HB55.out slices_no_int hg8).mono (Nat.le_trans hs4 hg8.size)), (((HR4.out.below hw).other hs4 HB55.out slices_no_int hg8).mono (Nat.le_trans hs4 hg8.size)), fun k hk => Nat.le_trans HW4.out.size (h6 k hk), ?_⟩
              · exact (h3.below HBR.out).apart hg8 (fun k e => by injection e with e; rw [← e]; exact hnf)
              · exact (HW4.out.trans (hw.mono HW4.out.size)).trans (grown_below hg8 (Nat.le_trans HW4.out.size hs4) fun k e => by injection e with e; have := HB5E.out; have := HB2E.out.1; omega))
            clear hb8 hg8
            go_wp2
            exact bodyPost_ret (v := .tuple #[.pointer (some ⟨S, 0, none⟩), .agg #[.slice Aq 3 3, .slice As 3 3]]) (by simp [results, Try.results18, asAddr, Sem.run_bind, Sem.run_pure, l8.out]) rfl HRES.out
  · have HOK := Lib.hid hok
    have HW4' : Hid (Below w.heap.size w wt) := Lib.hid (HW4.out.trans (hbt.mono HW4.out.size))
    have HB2' : Hid (Blk wt b2 [.slice Ap fp cp, .slice Ar fr cr]) := Lib.hid (HB2.out.below hbt HB2.out.lt)
    have HB5' : Hid (Blk wt b5 [.slice none 0 0, .slice none 0 0]) := Lib.hid (HB5.out.below hbt HB5.out.lt)
    have HP4' : Hid (RI wt wt.heap.size Ap prs) := Lib.hid ((HP4.out.below hbt).mono hbt.size)
    have HR4' : Hid (RR wt wt.heap.size Ar rs) := Lib.hid ((HR4.out.below hbt).mono hbt.size)
    have HA4' : Hid (RG wt wt.heap.size Aa 4 c4A la) := Lib.hid fun hn => by
      obtain ⟨b, o, hA, hb, hc⟩ := HA4.out.below hbt hn
      exact ⟨b, o, hA, Nat.lt_of_lt_of_le hb hbt.size, hc⟩
    clear hok hm5 hf5 hbt HW4 HB2 HB5 HP4 HR4 HA4 c20 c21
    have HW4 := HW4'
    have HB2 := HB2'
    have HB5 := HB5'
    have HP4 := HP4'
    have HR4 := HR4'
    have HA4 := HA4'
    clear HW4' HB2' HB5' HP4' HR4' HA4'
    have d20 : wt.cell? ⟨b2, 0, none⟩ = some (.slice Ap fp cp) := HB2.out.cell rfl
    have d21 : wt.cell? ⟨b2, 1, none⟩ = some (.slice Ar fr cr) := HB2.out.cell rfl
    go_wp2_with fail
    refine (new_ok wt Ap Ar cp cr prs rs fp fr HN.out HM.out HP4.out HR4.out HOK.out).mono ?_
    rintro e wu ⟨S, A, c, rfl, hm5, hf5, hb5⟩
    have HB25 : Hid (Blk wu b2 [.slice Ap fp cp, .slice Ar fr cr]) := Lib.hid (HB2.out.below hb5 HB2.out.lt)
    have e20 : wu.cell? ⟨b2, 0, none⟩ = some (.slice Ap fp cp) := HB25.out.cell rfl
    have e21 : wu.cell? ⟨b2, 1, none⟩ = some (.slice Ar fr cr) := HB25.out.cell rfl
    have HM5 := Lib.hid hm5
    have HF5 := Lib.hid hf5
    have HBB5 := Lib.hid hb5
    have HP5 : Hid (RI wu wu.heap.size Ap prs) := Lib.hid ((HP4.out.below hb5).mono hb5.size)
    have HR5 : Hid (RR wu wu.heap.size Ar rs) := Lib.hid ((HR4.out.below hb5).mono hb5.size)
    clear hm5 hf5 hb5 d20 d21
    go_wp2_with fail
    refine (rnew_calls wu Ap Ar cp cr prs rs fp fr HN.out HM.out HP5.out HR5.out (by rw [HN.out]; exact Nat.le_trans HOK.out.n8 (by decide)) (by rw [HM.out]; exact Nat.le_trans HOK.out.m8 (by decide))).mono ?_
    rintro e wv (⟨hno, _, _⟩ | ⟨_, R, A', c', rfl, hm6, hf6, hb6⟩)
    · exact absurd HOK.out hno
    have HT0 : Hid (TwoM wt.heap.size wt S R (P0 prs rs) 0 wv) := Lib.hid ⟨P0 prs rs, A, c, M0 prs rs, A', c', P0_inv HOK.out, Same.refl _, HM5.out.below hb6, hm6, M0_inv HOK.out, HF5.out, fun k hk => Nat.le_trans HBB5.out.size (hf6 k hk), fun k hk hk2 => by have h1 := hf6 k hk2; have h2 := SetM.flt HM5.out hk; omega, HBB5.out.trans (hb6.mono HBB5.out.size), Nat.le_refl _⟩
    clear hm6 hf6 hb6 HM5 HF5 HBB5 HP5 HR5 HB25 e20 e21
    go_wp2
    go_loopw [12] (fun s12 wr => ∃ k : Nat, k ≤ na ∧ k ≤ 60 ∧ s12 = .int .i64 (k : Int) ∧ TwoM wt.heap.size wt S R (P0 prs rs) k wr) (fun s12 _ => 60 - (intOf s12).toNat)
    case atStart => exact ⟨0, Nat.zero_le _, Nat.zero_le _, rfl, HT0.out⟩
    case round =>
      obtain ⟨k, hk, hk60, rfl, ht⟩ := hrel
      have HT := Lib.hid ht
      have HBW : Hid (Below wt.heap.size wt wr) := Lib.hid (by obtain ⟨P, A, c, M, A', c', h1, h2, h3, h4, h5, h6, h7, h8, h9, h10⟩ := ht; exact h9)
      clear ht HT0
      by_cases hlt : k < na
      · by_cases hl6 : k < 60
        · have hkl : k < la.length := by rw [← HNA.out]; exact hlt
          obtain ⟨b, o, hA, hb, hc⟩ := HA4.out.get hkl
          obtain ⟨ki, nn, tt, vv, hx⟩ : ∃ a1 a2 a3 a4, la[k] = ⟨a1, a2, a3, a4⟩ := ⟨_, _, _, _, rfl⟩
          rw [hx] at hc
          have HRG : Hid (wr.rangeAt b (o + k * 4) [.int .i64 ki, .int .i64 nn, .int .i64 tt, .int .i64 vv]) := Lib.hid fun f v hv => (HBW.out.cell hb).trans (hc f v hv)
          rw [hA]
          have HAA := Lib.hid hA
          clear hA hb hc hx hkl
          go_wp2_with ((with_reducible show wpList _ _ _ (Oper.mk _ (Op.load 74 _) _ _ _ _ :: _) _ _); refine wpList_load_mid rfl 74 _ rfl b (o + k * 4) rfl [.int .i64 ki, .int .i64 nn, .int .i64 tt, .int .i64 vv] _ HRG.out Try.underlying74 rfl sAct.info ?_)
          refine (do_calls wt.heap.size wt wr S R (P0 prs rs) k HT.out (by omega) ⟨ki, nn, tt, vv⟩).mono ?_
          rintro e w9 ⟨z, rfl, ht9⟩
          have HT9 := Lib.hid ht9
          clear ht9 HT HBW HRG
          go_wp2
          go_roundw
          case rel => exact ⟨k + 1, by omega, by omega, by go_num, HT9.out⟩
          case measure => simp [intOf]; omega
        · have h60 : ¬ ((k : Int) < 60) := by omega
          have HTK := HT
          clear HBW
          go_wp2_with fail
          have BX : Hid (∀ w', Below wr.drew.heap.size wr.drew w' → w'.cell? ⟨b2, 0, none⟩ = some (.slice Ap fp cp) ∧ w'.cell? ⟨b2, 1, none⟩ = some (.slice Ar fr cr)) := Lib.hid fun w' hb' => by
            obtain ⟨P, A, c, M, A', c', h1, h2, h3, h4, h5, h6, h7, h8, h9, h10⟩ := HT.out
            have h11 := (HB2.out.below h9 HB2.out.lt).drew.below hb' (Nat.lt_of_lt_of_le HB2.out.lt h9.size)
            exact ⟨h11.cell rfl, h11.cell rfl⟩
          go_wp2_with fail
          refine region_tails 3 (fun ix9 => ([.is (.pointer (some ⟨S, 0, none⟩)), .is (.agg #[.slice Ap fp cp, .slice Ar fr cr]), .is (.pointer (some ⟨S, 0, none⟩))] : List VD).getD ix9 (.is undef)) [some 68, some 69, some 4] (by kernel_rfl) (by kernel_rfl) (by kernel_rfl) (by kernel_rfl) rfl (fun ii hii => ?_) ?_
          · match ii, hii with
            | 0, _ => exact mstep_first rfl (mwant_none rfl) 8 (Or.inl rfl) (by kernel_rfl) (fun _ _ => rfl)
            | 1, _ => exact mstep_pure rfl (mwant_none rfl) (fun aa ww cc => ⟨.agg #[.slice Ap fp cp, .slice Ar fr cr], by have e0 : aa.tmps.getD 2 undef = .pointer (some ⟨b2, 0, none⟩) := (cc.orig 2 (by kernel_rfl)).trans rfl; obtain ⟨q0, q1⟩ := BX.out _ cc.below; simp only [execOp, Act.eval, e0]; go_simp, rfl⟩)
            | 2, _ => exact mstep_copy rfl (mwant_none rfl) 68 (Or.inr rfl) 0 (by kernel_rfl) rfl rfl
            | n + 3, h => exact absurd h (by show ¬ (n + 3 < 3); omega)
          · intro VV w5 hlen hb5 hok
            match VV, hlen with
            | [v0, v1, v2], _ =>
              obtain rfl : v0 = .pointer (some ⟨S, 0, none⟩) := hok 0 68 rfl
              obtain rfl : v1 = .agg #[.slice Ap fp cp, .slice Ar fr cr] := hok 1 69 rfl
              obtain rfl : v2 = .pointer (some ⟨S, 0, none⟩) := hok 2 4 rfl
              have HB55 : Hid (Blk w5 b5 [.slice none 0 0, .slice none 0 0]) := Lib.hid (by
                obtain ⟨P, A, c, M, A', c', h1, h2, h3, h4, h5, h6, h7, h8, h9, h10⟩ := HT.out
                exact (HB5.out.below h9 HB5.out.lt).below hb5 (Nat.lt_of_lt_of_le HB5.out.lt h9.size))
              have HBR := Lib.hid hb5
              clear hb5 hok BX
              simp only [List.zip_cons_cons, List.zip_nil_right, putsL]
              go_simp
              go_wp2_with ((with_reducible show wpList _ _ _ (Oper.mk _ (Op.store 43 _ _) _ _ _ _ :: _) _ _); refine wpList_storeS sShp rfl _ _ rfl b5 [.slice none 0 0, .slice none 0 0] [.slice Ap fp cp, .slice Ar fr cr] rfl rfl HB55.out rfl rfl (shp_one _ _ _ _ _ _) ?_)
              intro w8 hb8 hg8
              have l8 := Lib.hid (run_loadS sShp b5 _ hb8 rfl)
              have HRES : Hid (RetPl w (.returned (.tuple #[.pointer (some ⟨S, 0, none⟩), .agg #[.slice Ap fp cp, .slice Ar fr cr]])) w8) := Lib.hid (by
                obtain ⟨P, A, c, M, A', c', h1, h2, h3, h4, h5, h6, h7, h8, h9, h10⟩ := HT.out
                have hb5' : b5 < wt.heap.size := HB5.out.lt
                have hnf : ¬ Foot S A b5 := fun e => by have := h6 b5 e; omega
                have hw : Below wt.heap.size wt w5 := h9.trans (HBR.out.mono h9.size)
                have hs4 : wt.heap.size ≤ w5.heap.size := hw.size
                refine ⟨S, P, A, c, prs, rs, Ap, Ar, fp, fr, cp, cr, rfl, HOK.out, h1, h2, ?_, HN.out, HM.out, (((HP4.out.below hw).other hs4 HB55.out slices_no_int hg8).mono (Nat.le_trans hs4 hg8.size)), (((HR4.out.below hw).other hs4 HB55.out slices_no_int hg8).mono (Nat.le_trans hs4 hg8.size)), fun k hk => Nat.le_trans HW4.out.size (h6 k hk), ?_⟩
                · exact (h3.below HBR.out).apart hg8 (fun k e => by injection e with e; rw [← e]; exact hnf)
                · exact (HW4.out.trans (hw.mono HW4.out.size)).trans (grown_below hg8 (Nat.le_trans HW4.out.size hs4) fun k e => by injection e with e; have := HB5E.out; have := HB2E.out.1; omega))
              clear hb8 hg8
              go_wp2
              exact bodyPost_ret (v := .tuple #[.pointer (some ⟨S, 0, none⟩), .agg #[.slice Ap fp cp, .slice Ar fr cr]]) (by simp [results, Try.results18, asAddr, Sem.run_bind, Sem.run_pure, l8.out]) rfl HRES.out
      · have HTK := HT
        clear HBW
        go_wp2_with fail
        have BX : Hid (∀ w', Below wr.drew.heap.size wr.drew w' → w'.cell? ⟨b2, 0, none⟩ = some (.slice Ap fp cp) ∧ w'.cell? ⟨b2, 1, none⟩ = some (.slice Ar fr cr)) := Lib.hid fun w' hb' => by
          obtain ⟨P, A, c, M, A', c', h1, h2, h3, h4, h5, h6, h7, h8, h9, h10⟩ := HT.out
          have h11 := (HB2.out.below h9 HB2.out.lt).drew.below hb' (Nat.lt_of_lt_of_le HB2.out.lt h9.size)
          exact ⟨h11.cell rfl, h11.cell rfl⟩
        go_wp2_with fail
        refine region_tails 3 (fun ix9 => ([.is (.pointer (some ⟨S, 0, none⟩)), .is (.agg #[.slice Ap fp cp, .slice Ar fr cr]), .is (.pointer (some ⟨S, 0, none⟩))] : List VD).getD ix9 (.is undef)) [some 68, some 69, some 4] (by kernel_rfl) (by kernel_rfl) (by kernel_rfl) (by kernel_rfl) rfl (fun ii hii => ?_) ?_
        · match ii, hii with
          | 0, _ => exact mstep_first rfl (mwant_none rfl) 8 (Or.inl rfl) (by kernel_rfl) (fun _ _ => rfl)
          | 1, _ => exact mstep_pure rfl (mwant_none rfl) (fun aa ww cc => ⟨.agg #[.slice Ap fp cp, .slice Ar fr cr], by have e0 : aa.tmps.getD 2 undef = .pointer (some ⟨b2, 0, none⟩) := (cc.orig 2 (by kernel_rfl)).trans rfl; obtain ⟨q0, q1⟩ := BX.out _ cc.below; simp only [execOp, Act.eval, e0]; go_simp, rfl⟩)
          | 2, _ => exact mstep_copy rfl (mwant_none rfl) 68 (Or.inr rfl) 0 (by kernel_rfl) rfl rfl
          | n + 3, h => exact absurd h (by show ¬ (n + 3 < 3); omega)
        · intro VV w5 hlen hb5 hok
          match VV, hlen with
          | [v0, v1, v2], _ =>
            obtain rfl : v0 = .pointer (some ⟨S, 0, none⟩) := hok 0 68 rfl
            obtain rfl : v1 = .agg #[.slice Ap fp cp, .slice Ar fr cr] := hok 1 69 rfl
            obtain rfl : v2 = .pointer (some ⟨S, 0, none⟩) := hok 2 4 rfl
            have HB55 : Hid (Blk w5 b5 [.slice none 0 0, .slice none 0 0]) := Lib.hid (by
              obtain ⟨P, A, c, M, A', c', h1, h2, h3, h4, h5, h6, h7, h8, h9, h10⟩ := HT.out
              exact (HB5.out.below h9 HB5.out.lt).below hb5 (Nat.lt_of_lt_of_le HB5.out.lt h9.size))
            have HBR := Lib.hid hb5
            clear hb5 hok BX
            simp only [List.zip_cons_cons, List.zip_nil_right, putsL]
            go_simp
            go_wp2_with ((with_reducible show wpList _ _ _ (Oper.mk _ (Op.store 43 _ _) _ _ _ _ :: _) _ _); refine wpList_storeS sShp rfl _ _ rfl b5 [.slice none 0 0, .slice none 0 0] [.slice Ap fp cp, .slice Ar fr cr] rfl rfl HB55.out rfl rfl (shp_one _ _ _ _ _ _) ?_)
            intro w8 hb8 hg8
            have l8 := Lib.hid (run_loadS sShp b5 _ hb8 rfl)
            have HRES : Hid (RetPl w (.returned (.tuple #[.pointer (some ⟨S, 0, none⟩), .agg #[.slice Ap fp cp, .slice Ar fr cr]])) w8) := Lib.hid (by
              obtain ⟨P, A, c, M, A', c', h1, h2, h3, h4, h5, h6, h7, h8, h9, h10⟩ := HT.out
              have hb5' : b5 < wt.heap.size := HB5.out.lt
              have hnf : ¬ Foot S A b5 := fun e => by have := h6 b5 e; omega
              have hw : Below wt.heap.size wt w5 := h9.trans (HBR.out.mono h9.size)
              have hs4 : wt.heap.size ≤ w5.heap.size := hw.size
              refine ⟨S, P, A, c, prs, rs, Ap, Ar, fp, fr, cp, cr, rfl, HOK.out, h1, h2, ?_, HN.out, HM.out, (((HP4.out.below hw).other hs4 HB55.out slices_no_int hg8).mono (Nat.le_trans hs4 hg8.size)), (((HR4.out.below hw).other hs4 HB55.out slices_no_int hg8).mono (Nat.le_trans hs4 hg8.size)), fun k hk => Nat.le_trans HW4.out.size (h6 k hk), ?_⟩
              · exact (h3.below HBR.out).apart hg8 (fun k e => by injection e with e; rw [← e]; exact hnf)
              · exact (HW4.out.trans (hw.mono HW4.out.size)).trans (grown_below hg8 (Nat.le_trans HW4.out.size hs4) fun k e => by injection e with e; have := HB5E.out; have := HB2E.out.1; omega))
            clear hb8 hg8
            go_wp2
            exact bodyPost_ret (v := .tuple #[.pointer (some ⟨S, 0, none⟩), .agg #[.slice Ap fp cp, .slice Ar fr cr]]) (by simp [results, Try.results18, asAddr, Sem.run_bind, Sem.run_pure, l8.out]) rfl HRES.out
end Go.Proofs.Ytgeffkdobnipgaa
/- No table is laid in this seat: a world for the witness. -/
namespace Go.Proofs.Ytgeffkdobnipgaa
open Go.ChangeShapes Go.WideShapes Go.ChangeAt Go.RowKit Nac
theorem own : ownKnob Try.prog.godebug = none := by kernel_rfl
/-- A WORLD FOR THE WITNESS: the settled one. -/
noncomputable def laidWorld (os : Os) : World := World.holding Try.prog os ⟨#[], #[], []⟩
theorem laidOut_ok : laidOutB Try.prog = true := by kernel_rfl
end Go.Proofs.Ytgeffkdobnipgaa
