/- PortsSame. -/
import Derived.Test.YtdjphdkoljfndaaPlayed
import Derived.Test.YtdjphdkoljfndaaChClone
namespace Go.Proofs.Ytdjphdkoljfndaa
open Go.RowKit Nac
theorem quiet_below {w w' : World} (h : ∃ n, w' = w.drewN n) : Below w.heap.size w w' := by
  obtain ⟨n, rfl⟩ := h
  exact below_drewN (Below.refl _ _) n
theorem play_ok : ∀ (C : Ch) (_ : C.ok) (xs : List ActP), (∀ x ∈ xs, x.now ≤ 18446744073709551615) → (play C xs).ok := by
  intro C hC xs
  induction xs generalizing C with
  | nil => intro _; exact hC
  | cons x xs ih => intro h; exact ih (Ch.act C x) (Ch.act_ok C hC x (h x List.mem_cons_self)) (fun y hy => h y (List.mem_cons_of_mem _ hy))
theorem ra_now {w : World} {B : Nat} {A : Option Addr} {xs : List ActP} (h : RA w B A xs) : ∀ x ∈ xs, x.now ≤ 18446744073709551615 := by
  intro x hx
  obtain ⟨j, hj, rfl⟩ := List.mem_iff_getElem.1 hx
  obtain ⟨_, _, _, _, _, _, _, hf⟩ := h.get hj
  exact hf.now
/-- what the law remembers -/
structure SmR (w : World) (tc : List Value) (C : Ch) (cb fc : Nat) (X : Ch) (xb fx mb : Nat) (wr : World) : Prop where
  box : Blk wr w.heap.size tc
  okC : C.ok
  f16 : fc < 16
  c : Blk wr cb (ccells C fc)
  okX : X.ok
  fx16 : fx < 16
  x : Blk wr xb (ccells X fx)
  m : ∃ A c, Blk wr mb (chV X A c) ∧ RCh wr X (.agg (chV X A c).toArray)
  bel : Below w.heap.size w wr
  ct : w.heap.size < cb
  cm : cb < mb
  mx : mb < xb
theorem SmR.next {w wr w' : World} {tc : List Value} {C X : Ch} {cb fc xb fx mb : Nat} (h : SmR w tc C cb fc X xb fx mb wr) (hb : Below wr.heap.size wr w') : SmR w tc C cb fc X xb fx mb w' := by
  obtain ⟨A, c, hm, hr⟩ := h.m
  exact ⟨h.box.below hb h.box.lt, h.okC, h.f16, h.c.below hb h.c.lt, h.okX, h.fx16, h.x.below hb h.x.lt, ⟨A, c, hm.below hb hm.lt, hr.below hb⟩, h.bel.trans (hb.mono h.bel.size), h.ct, h.cm, h.mx⟩
def JP7 (cb : Nat) (C : Ch) (f : Nat) (C2 : Ch) (wr : World) (L : Nat → Bool) (w' : World) : Prop :=
  (L 7 = false → Blk w' cb (ccells C f)) ∧ (L 7 = true → ∃ f', f' < 16 ∧ Blk w' cb (ccells C2 f')) ∧ wr.grownBy w' (some cb)
theorem SmR.stored {w w5 : World} {tc : List Value} {C X D : Ch} {cb fc xb mb g f' : Nat} {A A' : Option Addr} {c c' : Nat} (ht : Blk w5 w.heap.size tc) (okC : C.ok) (hfc : fc < 16) (hcb : Blk w5 cb (ccells C fc)) (hok : X.ok) (hf : f' < 16) (hb : Blk w5 xb (ccells X f')) (hx : Blk w5 mb (chV D A' c')) (hg : Blk w5 g zch) (hbl : Below w.heap.size w w5)
    (hrc : RCh w5 X (.agg (chV X A c).toArray)) (h1 : w.heap.size < cb) (h2 : cb < mb) (h3 : mb < xb) (hgm : mb < g) (hgc : g ≠ xb) :
    SmR w tc C cb fc X xb f' mb (set5 (set5 w5 g (.int .i64 X.kind) (.int .i64 X.most) (.int .i64 X.size) (.slice A X.q.length c) (.int .u64 X.lost)) mb (.int .i64 X.kind) (.int .i64 X.most) (.int .i64 X.size) (.slice A X.q.length c) (.int .u64 X.lost)) := by
  have g1 := grown_set5 w5 g (.int .i64 X.kind) (.int .i64 X.most) (.int .i64 X.size) (.slice A X.q.length c) (.int .u64 X.lost)
  obtain ⟨w6, hw6⟩ : ∃ w6, w6 = set5 w5 g (.int .i64 X.kind) (.int .i64 X.most) (.int .i64 X.size) (.slice A X.q.length c) (.int .u64 X.lost) := ⟨_, rfl⟩
  rw [← hw6] at g1 ⊢
  have hx6 := hx.grown g1 (by simp; omega)
  have hb6 := hb.grown g1 (by simpa using hgc)
  have hc6 := hcb.grown g1 (by simp; omega)
  have ht6 := ht.grown g1 (by simp; omega)
  have hbl6 : Below w.heap.size w w6 := hbl.grown g1 hbl.size (fun k e => by injection e with e; omega)
  have hrc6 : RChB w6 w5.heap.size X _ := RChB.grown' (B := w5.heap.size) hrc (Nat.le_refl _) hg (by simp [zch]) g1
  have g2 := grown_set5 w6 mb (.int .i64 X.kind) (.int .i64 X.most) (.int .i64 X.size) (.slice A X.q.length c) (.int .u64 X.lost)
  have hx7 : Blk _ mb (chV X A c) := blk_set5 hx6 (.int .i64 X.kind) (.int .i64 X.most) (.int .i64 X.size) (.slice A X.q.length c) (.int .u64 X.lost)
  have hrc7 := RChB.grown' hrc6 g1.size hx6 (chV_nostr _ _ _) g2
  exact ⟨ht6.grown g2 (by simp; omega), okC, hfc, hc6.grown g2 (by simp; omega), hok, hf, hb6.grown g2 (by simp; omega), ⟨A, c, hx7, hrc7.up (Nat.le_trans g1.size g2.size)⟩, hbl6.grown g2 hbl6.size (fun k e => by injection e with e; omega), h1, h2, h3⟩
set_option maxHeartbeats 8000000 in
set_option maxRecDepth 100000 in
theorem same_law (w : World) (k m s k' m' s' : Int) (A : Option Addr) (c : Nat) (xs : List ActP) (A' : Option Addr) (c' : Nat) (ys : List ActP) (hA : RA w w.heap.size A xs) (h8 : xs.length ≤ 140737488351232) (hA' : RA w w.heap.size A' ys) (h8' : ys.length ≤ 140737488351232) :
    Calls Try.prog 6 #[.agg #[.int .i64 k, .int .i64 m, .int .i64 s, .int .i64 k', .int .i64 m', .int .i64 s', .slice A xs.length c, .slice A' ys.length c']] w fun e w' => e = .returned (.bool true) ∧ Below w.heap.size w w' := by
  have HA := Lib.hid hA
  have HA' := Lib.hid hA'
  obtain ⟨tc, htc⟩ : ∃ tc : List Value, tc = [.int .i64 k, .int .i64 m, .int .i64 s, .int .i64 k', .int .i64 m', .int .i64 s', .slice A xs.length c, .slice A' ys.length c'] := ⟨_, rfl⟩
  have HTC := Lib.hid htc
  have HT0 : Hid (Blk (w.alloc (.cells #[.int .i64 k, .int .i64 m, .int .i64 s, .int .i64 k', .int .i64 m', .int .i64 s', .slice A xs.length c, .slice A' ys.length c'] 45)) w.heap.size tc) := Lib.hid (by rw [htc]; exact Blk.new w _ _)
  have HB0 : Hid (Below w.heap.size w (w.alloc (.cells #[.int .i64 k, .int .i64 m, .int .i64 s, .int .i64 k', .int .i64 m', .int .i64 s', .slice A xs.length c, .slice A' ys.length c'] 45))) := Lib.hid ((Below.refl _ _).alloc (Nat.le_refl _) _)
  have HZ0 : Hid ((w.alloc (.cells #[.int .i64 k, .int .i64 m, .int .i64 s, .int .i64 k', .int .i64 m', .int .i64 s', .slice A xs.length c, .slice A' ys.length c'] 45)).heap.size = w.heap.size + 1) := Lib.hid (by simp)
  have HA0 := Lib.hid (hA.below HB0.out)
  clear hA hA' htc
  go_enter Try.func6, Try.ntmps6
  go_wp2_with fail
  obtain ⟨C, hC⟩ : ∃ C, C = play (ch0 k m s) (xs.take 60) := ⟨_, rfl⟩
  have HC := Lib.hid hC
  refine (played_calls _ k m s w.heap.size HB0.out.size A c xs HA0.out h8).mono ?_
  rintro e w1 ⟨cb, fc, v1, rfl, hr1, hf1, hb1, hge1, hbel1⟩
  rw [← hC] at hr1 hb1
  obtain ⟨Am, cm, rfl⟩ : ∃ Am cm, v1 = .agg (chV C Am cm).toArray := by obtain ⟨Am, cm, hv, _⟩ := hr1; exact ⟨Am, cm, hv⟩
  have HR1 := Lib.hid hr1
  have HC1 := Lib.hid hb1
  have HFC := Lib.hid hf1
  have HG1 : Hid (w.heap.size < cb) := Lib.hid (by rw [HZ0.out] at hge1; omega)
  have HT1 := Lib.hid (HT0.out.below hbel1 HT0.out.lt)
  have HB1 : Hid (Below w.heap.size w w1) := Lib.hid (HB0.out.trans (hbel1.mono HB0.out.size))
  clear hr1 hb1 hf1 hge1 hbel1 HT0 HB0 HA0 hC HZ0
  have t0 : w1.cell? ⟨w.heap.size, 3, none⟩ = some (.int .i64 k') := HT1.out.cell (by rw [HTC.out]; rfl)
  have t1 : w1.cell? ⟨w.heap.size, 4, none⟩ = some (.int .i64 m') := HT1.out.cell (by rw [HTC.out]; rfl)
  have t2 : w1.cell? ⟨w.heap.size, 5, none⟩ = some (.int .i64 s') := HT1.out.cell (by rw [HTC.out]; rfl)
  have t3 : w1.cell? ⟨w.heap.size, 7, none⟩ = some (.slice A' ys.length c') := HT1.out.cell (by rw [HTC.out]; rfl)
  have htl : w.heap.size < w1.heap.size := HT1.out.lt
  simp only [chV]
  go_wp2_with fail
  clear t0 t1 t2 t3 htl
  obtain ⟨W1, hW1⟩ : ∃ W1, W1 = w1.alloc (.cells #[.int .i64 C.kind, .int .i64 C.most, .int .i64 C.size, .slice Am C.q.length cm, .int .u64 C.lost] 48) := ⟨_, rfl⟩
  have hw11 : Below w1.heap.size w1 W1 := by rw [hW1]; exact (Below.refl _ _).alloc (Nat.le_refl _) _
  have hz11 : W1.heap.size = w1.heap.size + 1 := by rw [hW1]; simp
  have hM1 : Blk W1 w1.heap.size (chV C Am cm) := by rw [hW1]; exact Blk.new w1 _ _
  have HM1 := Lib.hid hM1
  have HCW := Lib.hid (HC1.out.below hw11 HC1.out.lt)
  have HTW := Lib.hid (HT1.out.below hw11 HT1.out.lt)
  have HRW := Lib.hid (HR1.out.below hw11)
  have HBW : Hid (Below w.heap.size w W1) := Lib.hid (HB1.out.trans (hw11.mono HB1.out.size))
  have HAW := Lib.hid (HA'.out.below HBW.out)
  obtain ⟨mb, hmb⟩ : ∃ mb, mb = w1.heap.size := ⟨_, rfl⟩
  have HCM : Hid (cb < mb) := Lib.hid (by rw [hmb]; exact HC1.out.lt)
  rw [← hmb] at HM1 ⊢
  rw [← hW1]
  clear hW1 hw11 hz11 hM1 HC1 HT1 HR1 HB1 hmb
  clear w1
  obtain ⟨D, hD⟩ : ∃ D, D = play (ch0 k' m' s') (ys.take 60) := ⟨_, rfl⟩
  refine (played_calls _ k' m' s' w.heap.size HBW.out.size A' c' ys HAW.out h8').mono ?_
  rintro e w2 ⟨db, fd, v2, rfl, hr2, hf2, hb2, hge2, hbel2⟩
  rw [← hD] at hr2 hb2
  obtain ⟨An, cn, rfl⟩ : ∃ An cn, v2 = .agg (chV D An cn).toArray := by obtain ⟨Am, cm, hv, _⟩ := hr2; exact ⟨Am, cm, hv⟩
  have HDOK : Hid D.ok := Lib.hid (by rw [hD]; exact play_ok _ (ch0_ok _ _ _) _ (fun x hx => (ra_now HA'.out x (List.mem_of_mem_take hx))))
  have HCOK : Hid C.ok := Lib.hid (by rw [HC.out]; exact play_ok _ (ch0_ok _ _ _) _ (fun x hx => (ra_now HA.out x (List.mem_of_mem_take hx))))
  have HR2 := Lib.hid hr2
  have HD2 := Lib.hid hb2
  have HFD := Lib.hid hf2
  have HM2 := Lib.hid (HM1.out.below hbel2 HM1.out.lt)
  have HC2 := Lib.hid (HCW.out.below hbel2 HCW.out.lt)
  have HT2 := Lib.hid (HTW.out.below hbel2 HTW.out.lt)
  have HRM2 := Lib.hid (HRW.out.below hbel2)
  have HB2 : Hid (Below w.heap.size w w2) := Lib.hid (HBW.out.trans (hbel2.mono HBW.out.size))
  clear hr2 hb2 hf2 hge2 hbel2 hD HM1 HCW HTW HRW HBW HAW
  clear W1
  simp only [chV]
  go_wp2_with fail
  obtain ⟨W2, hW2⟩ : ∃ W2, W2 = w2.alloc (.cells #[.int .i64 D.kind, .int .i64 D.most, .int .i64 D.size, .slice An D.q.length cn, .int .u64 D.lost] 48) := ⟨_, rfl⟩
  have hw22 : Below w2.heap.size w2 W2 := by rw [hW2]; exact (Below.refl _ _).alloc (Nat.le_refl _) _
  have hN2 : Blk W2 w2.heap.size (chV D An cn) := by rw [hW2]; exact Blk.new w2 _ _
  have HN2 := Lib.hid hN2
  have HRN := Lib.hid (HR2.out.below hw22)
  have HDW := Lib.hid (HD2.out.below hw22 HD2.out.lt)
  have HMW := Lib.hid (HM2.out.below hw22 HM2.out.lt)
  have HCW := Lib.hid (HC2.out.below hw22 HC2.out.lt)
  have HTW := Lib.hid (HT2.out.below hw22 HT2.out.lt)
  have HRMW := Lib.hid (HRM2.out.below hw22)
  have HBW : Hid (Below w.heap.size w W2) := Lib.hid (HB2.out.trans (hw22.mono HB2.out.size))
  obtain ⟨nb, hnb⟩ : ∃ nb, nb = w2.heap.size := ⟨_, rfl⟩
  rw [← hnb] at HN2 ⊢
  rw [← hW2]
  clear hW2 hw22 hN2 HC2 HD2 HT2 HR2 HM2 HB2 HRM2 hnb
  clear w2
  refine (clone_calls W2 cb C HCOK.out fc HCW.out).mono ?_
  rintro e w3 ⟨xb, rfl, hx3, hgx, hb3⟩
  have HX3 := Lib.hid hx3
  have HS3 : Hid (SmR w tc C cb fc C xb fc mb w3) := Lib.hid ⟨HTW.out.below hb3 HTW.out.lt, HCOK.out, HFC.out, HCW.out.below hb3 HCW.out.lt, HCOK.out, HFC.out, hx3, ⟨Am, cm, HMW.out.below hb3 HMW.out.lt, HRMW.out.below hb3⟩, HBW.out.trans (hb3.mono HBW.out.size), HG1.out, HCM.out, Nat.lt_of_lt_of_le HMW.out.lt hgx⟩
  have HD3 := Lib.hid (HDW.out.below hb3 HDW.out.lt)
  have HN3 := Lib.hid (HN2.out.below hb3 HN2.out.lt)
  have HRN3 := Lib.hid (HRN.out.below hb3)
  have HM3 := Lib.hid (HMW.out.below hb3 HMW.out.lt)
  have HRM3 := Lib.hid (HRMW.out.below hb3)
  clear hx3 hgx hb3 HTW HCW HMW HRMW HBW HDW HN2 HRN HG1 HCM
  clear W2
  obtain ⟨bb, hbb⟩ : ∃ bb, bb = decide (C = D) := ⟨_, rfl⟩
  have hbb' : bb = decide (D = C) := by rw [hbb]; exact decide_eq_decide.2 eq_comm
  have SCD : Hid (∀ w', Below w3.drew.heap.size w3.drew w' → Calls Try.prog 15 #[.pointer (some ⟨cb, 0, none⟩), .pointer (some ⟨db, 0, none⟩)] w' fun e w'' => ∃ v, e = .returned v ∧ v = .bool bb ∧ Below w'.heap.size w' w'') := Lib.hid fun w' hb => by
    refine (same_calls w' cb fc db fd C D HCOK.out HDOK.out HFC.out HFD.out (Blk.below (w := w3.drew) HS3.out.c hb HS3.out.c.lt) (Blk.below (w := w3.drew) HD3.out hb HD3.out.lt)).mono ?_
    rintro e w'' ⟨rfl, hq⟩
    exact ⟨_, rfl, by rw [hbb], quiet_below hq⟩
  have SDC : Hid (∀ w', Below w3.drew.heap.size w3.drew w' → Calls Try.prog 15 #[.pointer (some ⟨db, 0, none⟩), .pointer (some ⟨cb, 0, none⟩)] w' fun e w'' => ∃ v, e = .returned v ∧ v = .bool bb ∧ Below w'.heap.size w' w'') := Lib.hid fun w' hb => by
    refine (same_calls w' db fd cb fc D C HDOK.out HCOK.out HFD.out HFC.out (Blk.below (w := w3.drew) HD3.out hb HD3.out.lt) (Blk.below (w := w3.drew) HS3.out.c hb HS3.out.c.lt)).mono ?_
    rintro e w'' ⟨rfl, hq⟩
    exact ⟨_, rfl, by rw [hbb'], quiet_below hq⟩
  have SXC : Hid (∀ w', Below w3.drew.heap.size w3.drew w' → Calls Try.prog 15 #[.pointer (some ⟨xb, 0, none⟩), .pointer (some ⟨cb, 0, none⟩)] w' fun e w'' => ∃ v, e = .returned v ∧ v = .bool true ∧ Below w'.heap.size w' w'') := Lib.hid fun w' hb => by
    refine (same_calls w' xb fc cb fc C C HCOK.out HCOK.out HFC.out HFC.out (Blk.below (w := w3.drew) HX3.out hb HX3.out.lt) (Blk.below (w := w3.drew) HS3.out.c hb HS3.out.c.lt)).mono ?_
    rintro e w'' ⟨rfl, hq⟩
    exact ⟨_, rfl, by rw [decide_eq_true rfl], quiet_below hq⟩
  have SCC : Hid (∀ w', Below w3.drew.heap.size w3.drew w' → Calls Try.prog 15 #[.pointer (some ⟨cb, 0, none⟩), .pointer (some ⟨cb, 0, none⟩)] w' fun e w'' => ∃ v, e = .returned v ∧ v = .bool true ∧ Below w'.heap.size w' w'') := Lib.hid fun w' hb => by
    refine (same_calls w' cb fc cb fc C C HCOK.out HCOK.out HFC.out HFC.out (Blk.below (w := w3.drew) HS3.out.c hb HS3.out.c.lt) (Blk.below (w := w3.drew) HS3.out.c hb HS3.out.c.lt)).mono ?_
    rintro e w'' ⟨rfl, hq⟩
    exact ⟨_, rfl, by rw [decide_eq_true rfl], quiet_below hq⟩
  have SMN : Hid (∀ w', Below w3.drew.heap.size w3.drew w' → Calls Try.prog 16 #[.agg #[.int .i64 C.kind, .int .i64 C.most, .int .i64 C.size, .slice Am C.q.length cm, .int .u64 C.lost], .agg #[.int .i64 D.kind, .int .i64 D.most, .int .i64 D.size, .slice An D.q.length cn, .int .u64 D.lost]] w' fun e w'' => ∃ v, e = .returned v ∧ v = .bool bb ∧ Below w'.heap.size w' w'') := Lib.hid fun w' hb => by
    refine (refsame_calls w' C D HCOK.out HDOK.out _ _ (RCh.below (w := w3.drew) HRM3.out hb) (RCh.below (w := w3.drew) HRN3.out hb)).mono ?_
    rintro e w'' ⟨rfl, hq⟩
    exact ⟨_, rfl, by rw [hbb], hq⟩
  have MB : Hid (∀ w', Below w3.drew.heap.size w3.drew w' → w'.cell? ⟨mb, 0, none⟩ = some (.int .i64 C.kind) ∧ w'.cell? ⟨mb, 1, none⟩ = some (.int .i64 C.most) ∧ w'.cell? ⟨mb, 2, none⟩ = some (.int .i64 C.size) ∧ w'.cell? ⟨mb, 3, none⟩ = some (.slice Am C.q.length cm) ∧ w'.cell? ⟨mb, 4, none⟩ = some (.int .u64 C.lost)) := Lib.hid fun w' hb => by
    have h := Blk.below (w := w3.drew) HM3.out hb HM3.out.lt
    exact ⟨h.cell rfl, h.cell rfl, h.cell rfl, h.cell rfl, h.cell rfl⟩
  have NB : Hid (∀ w', Below w3.drew.heap.size w3.drew w' → w'.cell? ⟨nb, 0, none⟩ = some (.int .i64 D.kind) ∧ w'.cell? ⟨nb, 1, none⟩ = some (.int .i64 D.most) ∧ w'.cell? ⟨nb, 2, none⟩ = some (.int .i64 D.size) ∧ w'.cell? ⟨nb, 3, none⟩ = some (.slice An D.q.length cn) ∧ w'.cell? ⟨nb, 4, none⟩ = some (.int .u64 D.lost)) := Lib.hid fun w' hb => by
    have h := Blk.below (w := w3.drew) HN3.out hb HN3.out.lt
    exact ⟨h.cell rfl, h.cell rfl, h.cell rfl, h.cell rfl, h.cell rfl⟩
  clear hbb hbb'
  go_wp2_with fail
  refine region_monos (fun ix9 => ([.is (.pointer (some ⟨cb, 0, none⟩)), .is (.pointer (some ⟨db, 0, none⟩)), .is (.bool bb), .is (.agg #[.int .i64 C.kind, .int .i64 C.most, .int .i64 C.size, .slice Am C.q.length cm, .int .u64 C.lost]), .is (.agg #[.int .i64 D.kind, .int .i64 D.most, .int .i64 D.size, .slice An D.q.length cn, .int .u64 D.lost]), .is (.bool bb), .is (.bool false), .is (.bool false), .is (.pointer (some ⟨db, 0, none⟩)), .is (.pointer (some ⟨cb, 0, none⟩)), .is (.bool bb), .is (.pointer (some ⟨cb, 0, none⟩)), .is (.pointer (some ⟨db, 0, none⟩)), .is (.bool bb), .is (.bool false), .is (.bool false), .is (.bool false), .is (.pointer (some ⟨xb, 0, none⟩)), .is (.pointer (some ⟨cb, 0, none⟩)), .is (.bool true), .is (.bool false), .is (.bool false), .is (.bool false), .is (.pointer (some ⟨cb, 0, none⟩)), .is (.pointer (some ⟨cb, 0, none⟩)), .is (.bool true), .is (.bool false), .is (.bool false)] : List VD).getD ix9 (.is undef)) [some 37, some 38, some 39, some 40, some 41, some 42, some 43, some 44, some 45, some 46, some 47, some 48, some 49, some 50, some 51, some 52, some 53, some 54, some 55, some 56, some 57, some 58, some 59, some 60, some 61, some 62, some 63, some 64] (by kernel_rfl) (by kernel_rfl) (by kernel_rfl) rfl (fun ii hii => ?_) ?_
  · match ii, hii with
    | 0, _ => exact mstep_first rfl (mwant_none rfl) 3 (Or.inl rfl) (by kernel_rfl) (fun _ _ => rfl)
    | 1, _ => exact mstep_first rfl (mwant_none rfl) 5 (Or.inl rfl) (by kernel_rfl) (fun _ _ => rfl)
    | 2, _ => exact mstep_call rfl (mwant_none rfl) _ _ _ rfl (enters_of Try.func15 (by kernel_rfl) rfl) (fun aa ww cc => by have e0 : aa.tmps.getD 37 undef = .pointer (some ⟨cb, 0, none⟩) := cc.slot 0 37 (by kernel_rfl) rfl; have e1 : aa.tmps.getD 38 undef = .pointer (some ⟨db, 0, none⟩) := cc.slot 1 38 (by kernel_rfl) rfl; simp only [List.map_toArray, List.map_cons, List.map_nil, Act.eval, e0, e1]; exact (SCD.out) ww cc.below)
    | 3, _ => exact mstep_pure rfl (mwant_none rfl) (fun aa ww cc => ⟨.agg #[.int .i64 C.kind, .int .i64 C.most, .int .i64 C.size, .slice Am C.q.length cm, .int .u64 C.lost], by have e0 : aa.tmps.getD 4 undef = .pointer (some ⟨mb, 0, none⟩) := (cc.orig 4 (by kernel_rfl)).trans rfl; obtain ⟨m0, m1, m2, m3, m4⟩ := MB.out _ cc.below; simp only [execOp, Act.eval, e0]; go_simp, rfl⟩)
    | 4, _ => exact mstep_pure rfl (mwant_none rfl) (fun aa ww cc => ⟨.agg #[.int .i64 D.kind, .int .i64 D.most, .int .i64 D.size, .slice An D.q.length cn, .int .u64 D.lost], by have e0 : aa.tmps.getD 6 undef = .pointer (some ⟨nb, 0, none⟩) := (cc.orig 6 (by kernel_rfl)).trans rfl; obtain ⟨m0, m1, m2, m3, m4⟩ := NB.out _ cc.below; simp only [execOp, Act.eval, e0]; go_simp, rfl⟩)
    | 5, _ => exact mstep_call rfl (mwant_none rfl) _ _ _ rfl (enters_of Try.func16 (by kernel_rfl) rfl) (fun aa ww cc => by have e0 : aa.tmps.getD 40 undef = .agg #[.int .i64 C.kind, .int .i64 C.most, .int .i64 C.size, .slice Am C.q.length cm, .int .u64 C.lost] := cc.slot 3 40 (by kernel_rfl) rfl; have e1 : aa.tmps.getD 41 undef = .agg #[.int .i64 D.kind, .int .i64 D.most, .int .i64 D.size, .slice An D.q.length cn, .int .u64 D.lost] := cc.slot 4 41 (by kernel_rfl) rfl; simp only [List.map_toArray, List.map_cons, List.map_nil, Act.eval, e0, e1]; exact (SMN.out) ww cc.below)
    | 6, _ => exact mstep_pure rfl (mwant_none rfl) (fun aa ww cc => ⟨.bool false, by have e0 : aa.tmps.getD 39 undef = .bool bb := cc.slot 2 39 (by kernel_rfl) rfl; have e1 : aa.tmps.getD 42 undef = .bool bb := cc.slot 5 42 (by kernel_rfl) rfl; simp only [execOp, Act.eval, e0, e1]; go_simp, rfl⟩)
    | 7, _ => exact mstep_copy rfl (mwant_none rfl) 43 (Or.inl rfl) 6 (by kernel_rfl) rfl rfl
    | 8, _ => exact mstep_first rfl (mwant 7 false 44 rfl (by kernel_rfl) rfl rfl (by kernel_rfl)) 5 (Or.inl rfl) (by kernel_rfl) (fun _ _ => rfl)
    | 9, _ => exact mstep_first rfl (mwant 7 false 44 rfl (by kernel_rfl) rfl rfl (by kernel_rfl)) 3 (Or.inl rfl) (by kernel_rfl) (fun _ _ => rfl)
    | 10, _ => exact mstep_call rfl (mwant 7 false 44 rfl (by kernel_rfl) rfl rfl (by kernel_rfl)) _ _ _ rfl (enters_of Try.func15 (by kernel_rfl) rfl) (fun aa ww cc => by have e0 : aa.tmps.getD 45 undef = .pointer (some ⟨db, 0, none⟩) := cc.slot 8 45 (by kernel_rfl) rfl; have e1 : aa.tmps.getD 46 undef = .pointer (some ⟨cb, 0, none⟩) := cc.slot 9 46 (by kernel_rfl) rfl; simp only [List.map_toArray, List.map_cons, List.map_nil, Act.eval, e0, e1]; exact (SDC.out) ww cc.below)
    | 11, _ => exact mstep_first rfl (mwant 7 false 44 rfl (by kernel_rfl) rfl rfl (by kernel_rfl)) 3 (Or.inl rfl) (by kernel_rfl) (fun _ _ => rfl)
    | 12, _ => exact mstep_first rfl (mwant 7 false 44 rfl (by kernel_rfl) rfl rfl (by kernel_rfl)) 5 (Or.inl rfl) (by kernel_rfl) (fun _ _ => rfl)
    | 13, _ => exact mstep_call rfl (mwant 7 false 44 rfl (by kernel_rfl) rfl rfl (by kernel_rfl)) _ _ _ rfl (enters_of Try.func15 (by kernel_rfl) rfl) (fun aa ww cc => by have e0 : aa.tmps.getD 48 undef = .pointer (some ⟨cb, 0, none⟩) := cc.slot 11 48 (by kernel_rfl) rfl; have e1 : aa.tmps.getD 49 undef = .pointer (some ⟨db, 0, none⟩) := cc.slot 12 49 (by kernel_rfl) rfl; simp only [List.map_toArray, List.map_cons, List.map_nil, Act.eval, e0, e1]; exact (SCD.out) ww cc.below)
    | 14, _ => exact mstep_pure rfl (mwant 7 false 44 rfl (by kernel_rfl) rfl rfl (by kernel_rfl)) (fun aa ww cc => ⟨.bool false, by have e0 : aa.tmps.getD 47 undef = .bool bb := cc.slot 10 47 (by kernel_rfl) rfl; have e1 : aa.tmps.getD 50 undef = .bool bb := cc.slot 13 50 (by kernel_rfl) rfl; simp only [execOp, Act.eval, e0, e1]; go_simp, rfl⟩)
    | 15, _ => exact mstep_pure rfl (mwant_none rfl) (fun aa ww cc => ⟨.bool false, by have e0 : aa.tmps.getD 44 undef = .bool false := cc.slot 7 44 (by kernel_rfl) rfl; have e1 : aa.tmps.getD 51 undef = .bool false := cc.slot 14 51 (by kernel_rfl) rfl; simp only [execOp, Act.eval, e0, e1]; go_simp, rfl⟩)
    | 16, _ => exact mstep_copy rfl (mwant_none rfl) 52 (Or.inl rfl) 15 (by kernel_rfl) rfl rfl
    | 17, _ => exact mstep_first rfl (mwant 16 false 53 rfl (by kernel_rfl) rfl rfl (by kernel_rfl)) 7 (Or.inl rfl) (by kernel_rfl) (fun _ _ => rfl)
    | 18, _ => exact mstep_first rfl (mwant 16 false 53 rfl (by kernel_rfl) rfl rfl (by kernel_rfl)) 3 (Or.inl rfl) (by kernel_rfl) (fun _ _ => rfl)
    | 19, _ => exact mstep_call rfl (mwant 16 false 53 rfl (by kernel_rfl) rfl rfl (by kernel_rfl)) _ _ _ rfl (enters_of Try.func15 (by kernel_rfl) rfl) (fun aa ww cc => by have e0 : aa.tmps.getD 54 undef = .pointer (some ⟨xb, 0, none⟩) := cc.slot 17 54 (by kernel_rfl) rfl; have e1 : aa.tmps.getD 55 undef = .pointer (some ⟨cb, 0, none⟩) := cc.slot 18 55 (by kernel_rfl) rfl; simp only [List.map_toArray, List.map_cons, List.map_nil, Act.eval, e0, e1]; exact (SXC.out) ww cc.below)
    | 20, _ => exact mstep_pure rfl (mwant 16 false 53 rfl (by kernel_rfl) rfl rfl (by kernel_rfl)) (fun aa ww cc => ⟨.bool false, by have e0 : aa.tmps.getD 56 undef = .bool true := cc.slot 19 56 (by kernel_rfl) rfl; simp only [execOp, Act.eval, e0]; go_simp, rfl⟩)
    | 21, _ => exact mstep_pure rfl (mwant_none rfl) (fun aa ww cc => ⟨.bool false, by have e0 : aa.tmps.getD 53 undef = .bool false := cc.slot 16 53 (by kernel_rfl) rfl; have e1 : aa.tmps.getD 57 undef = .bool false := cc.slot 20 57 (by kernel_rfl) rfl; simp only [execOp, Act.eval, e0, e1]; go_simp, rfl⟩)
    | 22, _ => exact mstep_copy rfl (mwant_none rfl) 58 (Or.inl rfl) 21 (by kernel_rfl) rfl rfl
    | 23, _ => exact mstep_first rfl (mwant 22 false 59 rfl (by kernel_rfl) rfl rfl (by kernel_rfl)) 3 (Or.inl rfl) (by kernel_rfl) (fun _ _ => rfl)
    | 24, _ => exact mstep_first rfl (mwant 22 false 59 rfl (by kernel_rfl) rfl rfl (by kernel_rfl)) 3 (Or.inl rfl) (by kernel_rfl) (fun _ _ => rfl)
    | 25, _ => exact mstep_call rfl (mwant 22 false 59 rfl (by kernel_rfl) rfl rfl (by kernel_rfl)) _ _ _ rfl (enters_of Try.func15 (by kernel_rfl) rfl) (fun aa ww cc => by have e0 : aa.tmps.getD 60 undef = .pointer (some ⟨cb, 0, none⟩) := cc.slot 23 60 (by kernel_rfl) rfl; have e1 : aa.tmps.getD 61 undef = .pointer (some ⟨cb, 0, none⟩) := cc.slot 24 61 (by kernel_rfl) rfl; simp only [List.map_toArray, List.map_cons, List.map_nil, Act.eval, e0, e1]; exact (SCC.out) ww cc.below)
    | 26, _ => exact mstep_pure rfl (mwant 22 false 59 rfl (by kernel_rfl) rfl rfl (by kernel_rfl)) (fun aa ww cc => ⟨.bool false, by have e0 : aa.tmps.getD 62 undef = .bool true := cc.slot 25 62 (by kernel_rfl) rfl; simp only [execOp, Act.eval, e0]; go_simp, rfl⟩)
    | 27, _ => exact mstep_pure rfl (mwant_none rfl) (fun aa ww cc => ⟨.bool false, by have e0 : aa.tmps.getD 59 undef = .bool false := cc.slot 22 59 (by kernel_rfl) rfl; have e1 : aa.tmps.getD 63 undef = .bool false := cc.slot 26 63 (by kernel_rfl) rfl; simp only [execOp, Act.eval, e0, e1]; go_simp, rfl⟩)
    | n + 28, h => exact absurd h (by show ¬ (n + 28 < 28); omega)
  · intro VV w5 hlen hb5 hok
    match VV, hlen with
    | [v0, v1, v2, v3, v4, v5, v6, v7, v8, v9, v10, v11, v12, v13, v14, v15, v16, v17, v18, v19, v20, v21, v22, v23, v24, v25, v26, v27], _ =>
      obtain rfl : v0 = .pointer (some ⟨cb, 0, none⟩) := hok 0 37 rfl
      obtain rfl : v1 = .pointer (some ⟨db, 0, none⟩) := hok 1 38 rfl
      obtain rfl : v2 = .bool bb := hok 2 39 rfl
      obtain rfl : v3 = .agg #[.int .i64 C.kind, .int .i64 C.most, .int .i64 C.size, .slice Am C.q.length cm, .int .u64 C.lost] := hok 3 40 rfl
      obtain rfl : v4 = .agg #[.int .i64 D.kind, .int .i64 D.most, .int .i64 D.size, .slice An D.q.length cn, .int .u64 D.lost] := hok 4 41 rfl
      obtain rfl : v5 = .bool bb := hok 5 42 rfl
      obtain rfl : v6 = .bool false := hok 6 43 rfl
      obtain rfl : v7 = .bool false := hok 7 44 rfl
      obtain rfl : v8 = .pointer (some ⟨db, 0, none⟩) := hok 8 45 rfl
      obtain rfl : v9 = .pointer (some ⟨cb, 0, none⟩) := hok 9 46 rfl
      obtain rfl : v10 = .bool bb := hok 10 47 rfl
      obtain rfl : v11 = .pointer (some ⟨cb, 0, none⟩) := hok 11 48 rfl
      obtain rfl : v12 = .pointer (some ⟨db, 0, none⟩) := hok 12 49 rfl
      obtain rfl : v13 = .bool bb := hok 13 50 rfl
      obtain rfl : v14 = .bool false := hok 14 51 rfl
      obtain rfl : v15 = .bool false := hok 15 52 rfl
      obtain rfl : v16 = .bool false := hok 16 53 rfl
      obtain rfl : v17 = .pointer (some ⟨xb, 0, none⟩) := hok 17 54 rfl
      obtain rfl : v18 = .pointer (some ⟨cb, 0, none⟩) := hok 18 55 rfl
      obtain rfl : v19 = .bool true := hok 19 56 rfl
      obtain rfl : v20 = .bool false := hok 20 57 rfl
      obtain rfl : v21 = .bool false := hok 21 58 rfl
      obtain rfl : v22 = .bool false := hok 22 59 rfl
      obtain rfl : v23 = .pointer (some ⟨cb, 0, none⟩) := hok 23 60 rfl
      obtain rfl : v24 = .pointer (some ⟨cb, 0, none⟩) := hok 24 61 rfl
      obtain rfl : v25 = .bool true := hok 25 62 rfl
      obtain rfl : v26 = .bool false := hok 26 63 rfl
      obtain rfl : v27 = .bool false := hok 27 64 rfl
      have HS5 : Hid (SmR w tc C cb fc C xb fc mb w5) := Lib.hid (HS3.out.next hb5)
      clear hok hb5 hlen SCD SDC SXC SCC SMN MB NB HS3 HD3 HN3 HRN3 HM3 HRM3 HX3
      refine (by assumption : ∀ (a : Act) (w : World), Code.wp _ _ _ a w → _) _ _ ?_
      simp only [List.zip_cons_cons, List.zip_nil_right, putsL]
      go_simp
      obtain ⟨n, hn⟩ : ∃ n, n = min ys.length 30 := ⟨_, rfl⟩
      have hnx : n ≤ ys.length := by omega
      have hn6 : n ≤ 30 := by omega
      have HN := Lib.hid hn
      clear hn
      go_wp2_with fail
      go_loopw [8] (fun s8 wr => ∃ (i f : Nat), i ≤ n ∧ s8 = .int .i64 i ∧ SmR w tc C cb fc (play C (ys.take i)) xb f mb wr) (fun s8 _ => n - (intOf s8).toNat)
      case atStart => exact ⟨0, fc, Nat.zero_le _, rfl, HS5.out⟩
      case round =>
        obtain ⟨i, f, hi, rfl, hP⟩ := hrel
        clear HS5
        have c7 : wr.cell? ⟨w.heap.size, 7, none⟩ = some (.slice A' ys.length c') := hP.box.cell (by rw [HTC.out]; rfl)
        have c6 : wr.cell? ⟨w.heap.size, 6, none⟩ = some (.slice A xs.length c) := hP.box.cell (by rw [HTC.out]; rfl)
        have c0 : wr.cell? ⟨w.heap.size, 0, none⟩ = some (.int .i64 k) := hP.box.cell (by rw [HTC.out]; rfl)
        have c1 : wr.cell? ⟨w.heap.size, 1, none⟩ = some (.int .i64 m) := hP.box.cell (by rw [HTC.out]; rfl)
        have c2 : wr.cell? ⟨w.heap.size, 2, none⟩ = some (.int .i64 s) := hP.box.cell (by rw [HTC.out]; rfl)
        by_cases hlt : i < n
        · have hix : i < ys.length := by omega
          have hi60 : (i : Int) < 30 := by omega
          obtain ⟨b, o, hAe, hb, hc0, hc1, hc2, hfit⟩ := HA'.out.get hix
          subst hAe
          obtain ⟨x, hx⟩ : ∃ x, x = ys[i] := ⟨_, rfl⟩
          rw [← hx] at hc0 hc1 hc2 hfit
          obtain ⟨C2, hC2⟩ : ∃ C2, C2 = play C (ys.take (i + 1)) := ⟨_, rfl⟩
          obtain ⟨D9, hD⟩ : ∃ D9, D9 = play C (ys.take i) := ⟨_, rfl⟩
          have hact : C2 = Ch.act D9 x := by rw [hC2, hD, List.take_succ_eq_append_getElem hix, play_snoc, hx]
          have HC2 := Lib.hid hC2
          have HACT := Lib.hid hact
          rw [← hD] at hP
          have HP := Lib.hid hP
          have HFIT := Lib.hid hfit
          obtain ⟨Am2, cm2, hbox, hrch⟩ := hP.m
          have hmx := hP.mx
          have hcm := hP.cm
          have hct := hP.ct
          have hbel := hP.bel
          have hxw := hP.x.lt
          clear hx hC2 hD hact hfit
          obtain ⟨kd, md, sd, lo, q⟩ := D9
          simp only [chV] at hbox hrch
          have MB : Hid (∀ w', wr.grownBy w' (some xb) → w'.cell? ⟨mb, 0, none⟩ = some (.int .i64 kd) ∧ w'.cell? ⟨mb, 1, none⟩ = some (.int .i64 md) ∧ w'.cell? ⟨mb, 2, none⟩ = some (.int .i64 sd) ∧ w'.cell? ⟨mb, 3, none⟩ = some (.slice Am2 q.length cm2) ∧ w'.cell? ⟨mb, 4, none⟩ = some (.int .u64 lo)) := Lib.hid fun w' hg => by
            have h := hbox.grown hg (by simp; omega)
            exact ⟨h.cell rfl, h.cell rfl, h.cell rfl, h.cell rfl, h.cell rfl⟩
          have TB : Hid (∀ w', wr.grownBy w' (some xb) → w'.cell? ⟨w.heap.size, 7, none⟩ = some (.slice (some ⟨b, o, none⟩) ys.length c')) := Lib.hid fun w' hg => (HP.out.box.grown hg (by simp; omega)).cell (by rw [HTC.out]; rfl)
          have hcell : ∀ w', wr.grownBy w' (some xb) → ∀ k, w'.cell? ⟨b, k, none⟩ = w.cell? ⟨b, k, none⟩ := fun w' hg k => (hbel.grown hg hbel.size (fun j e => by injection e with e; omega)).cell (p := ⟨b, k, none⟩) hb
          have XB : Hid (∀ w', wr.grownBy w' (some xb) → w'.cell? ⟨b, o + i * 3, none⟩ = some (.bool x.recv) ∧ w'.cell? ⟨b, o + i * 3 + 1, none⟩ = some (.slice x.A x.l.length x.c) ∧ w'.cell? ⟨b, o + i * 3 + 2, none⟩ = some (.int .u64 x.now)) := Lib.hid fun w' hg => ⟨(hcell w' hg _).trans hc0, (hcell w' hg _).trans hc1, (hcell w' hg _).trans hc2⟩
          have HN1 := Lib.hid (hrch.apart HP.out.x)
          have DO : Hid (∀ (LL : Nat → Bool) (w' : World), JP7 xb ⟨kd, md, sd, lo, q⟩ f C2 wr LL w' → LL 7 = false → Calls Try.prog 17 #[.pointer (some ⟨xb, 0, none⟩), .agg #[.int .i64 kd, .int .i64 md, .int .i64 sd, .slice Am2 q.length cm2, .int .u64 lo], .agg #[.bool x.recv, .slice x.A x.l.length x.c, .int .u64 x.now]] w' fun e w'' => ∃ v, e = .returned v ∧ (rTup xb C2).ok v w'' ∧ w'.grownBy w'' (some xb) ∧ JP7 xb ⟨kd, md, sd, lo, q⟩ f C2 wr (upd LL 7) w'') := Lib.hid fun LL w' hJ hl => by
            obtain ⟨j1, j2, j3⟩ := hJ
            have hbl : Below w.heap.size w w' := hbel.grown j3 hbel.size (fun j e => by injection e with e; omega)
            have hft : x.fits w' w.heap.size := ⟨HFIT.out.rb.below hbl, HFIT.out.cap, HFIT.out.len, HFIT.out.now⟩
            refine (do_calls w' w'.heap.size (Nat.le_refl _) xb f _ HP.out.okX HP.out.fx16 (j1 hl) _ ((HN1.out.keep j3).rch) w.heap.size (by omega) x hft).mono ?_
            rintro e w'' ⟨v, f', rfl, hv, hf', hb', hg'⟩
            rw [← HACT.out] at hv hb'
            exact ⟨_, rfl, ⟨v, rfl, hv.apart hb'⟩, hg', fun h => by simp [upd] at h, fun _ => ⟨f', hf', hb'⟩, j3.trans hg'⟩
          have AL : Hid (∀ (LL : Nat → Bool) (w' : World), JP7 xb ⟨kd, md, sd, lo, q⟩ f C2 wr LL w' → (rBox xb wr.heap.size).ok (.pointer (some ⟨w'.heap.size, 0, none⟩)) (w'.alloc (.cells (Value.agg zch.toArray).cells 48)) ∧ w'.grownBy (w'.alloc (.cells (Value.agg zch.toArray).cells 48)) (some xb) ∧ JP7 xb ⟨kd, md, sd, lo, q⟩ f C2 wr (upd LL 11) (w'.alloc (.cells (Value.agg zch.toArray).cells 48))) := Lib.hid fun LL w' hJ => by
            obtain ⟨j1, j2, j3⟩ := hJ
            refine ⟨⟨w'.heap.size, rfl, Blk.new w' zch _, fun e => by have := j3.size; omega, j3.size⟩, World.grownBy_alloc _ _ _, fun h => (j1 h).alloc _, fun h => ?_, j3.trans (World.grownBy_alloc _ _ _)⟩
            obtain ⟨f', hf', hb'⟩ := j2 h
            exact ⟨f', hf', hb'.alloc _⟩
          have HJ0 : Hid (JP7 xb ⟨kd, md, sd, lo, q⟩ f C2 wr (fun _ => false) wr.drew) := Lib.hid ⟨fun _ => HP.out.x, (fun h => by cases h), grown_drew (World.grownBy.refl wr _)⟩
          have QI := Lib.hid hix
          have HBX := Lib.hid hbox
          clear hc0 hc1 hc2 hcell hbox hrch hP hbel hxw
          go_wp2_with fail
          clear c0 c1 c2 c6 c7
          refine region_relF 12 10 (fun w w' => w.grownBy w' (some xb)) (fun ix9 => ([.is (.pointer (some ⟨xb, 0, none⟩)), .is (.agg #[.int .i64 kd, .int .i64 md, .int .i64 sd, .slice Am2 q.length cm2, .int .u64 lo]), .is (.pointer (some ⟨w.heap.size, 7, none⟩)), .is (.slice (some ⟨b, o, none⟩) ys.length c'), .is (.int .i64 (i : Int)), .is (.pointer (some ⟨b, o + i * 3, none⟩)), .is (.agg #[.bool x.recv, .slice x.A x.l.length x.c, .int .u64 x.now]), (rTup xb C2), (rTup xb C2), (rCh xb C2), .is (.bool true), (rBox xb wr.heap.size)] : List (RD (fun w w' => w.grownBy w' (some xb)))).getD ix9 (.is undef)) [some 77, some 78, some 79, some 80, some 81, some 82, some 83, some 84, some 76, some 85, some 86, some 9] (JP7 xb ⟨kd, md, sd, lo, q⟩ f C2 wr) (fun w => World.grownBy.refl w _) (by kernel_rfl) (by kernel_rfl) (by kernel_rfl) (by kernel_rfl) rfl _ _ rfl rfl HJ0.out (fun ii hii => ?_) ?_ ?_
          · match ii, hii with
            | 0, _ => exact rstep_first (fun w => World.grownBy.refl w _) rfl (rwant_none rfl) (fun _ _ h => h) 7 (Or.inl rfl) (by kernel_rfl) (fun _ => rfl)
            | 1, _ => exact rstep_pure (fun w => World.grownBy.refl w _) rfl (rwant_none rfl) (fun _ _ h => h) (fun LL aa ww cc => ⟨.agg #[.int .i64 kd, .int .i64 md, .int .i64 sd, .slice Am2 q.length cm2, .int .u64 lo], by have e0 : aa.tmps.getD 4 undef = .pointer (some ⟨mb, 0, none⟩) := (cc.orig 4 (by kernel_rfl)).trans rfl; obtain ⟨m0, m1, m2, m3, m4⟩ := MB.out _ cc.world.2.2; simp only [execOp, Act.eval, e0]; go_simp, rfl⟩)
            | 2, _ => exact rstep_pure (fun w => World.grownBy.refl w _) rfl (rwant_none rfl) (fun _ _ h => h) (fun LL aa ww cc => ⟨.pointer (some ⟨w.heap.size, 7, none⟩), by have e0 : aa.tmps.getD 1 undef = .pointer (some ⟨w.heap.size, 0, none⟩) := (cc.orig 1 (by kernel_rfl)).trans rfl; simp only [execOp, Act.eval, e0]; go_simp, rfl⟩)
            | 3, _ => exact rstep_pure (fun w => World.grownBy.refl w _) rfl (rwant_none rfl) (fun _ _ h => h) (fun LL aa ww cc => ⟨.slice (some ⟨b, o, none⟩) ys.length c', by have e0 : aa.tmps.getD 79 undef = .pointer (some ⟨w.heap.size, 7, none⟩) := cc.slot 2 79 (by kernel_rfl) rfl; have m0 := TB.out _ cc.world.2.2; simp only [execOp, Act.eval, e0]; go_simp, rfl⟩)
            | 4, _ => exact rstep_first (fun w => World.grownBy.refl w _) rfl (rwant_none rfl) (fun _ _ h => h) 8 (Or.inl rfl) (by kernel_rfl) (fun _ => rfl)
            | 5, _ => exact rstep_pure (fun w => World.grownBy.refl w _) rfl (rwant_none rfl) (fun _ _ h => h) (fun LL aa ww cc => ⟨.pointer (some ⟨b, o + i * 3, none⟩), by have e0 : aa.tmps.getD 80 undef = .slice (some ⟨b, o, none⟩) ys.length c' := cc.slot 3 80 (by kernel_rfl) rfl; have e1 : aa.tmps.getD 81 undef = .int .i64 (i : Int) := cc.slot 4 81 (by kernel_rfl) rfl; have q := QI.out; simp only [execOp, Act.eval, e0, e1]; go_simp, rfl⟩)
            | 6, _ => exact rstep_pure (fun w => World.grownBy.refl w _) rfl (rwant_none rfl) (fun _ _ h => h) (fun LL aa ww cc => ⟨.agg #[.bool x.recv, .slice x.A x.l.length x.c, .int .u64 x.now], by have e0 : aa.tmps.getD 82 undef = .pointer (some ⟨b, o + i * 3, none⟩) := cc.slot 5 82 (by kernel_rfl) rfl; obtain ⟨x0, x1, x2⟩ := XB.out _ cc.world.2.2; simp only [execOp, Act.eval, e0]; go_simp, rfl⟩)
            | 7, _ => exact rstep_call rfl (rwant_none rfl) _ _ _ rfl (enters_of Try.func17 (by kernel_rfl) rfl) (fun LL aa ww cc => by have e0 : aa.tmps.getD 77 undef = .pointer (some ⟨xb, 0, none⟩) := cc.slot 0 77 (by kernel_rfl) rfl; have e1 : aa.tmps.getD 78 undef = .agg #[.int .i64 kd, .int .i64 md, .int .i64 sd, .slice Am2 q.length cm2, .int .u64 lo] := cc.slot 1 78 (by kernel_rfl) rfl; have e2 : aa.tmps.getD 83 undef = .agg #[.bool x.recv, .slice x.A x.l.length x.c, .int .u64 x.now] := cc.slot 6 83 (by kernel_rfl) rfl; simp only [List.map_toArray, List.map_cons, List.map_nil, Act.eval, e0, e1, e2]; exact (DO.out) LL ww cc.world cc.fresh)
            | 8, _ => exact rstep_copy (fun w => World.grownBy.refl w _) rfl (rwant_none rfl) (fun _ _ h => h) 84 (Or.inl rfl) 7 (by kernel_rfl) rfl rfl
            | 9, _ => exact rstep_pure (fun w => World.grownBy.refl w _) rfl (rwant_none rfl) (fun _ _ h => h) (fun LL aa ww cc => by obtain ⟨v9, e0, h9⟩ := cc.slot 8 76 (by kernel_rfl) rfl; exact ⟨v9, by (simp only [execOp, Act.eval, e0]; go_simp), h9⟩)
            | 10, _ => exact rstep_pure (fun w => World.grownBy.refl w _) rfl (rwant_none rfl) (fun _ _ h => h) (fun LL aa ww cc => by obtain ⟨v9, e0, h9⟩ := cc.slot 8 76 (by kernel_rfl) rfl; exact ⟨.bool true, by (simp only [execOp, Act.eval, e0]; go_simp), rfl⟩)
            | 11, _ => exact rstep_alloc rfl (rwant_none rfl) _ rfl (.agg zch.toArray) (by kernel_rfl) (fun L w' hj _ => AL.out L w' hj)
            | n + 12, h => exact absurd h (by show ¬ (n + 12 < 12); omega)
          · intro L9 VV w5 hall hlen hJ5 hok
            match VV, hlen with
            | [v0, v1, v2, v3, v4, v5, v6, v7, v8, v9, v10, v11], _ =>
              obtain rfl : v0 = .pointer (some ⟨xb, 0, none⟩) := hok 0 77 rfl
              obtain rfl : v1 = .agg #[.int .i64 kd, .int .i64 md, .int .i64 sd, .slice Am2 q.length cm2, .int .u64 lo] := hok 1 78 rfl
              obtain rfl : v2 = .pointer (some ⟨w.heap.size, 7, none⟩) := hok 2 79 rfl
              obtain rfl : v3 = .slice (some ⟨b, o, none⟩) ys.length c' := hok 3 80 rfl
              obtain rfl : v4 = .int .i64 (i : Int) := hok 4 81 rfl
              obtain rfl : v5 = .pointer (some ⟨b, o + i * 3, none⟩) := hok 5 82 rfl
              obtain rfl : v6 = .agg #[.bool x.recv, .slice x.A x.l.length x.c, .int .u64 x.now] := hok 6 83 rfl
              have p7 := hok 7 84 rfl
              have p8 := hok 8 76 rfl
              have p9 := hok 9 85 rfl
              obtain rfl : v10 = .bool true := hok 10 86 rfl
              have p11 := hok 11 9 rfl
              obtain ⟨A8, c8, hv8, hq8, hc8, ha8⟩ := p9
              obtain ⟨g, hv10, hbg, hgc, hgl⟩ := p11
              have hv8' : v9 = .agg (chV C2 A8 c8).toArray := hv8
              have hv10' : v11 = .pointer (some ⟨g, 0, none⟩) := hv10
              obtain ⟨f', hf', hb'⟩ := hJ5.2.1 (hall 7 (by decide))
              have HGR5 := Lib.hid hJ5.2.2
              have HB' := Lib.hid hb'
              have HF' := Lib.hid hf'
              have HBG := Lib.hid hbg
              have HRC : Hid (RCh w5 C2 (.agg (chV C2 A8 c8).toArray)) := Lib.hid ⟨A8, c8, rfl, hq8, hc8⟩
              clear hv8 hv10 hq8 hc8 ha8 hbg hb' hf' hJ5 hall hok
              obtain ⟨v7', hv7, _⟩ := p8
              have hv7' : v8 = .tuple #[v7', .bool true] := hv7
              clear hv7
              subst hv7'
              subst hv8'
              subst hv10'
              have hgm : mb < g := by have := HP.out.mx; have := HP.out.x.lt; omega
              have HX5 := Lib.hid (HBX.out.grown HGR5.out (by simp; omega))
              have HT5 := Lib.hid (HP.out.box.grown HGR5.out (by simp; omega))
              have HC5 := Lib.hid (HP.out.c.grown HGR5.out (by simp; omega))
              have HBL5 : Hid (Below w.heap.size w w5) := Lib.hid (HP.out.bel.grown HGR5.out HP.out.bel.size (fun j e => by injection e with e; omega))
              have HOK2 : Hid C2.ok := Lib.hid (by rw [HACT.out]; exact Ch.act_ok _ HP.out.okX x HFIT.out.now)
              clear DO AL MB TB XB HJ0 HN1 HBX HGR5 HP HFIT p7 hlen
              obtain ⟨k2, m2, s2, lo2, q2⟩ := C2
              simp only [chV]
              have g0 : w5.cell? ⟨g, 0, none⟩ = some (.int .i64 0) := HBG.out.cell rfl
              have g1 : w5.cell? ⟨g, 1, none⟩ = some (.int .i64 0) := HBG.out.cell rfl
              have g2 : w5.cell? ⟨g, 2, none⟩ = some (.int .i64 0) := HBG.out.cell rfl
              have g3 : w5.cell? ⟨g, 3, none⟩ = some (.slice none 0 0) := HBG.out.cell rfl
              have g4 : w5.cell? ⟨g, 4, none⟩ = some (.int .u64 0) := HBG.out.cell rfl
              have gf0 : w5.frozen? ⟨g, 0, none⟩ = false := HBG.out.free 0
              have gf1 : w5.frozen? ⟨g, 1, none⟩ = false := HBG.out.free 1
              have gf2 : w5.frozen? ⟨g, 2, none⟩ = false := HBG.out.free 2
              have gf3 : w5.frozen? ⟨g, 3, none⟩ = false := HBG.out.free 3
              have gf4 : w5.frozen? ⟨g, 4, none⟩ = false := HBG.out.free 4
              have r0 : w5.cell? ⟨mb, 0, none⟩ = some (.int .i64 kd) := HX5.out.cell rfl
              have r1 : w5.cell? ⟨mb, 1, none⟩ = some (.int .i64 md) := HX5.out.cell rfl
              have r2 : w5.cell? ⟨mb, 2, none⟩ = some (.int .i64 sd) := HX5.out.cell rfl
              have r3 : w5.cell? ⟨mb, 3, none⟩ = some (.slice Am2 q.length cm2) := HX5.out.cell rfl
              have r4 : w5.cell? ⟨mb, 4, none⟩ = some (.int .u64 lo) := HX5.out.cell rfl
              have f0 : w5.frozen? ⟨mb, 0, none⟩ = false := HX5.out.free 0
              have f1 : w5.frozen? ⟨mb, 1, none⟩ = false := HX5.out.free 1
              have f2 : w5.frozen? ⟨mb, 2, none⟩ = false := HX5.out.free 2
              have f3 : w5.frozen? ⟨mb, 3, none⟩ = false := HX5.out.free 3
              have f4 : w5.frozen? ⟨mb, 4, none⟩ = false := HX5.out.free 4
              have hne1 : ¬ g = mb := by omega
              have hne2 : ¬ mb = g := by omega
              simp only [List.set_cons_succ, List.set_cons_zero, List.zip_cons_cons, List.zip_nil_right, putsL]
              go_simp
              have hPS : SmR w tc C cb fc (play C (ys.take (i + 1))) xb f' mb (set5 (set5 w5 g (.int .i64 k2) (.int .i64 m2) (.int .i64 s2) (.slice A8 q2.length c8) (.int .u64 lo2)) mb (.int .i64 k2) (.int .i64 m2) (.int .i64 s2) (.slice A8 q2.length c8) (.int .u64 lo2)) := by
                rw [← HC2.out]
                exact SmR.stored (D := ⟨kd, md, sd, lo, q⟩) (A' := Am2) (c' := cm2) HT5.out HCOK.out HFC.out HC5.out HOK2.out HF'.out HB'.out HX5.out HBG.out HBL5.out HRC.out hct hcm hmx hgm hgc
              have HPS := Lib.hid hPS
              clear hPS
              go_wp2
              go_roundw
              case rel => exact ⟨i + 1, f', by omega, by go_num, HPS.out⟩
              case measure => simp [intOf]; omega
          · intro L9 VV w5 hall hlen hJ5 hok
            match VV, hlen with
            | [v0, v1, v2, v3, v4, v5, v6, v7, v8, v9, v10, v11], _ =>
              obtain rfl : v0 = .pointer (some ⟨xb, 0, none⟩) := hok 0 77 (by decide) rfl
              obtain rfl : v1 = .agg #[.int .i64 kd, .int .i64 md, .int .i64 sd, .slice Am2 q.length cm2, .int .u64 lo] := hok 1 78 (by decide) rfl
              obtain rfl : v2 = .pointer (some ⟨w.heap.size, 7, none⟩) := hok 2 79 (by decide) rfl
              obtain rfl : v3 = .slice (some ⟨b, o, none⟩) ys.length c' := hok 3 80 (by decide) rfl
              obtain rfl : v4 = .int .i64 (i : Int) := hok 4 81 (by decide) rfl
              obtain rfl : v5 = .pointer (some ⟨b, o + i * 3, none⟩) := hok 5 82 (by decide) rfl
              obtain rfl : v6 = .agg #[.bool x.recv, .slice x.A x.l.length x.c, .int .u64 x.now] := hok 6 83 (by decide) rfl
              have p7 := hok 7 84 (by decide) rfl
              have p8 := hok 8 76 (by decide) rfl
              have p9 := hok 9 85 (by decide) rfl
              have p11 := hok 11 9 (by decide) rfl
              obtain ⟨A8, c8, hv8, hq8, hc8, ha8⟩ := p9
              obtain ⟨g, hv10, hbg, hgc, hgl⟩ := p11
              have hv8' : v9 = .agg (chV C2 A8 c8).toArray := hv8
              have hv10' : v11 = .pointer (some ⟨g, 0, none⟩) := hv10
              obtain ⟨f', hf', hb'⟩ := hJ5.2.1 (hall 7 (by decide) (by decide))
              have HGR5 := Lib.hid hJ5.2.2
              have HB' := Lib.hid hb'
              have HF' := Lib.hid hf'
              have HBG := Lib.hid hbg
              have HRC : Hid (RCh w5 C2 (.agg (chV C2 A8 c8).toArray)) := Lib.hid ⟨A8, c8, rfl, hq8, hc8⟩
              clear hv8 hv10 hq8 hc8 ha8 hbg hb' hf' hJ5 hall hok
              obtain ⟨v7', hv7, _⟩ := p8
              have hv7' : v8 = .tuple #[v7', .bool true] := hv7
              clear hv7
              subst hv7'
              subst hv8'
              subst hv10'
              have hgm : mb < g := by have := HP.out.mx; have := HP.out.x.lt; omega
              have HX5 := Lib.hid (HBX.out.grown HGR5.out (by simp; omega))
              have HT5 := Lib.hid (HP.out.box.grown HGR5.out (by simp; omega))
              have HC5 := Lib.hid (HP.out.c.grown HGR5.out (by simp; omega))
              have HBL5 : Hid (Below w.heap.size w w5) := Lib.hid (HP.out.bel.grown HGR5.out HP.out.bel.size (fun j e => by injection e with e; omega))
              have HOK2 : Hid C2.ok := Lib.hid (by rw [HACT.out]; exact Ch.act_ok _ HP.out.okX x HFIT.out.now)
              clear DO AL MB TB XB HJ0 HN1 HBX HGR5 HP HFIT p7 hlen
              obtain ⟨k2, m2, s2, lo2, q2⟩ := C2
              simp only [chV]
              have g0 : w5.cell? ⟨g, 0, none⟩ = some (.int .i64 0) := HBG.out.cell rfl
              have g1 : w5.cell? ⟨g, 1, none⟩ = some (.int .i64 0) := HBG.out.cell rfl
              have g2 : w5.cell? ⟨g, 2, none⟩ = some (.int .i64 0) := HBG.out.cell rfl
              have g3 : w5.cell? ⟨g, 3, none⟩ = some (.slice none 0 0) := HBG.out.cell rfl
              have g4 : w5.cell? ⟨g, 4, none⟩ = some (.int .u64 0) := HBG.out.cell rfl
              have gf0 : w5.frozen? ⟨g, 0, none⟩ = false := HBG.out.free 0
              have gf1 : w5.frozen? ⟨g, 1, none⟩ = false := HBG.out.free 1
              have gf2 : w5.frozen? ⟨g, 2, none⟩ = false := HBG.out.free 2
              have gf3 : w5.frozen? ⟨g, 3, none⟩ = false := HBG.out.free 3
              have gf4 : w5.frozen? ⟨g, 4, none⟩ = false := HBG.out.free 4
              have r0 : w5.cell? ⟨mb, 0, none⟩ = some (.int .i64 kd) := HX5.out.cell rfl
              have r1 : w5.cell? ⟨mb, 1, none⟩ = some (.int .i64 md) := HX5.out.cell rfl
              have r2 : w5.cell? ⟨mb, 2, none⟩ = some (.int .i64 sd) := HX5.out.cell rfl
              have r3 : w5.cell? ⟨mb, 3, none⟩ = some (.slice Am2 q.length cm2) := HX5.out.cell rfl
              have r4 : w5.cell? ⟨mb, 4, none⟩ = some (.int .u64 lo) := HX5.out.cell rfl
              have f0 : w5.frozen? ⟨mb, 0, none⟩ = false := HX5.out.free 0
              have f1 : w5.frozen? ⟨mb, 1, none⟩ = false := HX5.out.free 1
              have f2 : w5.frozen? ⟨mb, 2, none⟩ = false := HX5.out.free 2
              have f3 : w5.frozen? ⟨mb, 3, none⟩ = false := HX5.out.free 3
              have f4 : w5.frozen? ⟨mb, 4, none⟩ = false := HX5.out.free 4
              have hne1 : ¬ g = mb := by omega
              have hne2 : ¬ mb = g := by omega
              simp only [List.set_cons_succ, List.set_cons_zero, List.zip_cons_cons, List.zip_nil_right, putsL]
              go_simp
              have hPS : SmR w tc C cb fc (play C (ys.take (i + 1))) xb f' mb (set5 (set5 w5 g (.int .i64 k2) (.int .i64 m2) (.int .i64 s2) (.slice A8 q2.length c8) (.int .u64 lo2)) mb (.int .i64 k2) (.int .i64 m2) (.int .i64 s2) (.slice A8 q2.length c8) (.int .u64 lo2)) := by
                rw [← HC2.out]
                exact SmR.stored (D := ⟨kd, md, sd, lo, q⟩) (A' := Am2) (c' := cm2) HT5.out HCOK.out HFC.out HC5.out HOK2.out HF'.out HB'.out HX5.out HBG.out HBL5.out HRC.out hct hcm hmx hgm hgc
              have HPS := Lib.hid hPS
              clear hPS
              go_wp2
              go_roundw
              case rel => exact ⟨i + 1, f', by omega, by go_num, HPS.out⟩
              case measure => simp [intOf]; omega
        · have hin : i = n := by omega
          subst hin
          have hcs : ¬ i < ys.length ∨ (i < ys.length ∧ ¬ (i : Int) < 30) := by have := HN.out; omega
          obtain ⟨X, hX⟩ : ∃ X, X = play C (ys.take i) := ⟨_, rfl⟩
          rw [← hX] at hP
          have HP := Lib.hid hP
          clear hX hlt hnx
          rcases hcs with hcs | ⟨hcs, hcs2⟩
          all_goals
            go_wp2_with fail
            clear c0 c1 c2 c6 c7 hcs hP
            have HAW := Lib.hid (HA.out.below HP.out.bel)
            refine (played_calls wr k m s w.heap.size HP.out.bel.size A c xs HAW.out h8).mono ?_
            rintro e w6 ⟨zb, fz, v6, rfl, hr6, hf6, hb6, hge6, hbel6⟩
            rw [← HC.out] at hr6 hb6
            obtain ⟨Av, cv, rfl⟩ : ∃ Av cv, v6 = .agg (chV C Av cv).toArray := by obtain ⟨Av, cv, hv, _⟩ := hr6; exact ⟨Av, cv, hv⟩
            have HP6 := Lib.hid (HP.out.next hbel6)
            have HZ6 := Lib.hid hb6
            have HFZ := Lib.hid hf6
            have HR6 := Lib.hid hr6
            clear hr6 hb6 hf6 hge6 hbel6 HP HAW
            simp only [chV]
            go_wp2_with fail
            obtain ⟨W7, hW7⟩ : ∃ W7, W7 = w6.alloc (.cells #[.int .i64 C.kind, .int .i64 C.most, .int .i64 C.size, .slice Av C.q.length cv, .int .u64 C.lost] 48) := ⟨_, rfl⟩
            have hw67 : Below w6.heap.size w6 W7 := by rw [hW7]; exact (Below.refl _ _).alloc (Nat.le_refl _) _
            have hV7 : Blk W7 w6.heap.size (chV C Av cv) := by rw [hW7]; exact Blk.new w6 _ _
            have HV7 := Lib.hid hV7
            have HP7 := Lib.hid (HP6.out.next hw67)
            have HZ7 := Lib.hid (HZ6.out.below hw67 HZ6.out.lt)
            have HR7 := Lib.hid (HR6.out.below hw67)
            obtain ⟨vb, hvb⟩ : ∃ vb, vb = w6.heap.size := ⟨_, rfl⟩
            rw [← hvb] at HV7 ⊢
            rw [← hW7]
            clear hW7 hw67 hV7 HP6 HZ6 HR6 hvb
            clear w6
            obtain ⟨Am2, cm2, hbox, hrch⟩ := HP7.out.m
            have HBX := Lib.hid hbox
            have HRX := Lib.hid hrch
            clear hbox hrch
            obtain ⟨b2, hb2⟩ : ∃ b2, b2 = decide (X = C) := ⟨_, rfl⟩
            have SCZ : Hid (∀ w', Below W7.drew.heap.size W7.drew w' → Calls Try.prog 15 #[.pointer (some ⟨cb, 0, none⟩), .pointer (some ⟨zb, 0, none⟩)] w' fun e w'' => ∃ v, e = .returned v ∧ v = .bool true ∧ Below w'.heap.size w' w'') := Lib.hid fun w' hb => by
              refine (same_calls w' cb fc zb fz C C HCOK.out HCOK.out HFC.out HFZ.out (Blk.below (w := W7.drew) HP7.out.c hb HP7.out.c.lt) (Blk.below (w := W7.drew) HZ7.out hb HZ7.out.lt)).mono ?_
              rintro e w'' ⟨rfl, hq⟩
              exact ⟨_, rfl, by rw [decide_eq_true rfl], quiet_below hq⟩
            have SXC : Hid (∀ w', Below W7.drew.heap.size W7.drew w' → Calls Try.prog 15 #[.pointer (some ⟨xb, 0, none⟩), .pointer (some ⟨cb, 0, none⟩)] w' fun e w'' => ∃ v, e = .returned v ∧ v = .bool b2 ∧ Below w'.heap.size w' w'') := Lib.hid fun w' hb => by
              refine (same_calls w' xb f cb fc X C HP7.out.okX HCOK.out HP7.out.fx16 HFC.out (Blk.below (w := W7.drew) HP7.out.x hb HP7.out.x.lt) (Blk.below (w := W7.drew) HP7.out.c hb HP7.out.c.lt)).mono ?_
              rintro e w'' ⟨rfl, hq⟩
              exact ⟨_, rfl, by rw [hb2], quiet_below hq⟩
            have SMV : Hid (∀ w', Below W7.drew.heap.size W7.drew w' → Calls Try.prog 16 #[.agg #[.int .i64 X.kind, .int .i64 X.most, .int .i64 X.size, .slice Am2 X.q.length cm2, .int .u64 X.lost], .agg #[.int .i64 C.kind, .int .i64 C.most, .int .i64 C.size, .slice Av C.q.length cv, .int .u64 C.lost]] w' fun e w'' => ∃ v, e = .returned v ∧ v = .bool b2 ∧ Below w'.heap.size w' w'') := Lib.hid fun w' hb => by
              refine (refsame_calls w' X C HP7.out.okX HCOK.out _ _ (RCh.below (w := W7.drew) HRX.out hb) (RCh.below (w := W7.drew) HR7.out hb)).mono ?_
              rintro e w'' ⟨rfl, hq⟩
              exact ⟨_, rfl, by rw [hb2], hq⟩
            have AWK : Hid (∀ w', Below W7.drew.heap.size W7.drew w' → Calls Try.prog 8 #[] w' fun e w'' => ∃ v, e = .returned v ∧ v = .bool true ∧ Below w'.heap.size w' w'') := Lib.hid fun w' _ => by
              refine (awake_calls w').mono ?_
              rintro e w'' ⟨rfl, hq⟩
              exact ⟨_, rfl, rfl, hq⟩
            have MB : Hid (∀ w', Below W7.drew.heap.size W7.drew w' → w'.cell? ⟨mb, 0, none⟩ = some (.int .i64 X.kind) ∧ w'.cell? ⟨mb, 1, none⟩ = some (.int .i64 X.most) ∧ w'.cell? ⟨mb, 2, none⟩ = some (.int .i64 X.size) ∧ w'.cell? ⟨mb, 3, none⟩ = some (.slice Am2 X.q.length cm2) ∧ w'.cell? ⟨mb, 4, none⟩ = some (.int .u64 X.lost)) := Lib.hid fun w' hb => by
              have h := Blk.below (w := W7.drew) HBX.out hb HBX.out.lt
              exact ⟨h.cell rfl, h.cell rfl, h.cell rfl, h.cell rfl, h.cell rfl⟩
            have NB : Hid (∀ w', Below W7.drew.heap.size W7.drew w' → w'.cell? ⟨vb, 0, none⟩ = some (.int .i64 C.kind) ∧ w'.cell? ⟨vb, 1, none⟩ = some (.int .i64 C.most) ∧ w'.cell? ⟨vb, 2, none⟩ = some (.int .i64 C.size) ∧ w'.cell? ⟨vb, 3, none⟩ = some (.slice Av C.q.length cv) ∧ w'.cell? ⟨vb, 4, none⟩ = some (.int .u64 C.lost)) := Lib.hid fun w' hb => by
              have h := Blk.below (w := W7.drew) HV7.out hb HV7.out.lt
              exact ⟨h.cell rfl, h.cell rfl, h.cell rfl, h.cell rfl, h.cell rfl⟩
            clear hb2
            refine region_monos (fun ix9 => ([.is (.pointer (some ⟨zb, 0, none⟩)), .is (.bool true), .is (.bool true), .is (.pointer (some ⟨cb, 0, none⟩)), .is (.pointer (some ⟨zb, 0, none⟩)), .is (.bool true), .is (.bool true), .is (.bool true), .is (.pointer (some ⟨xb, 0, none⟩)), .is (.pointer (some ⟨cb, 0, none⟩)), .is (.bool b2), .is (.agg #[.int .i64 X.kind, .int .i64 X.most, .int .i64 X.size, .slice Am2 X.q.length cm2, .int .u64 X.lost]), .is (.agg #[.int .i64 C.kind, .int .i64 C.most, .int .i64 C.size, .slice Av C.q.length cv, .int .u64 C.lost]), .is (.bool b2), .is (.bool true), .is (.bool true), .is (.bool true), .is (.bool true), .is (.bool true), .is (.bool true)] : List VD).getD ix9 (.is undef)) [some 98, some 99, some 100, some 101, some 102, some 103, some 104, some 105, some 106, some 107, some 108, some 109, some 110, some 111, some 112, some 113, some 114, some 115, some 116, some 2] (by kernel_rfl) (by kernel_rfl) (by kernel_rfl) rfl (fun ii hii => ?_) ?_
            · match ii, hii with
              | 0, _ => exact mstep_first rfl (mwant_none rfl) 11 (Or.inl rfl) (by kernel_rfl) (fun _ _ => rfl)
              | 1, _ => exact mstep_pure rfl (mwant_none rfl) (fun aa ww cc => ⟨.bool true, by have e0 : aa.tmps.getD 98 undef = .pointer (some ⟨zb, 0, none⟩) := cc.slot 0 98 (by kernel_rfl) rfl; simp only [execOp, Act.eval, e0]; go_simp, rfl⟩)
              | 2, _ => exact mstep_copy rfl (mwant_none rfl) 99 (Or.inl rfl) 1 (by kernel_rfl) rfl rfl
              | 3, _ => exact mstep_first rfl (mwant 2 true 100 rfl (by kernel_rfl) rfl rfl (by kernel_rfl)) 3 (Or.inl rfl) (by kernel_rfl) (fun _ _ => rfl)
              | 4, _ => exact mstep_first rfl (mwant 2 true 100 rfl (by kernel_rfl) rfl rfl (by kernel_rfl)) 11 (Or.inl rfl) (by kernel_rfl) (fun _ _ => rfl)
              | 5, _ => exact mstep_call rfl (mwant 2 true 100 rfl (by kernel_rfl) rfl rfl (by kernel_rfl)) _ _ _ rfl (enters_of Try.func15 (by kernel_rfl) rfl) (fun aa ww cc => by have e0 : aa.tmps.getD 101 undef = .pointer (some ⟨cb, 0, none⟩) := cc.slot 3 101 (by kernel_rfl) rfl; have e1 : aa.tmps.getD 102 undef = .pointer (some ⟨zb, 0, none⟩) := cc.slot 4 102 (by kernel_rfl) rfl; simp only [List.map_toArray, List.map_cons, List.map_nil, Act.eval, e0, e1]; exact (SCZ.out) ww cc.below)
              | 6, _ => exact mstep_pure rfl (mwant_none rfl) (fun aa ww cc => ⟨.bool true, by have e0 : aa.tmps.getD 100 undef = .bool true := cc.slot 2 100 (by kernel_rfl) rfl; have e1 : aa.tmps.getD 103 undef = .bool true := cc.slot 5 103 (by kernel_rfl) rfl; simp only [execOp, Act.eval, e0, e1]; go_simp, rfl⟩)
              | 7, _ => exact mstep_copy rfl (mwant_none rfl) 104 (Or.inl rfl) 6 (by kernel_rfl) rfl rfl
              | 8, _ => exact mstep_first rfl (mwant 7 true 105 rfl (by kernel_rfl) rfl rfl (by kernel_rfl)) 7 (Or.inl rfl) (by kernel_rfl) (fun _ _ => rfl)
              | 9, _ => exact mstep_first rfl (mwant 7 true 105 rfl (by kernel_rfl) rfl rfl (by kernel_rfl)) 3 (Or.inl rfl) (by kernel_rfl) (fun _ _ => rfl)
              | 10, _ => exact mstep_call rfl (mwant 7 true 105 rfl (by kernel_rfl) rfl rfl (by kernel_rfl)) _ _ _ rfl (enters_of Try.func15 (by kernel_rfl) rfl) (fun aa ww cc => by have e0 : aa.tmps.getD 106 undef = .pointer (some ⟨xb, 0, none⟩) := cc.slot 8 106 (by kernel_rfl) rfl; have e1 : aa.tmps.getD 107 undef = .pointer (some ⟨cb, 0, none⟩) := cc.slot 9 107 (by kernel_rfl) rfl; simp only [List.map_toArray, List.map_cons, List.map_nil, Act.eval, e0, e1]; exact (SXC.out) ww cc.below)
              | 11, _ => exact mstep_pure rfl (mwant 7 true 105 rfl (by kernel_rfl) rfl rfl (by kernel_rfl)) (fun aa ww cc => ⟨.agg #[.int .i64 X.kind, .int .i64 X.most, .int .i64 X.size, .slice Am2 X.q.length cm2, .int .u64 X.lost], by have e0 : aa.tmps.getD 4 undef = .pointer (some ⟨mb, 0, none⟩) := (cc.orig 4 (by kernel_rfl)).trans rfl; obtain ⟨m0, m1, m2, m3, m4⟩ := MB.out _ cc.below; simp only [execOp, Act.eval, e0]; go_simp, rfl⟩)
              | 12, _ => exact mstep_pure rfl (mwant 7 true 105 rfl (by kernel_rfl) rfl rfl (by kernel_rfl)) (fun aa ww cc => ⟨.agg #[.int .i64 C.kind, .int .i64 C.most, .int .i64 C.size, .slice Av C.q.length cv, .int .u64 C.lost], by have e0 : aa.tmps.getD 12 undef = .pointer (some ⟨vb, 0, none⟩) := (cc.orig 12 (by kernel_rfl)).trans rfl; obtain ⟨m0, m1, m2, m3, m4⟩ := NB.out _ cc.below; simp only [execOp, Act.eval, e0]; go_simp, rfl⟩)
              | 13, _ => exact mstep_call rfl (mwant 7 true 105 rfl (by kernel_rfl) rfl rfl (by kernel_rfl)) _ _ _ rfl (enters_of Try.func16 (by kernel_rfl) rfl) (fun aa ww cc => by have e0 : aa.tmps.getD 109 undef = .agg #[.int .i64 X.kind, .int .i64 X.most, .int .i64 X.size, .slice Am2 X.q.length cm2, .int .u64 X.lost] := cc.slot 11 109 (by kernel_rfl) rfl; have e1 : aa.tmps.getD 110 undef = .agg #[.int .i64 C.kind, .int .i64 C.most, .int .i64 C.size, .slice Av C.q.length cv, .int .u64 C.lost] := cc.slot 12 110 (by kernel_rfl) rfl; simp only [List.map_toArray, List.map_cons, List.map_nil, Act.eval, e0, e1]; exact (SMV.out) ww cc.below)
              | 14, _ => exact mstep_pure rfl (mwant 7 true 105 rfl (by kernel_rfl) rfl rfl (by kernel_rfl)) (fun aa ww cc => ⟨.bool true, by have e0 : aa.tmps.getD 108 undef = .bool b2 := cc.slot 10 108 (by kernel_rfl) rfl; have e1 : aa.tmps.getD 111 undef = .bool b2 := cc.slot 13 111 (by kernel_rfl) rfl; simp only [execOp, Act.eval, e0, e1]; go_simp, rfl⟩)
              | 15, _ => exact mstep_pure rfl (mwant_none rfl) (fun aa ww cc => ⟨.bool true, by have e0 : aa.tmps.getD 105 undef = .bool true := cc.slot 7 105 (by kernel_rfl) rfl; have e1 : aa.tmps.getD 112 undef = .bool true := cc.slot 14 112 (by kernel_rfl) rfl; simp only [execOp, Act.eval, e0, e1]; go_simp, rfl⟩)
              | 16, _ => exact mstep_copy rfl (mwant_none rfl) 113 (Or.inl rfl) 15 (by kernel_rfl) rfl rfl
              | 17, _ => exact mstep_call rfl (mwant 16 true 114 rfl (by kernel_rfl) rfl rfl (by kernel_rfl)) _ _ _ rfl (enters_of Try.func8 (by kernel_rfl) rfl) (fun aa ww cc => by skip; simp only [List.map_toArray, List.map_cons, List.map_nil, Act.eval]; exact (AWK.out) ww cc.below)
              | 18, _ => exact mstep_pure rfl (mwant_none rfl) (fun aa ww cc => ⟨.bool true, by have e0 : aa.tmps.getD 114 undef = .bool true := cc.slot 16 114 (by kernel_rfl) rfl; have e1 : aa.tmps.getD 115 undef = .bool true := cc.slot 17 115 (by kernel_rfl) rfl; simp only [execOp, Act.eval, e0, e1]; go_simp, rfl⟩)
              | 19, _ => exact mstep_copy rfl (mwant_none rfl) 116 (Or.inr rfl) 18 (by kernel_rfl) rfl rfl
              | n + 20, h => exact absurd h (by show ¬ (n + 20 < 20); omega)
            · intro VV w5 hlen hb5 hok
              match VV, hlen with
              | [v0, v1, v2, v3, v4, v5, v6, v7, v8, v9, v10, v11, v12, v13, v14, v15, v16, v17, v18, v19], _ =>
                obtain rfl : v0 = .pointer (some ⟨zb, 0, none⟩) := hok 0 98 rfl
                obtain rfl : v1 = .bool true := hok 1 99 rfl
                obtain rfl : v2 = .bool true := hok 2 100 rfl
                obtain rfl : v3 = .pointer (some ⟨cb, 0, none⟩) := hok 3 101 rfl
                obtain rfl : v4 = .pointer (some ⟨zb, 0, none⟩) := hok 4 102 rfl
                obtain rfl : v5 = .bool true := hok 5 103 rfl
                obtain rfl : v6 = .bool true := hok 6 104 rfl
                obtain rfl : v7 = .bool true := hok 7 105 rfl
                obtain rfl : v8 = .pointer (some ⟨xb, 0, none⟩) := hok 8 106 rfl
                obtain rfl : v9 = .pointer (some ⟨cb, 0, none⟩) := hok 9 107 rfl
                obtain rfl : v10 = .bool b2 := hok 10 108 rfl
                obtain rfl : v11 = .agg #[.int .i64 X.kind, .int .i64 X.most, .int .i64 X.size, .slice Am2 X.q.length cm2, .int .u64 X.lost] := hok 11 109 rfl
                obtain rfl : v12 = .agg #[.int .i64 C.kind, .int .i64 C.most, .int .i64 C.size, .slice Av C.q.length cv, .int .u64 C.lost] := hok 12 110 rfl
                obtain rfl : v13 = .bool b2 := hok 13 111 rfl
                obtain rfl : v14 = .bool true := hok 14 112 rfl
                obtain rfl : v15 = .bool true := hok 15 113 rfl
                obtain rfl : v16 = .bool true := hok 16 114 rfl
                obtain rfl : v17 = .bool true := hok 17 115 rfl
                obtain rfl : v18 = .bool true := hok 18 116 rfl
                obtain rfl : v19 = .bool true := hok 19 2 rfl
                have HB9 : Hid (Below w.heap.size w w5) := Lib.hid ((HP7.out.next hb5).bel)
                clear hok hb5 hlen SCZ SXC SMV AWK MB NB HP7 HZ7 HR7 HBX HRX HV7
                refine (by assumption : ∀ (a : Act) (w : World), Code.wp _ _ _ a w → _) _ _ ?_
                simp only [List.zip_cons_cons, List.zip_nil_right, putsL]
                go_simp
                go_wp2
                go_ret
                exact ⟨rfl, HB9.out⟩
end Go.Proofs.Ytdjphdkoljfndaa
