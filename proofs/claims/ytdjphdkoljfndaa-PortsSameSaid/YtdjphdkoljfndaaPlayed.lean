/- played. -/
import Derived.Test.YtdjphdkoljfndaaDoSend
import Derived.Test.YtdjphdkoljfndaaRelF
import Derived.Test.YtdjphdkoljfndaaPortAwake
namespace Go.Proofs.Ytdjphdkoljfndaa
open Go.RowKit Nac
def play (C : Ch) (xs : List ActP) : Ch := xs.foldl Ch.act C
theorem play_snoc (C : Ch) (xs : List ActP) (x : ActP) : play C (xs ++ [x]) = Ch.act (play C xs) x := by simp [play]
def zch : List Value := [.int .i64 0, .int .i64 0, .int .i64 0, .slice none 0 0, .int .u64 0]
def chV (C : Ch) (A : Option Addr) (c : Nat) : List Value := [.int .i64 C.kind, .int .i64 C.most, .int .i64 C.size, .slice A C.q.length c, .int .u64 C.lost]
/-- the document's channel, apart from block cb -/
def RChN (cb : Nat) (w : World) (C : Ch) (v : Value) : Prop := ∃ A c, v = .agg (chV C A c).toArray ∧ RQ w w.heap.size A C.q ∧ C.q.length ≤ c ∧ (C.q = [] ∨ A.map (·.block) ≠ some cb)
theorem RChN.keep {cb : Nat} {w w' : World} {C : Ch} {v : Value} (h : RChN cb w C v) (hg : w.grownBy w' (some cb)) : RChN cb w' C v := by
  obtain ⟨A, c, hv, hr, hc, ha⟩ := h
  refine ⟨A, c, hv, fun hne => ?_, hc, ha⟩
  have ha' := ha.resolve_left hne
  obtain ⟨g, o, hA, hlt, hcell⟩ := hr hne
  subst hA
  have hgb : g ≠ cb := by simpa using ha'
  refine ⟨g, o, rfl, Nat.lt_of_lt_of_le hlt hg.size, fun j hj => ?_⟩
  have e : ∀ k, w'.cell? ⟨g, k, none⟩ = w.cell? ⟨g, k, none⟩ := fun k => by
    have := hg.block g hlt (fun e => hgb (by injection e))
    unfold World.cell?
    rw [this]
  rw [e, e]
  exact hcell j hj
theorem RChN.rch {cb : Nat} {w : World} {C : Ch} {v : Value} (h : RChN cb w C v) : RCh w C v := by
  obtain ⟨A, c, hv, hr, hc, _⟩ := h
  exact ⟨A, c, hv, hr, hc⟩
theorem RCh.apart {cb f : Nat} {w : World} {C D : Ch} {v : Value} (h : RCh w C v) (hb : Blk w cb (ccells D f)) : RChN cb w C v := by
  obtain ⟨A, c, hv, hr, hc⟩ := h
  exact ⟨A, c, hv, hr, hc, rq_apart hr hb⟩
def rTup (cb : Nat) (C : Ch) : RD (fun w w' => w.grownBy w' (some cb)) := .pr (fun v w => ∃ v', v = .tuple #[v', .bool true] ∧ RChN cb w C v') (fun _ _ _ ⟨v', e, h⟩ hg => ⟨v', e, h.keep hg⟩)
def rCh (cb : Nat) (C : Ch) : RD (fun w w' => w.grownBy w' (some cb)) := .pr (fun v w => RChN cb w C v) (fun _ _ _ h hg => h.keep hg)
def rBox (cb lo : Nat) : RD (fun w w' => w.grownBy w' (some cb)) := .pr (fun v w => ∃ g, v = .pointer (some ⟨g, 0, none⟩) ∧ Blk w g zch ∧ g ≠ cb ∧ lo ≤ g) (fun _ _ _ ⟨g, e, h, hne, hl⟩ hg => ⟨g, e, h.grown hg (fun e => hne (by injection e with e; exact e.symm)), hne, hl⟩)
def JP (cb : Nat) (C : Ch) (f : Nat) (C2 : Ch) (wr : World) (L : Nat → Bool) (w' : World) : Prop :=
  (L 6 = false → Blk w' cb (ccells C f)) ∧ (L 6 = true → ∃ f', f' < 16 ∧ Blk w' cb (ccells C2 f')) ∧ wr.grownBy w' (some cb)
/-- what 'played' remembers -/
structure PlR (w : World) (mb cb : Nat) (C : Ch) (f : Nat) (wr : World) : Prop where
  ok : C.ok
  f16 : f < 16
  blk : Blk wr cb (ccells C f)
  box : ∃ A c, Blk wr mb (chV C A c) ∧ RCh wr C (.agg (chV C A c).toArray)
  res : Blk wr (w.heap.size + 1) zch
  bel : Below w.heap.size w wr
  hm : w.heap.size + 1 < mb
  hc : mb < cb
def set5 (w : World) (b : Nat) (v0 v1 v2 v3 v4 : Value) : World := ((((w.setCell ⟨b, 0, none⟩ v0).setCell ⟨b, 1, none⟩ v1).setCell ⟨b, 2, none⟩ v2).setCell ⟨b, 3, none⟩ v3).setCell ⟨b, 4, none⟩ v4
theorem blk_set5 {w : World} {b : Nat} {x0 x1 x2 x3 x4 : Value} (h : Blk w b [x0, x1, x2, x3, x4]) (v0 v1 v2 v3 v4 : Value) : Blk (set5 w b v0 v1 v2 v3 v4) b [v0, v1, v2, v3, v4] :=
  ((((h.setCell 0 v0).setCell 1 v1).setCell 2 v2).setCell 3 v3).setCell 4 v4
theorem grown_set5 (w : World) (b : Nat) (v0 v1 v2 v3 v4 : Value) : w.grownBy (set5 w b v0 v1 v2 v3 v4) (some b) :=
  ((((grown_setCell w ⟨b, 0, none⟩ v0).trans (grown_setCell _ ⟨b, 1, none⟩ v1)).trans (grown_setCell _ ⟨b, 2, none⟩ v2)).trans (grown_setCell _ ⟨b, 3, none⟩ v3)).trans (grown_setCell _ ⟨b, 4, none⟩ v4)
theorem chV_nostr (C : Ch) (A : Option Addr) (c : Nat) : ∀ v ∈ chV C A c, ∀ s, v ≠ .string s := by simp [chV]
theorem PlR.stored {w w5 : World} {mb cb g f' : Nat} {C D : Ch} {A A' : Option Addr} {c c' : Nat} (hok : C.ok) (hf : f' < 16) (hb : Blk w5 cb (ccells C f')) (hx : Blk w5 mb (chV D A' c')) (hg : Blk w5 g zch) (hrs : Blk w5 (w.heap.size + 1) zch) (hbl : Below w.heap.size w w5)
    (hrc : RCh w5 C (.agg (chV C A c).toArray)) (hm : w.heap.size + 1 < mb) (hc : mb < cb) (hgm : mb < g) (hgc : g ≠ cb) :
    PlR w mb cb C f' (set5 (set5 w5 g (.int .i64 C.kind) (.int .i64 C.most) (.int .i64 C.size) (.slice A C.q.length c) (.int .u64 C.lost)) mb (.int .i64 C.kind) (.int .i64 C.most) (.int .i64 C.size) (.slice A C.q.length c) (.int .u64 C.lost)) := by
  have g1 := grown_set5 w5 g (.int .i64 C.kind) (.int .i64 C.most) (.int .i64 C.size) (.slice A C.q.length c) (.int .u64 C.lost)
  have hg1 : Blk _ g (chV C A c) := blk_set5 hg (.int .i64 C.kind) (.int .i64 C.most) (.int .i64 C.size) (.slice A C.q.length c) (.int .u64 C.lost)
  obtain ⟨w6, hw6⟩ : ∃ w6, w6 = set5 w5 g (.int .i64 C.kind) (.int .i64 C.most) (.int .i64 C.size) (.slice A C.q.length c) (.int .u64 C.lost) := ⟨_, rfl⟩
  rw [← hw6] at g1 hg1 ⊢
  have hx6 := hx.grown g1 (by simp; omega)
  have hb6 := hb.grown g1 (by simpa using hgc)
  have hrs6 := hrs.grown g1 (by simp; omega)
  have hbl6 : Below w.heap.size w w6 := hbl.grown g1 hbl.size (fun k e => by injection e with e; omega)
  have hrc6 : RChB w6 w5.heap.size C _ := RChB.grown' (B := w5.heap.size) hrc (Nat.le_refl _) hg (by simp [zch]) g1
  have g2 := grown_set5 w6 mb (.int .i64 C.kind) (.int .i64 C.most) (.int .i64 C.size) (.slice A C.q.length c) (.int .u64 C.lost)
  have hx7 : Blk _ mb (chV C A c) := blk_set5 hx6 (.int .i64 C.kind) (.int .i64 C.most) (.int .i64 C.size) (.slice A C.q.length c) (.int .u64 C.lost)
  have hrc7 := RChB.grown' hrc6 g1.size hx6 (chV_nostr _ _ _) g2
  exact ⟨hok, hf, hb6.grown g2 (by simp; omega), ⟨A, c, hx7, hrc7.up (Nat.le_trans g1.size g2.size)⟩, hrs6.grown g2 (by simp; omega), hbl6.grown g2 hbl6.size (fun k e => by injection e with e; omega), hm, hc⟩
def RetPl (w : World) (C : Ch) (e : Ending) (w' : World) : Prop :=
  ∃ b f v, e = .returned (.tuple #[.pointer (some ⟨b, 0, none⟩), v]) ∧ RCh w' C v ∧ f < 16 ∧ Blk w' b (ccells C f) ∧ w.heap.size ≤ b ∧ Below w.heap.size w w'
open Classical in
noncomputable def ch0 (k m s : Int) : Ch := if NewOk k m s then ⟨k.toNat, m.toNat, s.toNat, 0, []⟩ else ⟨1, 3, 8, 0, []⟩
theorem ch0_ok (k m s : Int) : (ch0 k m s).ok := by
  unfold ch0
  split
  · rename_i h
    have : chOf k.toNat m.toNat s.toNat = ⟨k.toNat, m.toNat, s.toNat, 0, []⟩ := rfl
    rw [← this]
    refine chOf_ok _ _ _ ?_
    unfold NewOk at h ⊢
    omega
  · have : chOf 1 3 8 = ⟨1, 3, 8, 0, []⟩ := rfl
    rw [← this]
    exact chOf_ok _ _ _ (by unfold NewOk; omega)
theorem PlR.start {w W w3 : World} {mb : Nat} {C : Ch} (hC : C.ok) (hq : C.q = []) (hres : Blk W (w.heap.size + 1) zch) (hbel : Below w.heap.size w W) (hm : w.heap.size + 1 < mb) (hbox : Blk W mb (chV C none 0)) (hblk : Blk w3 W.heap.size (ccells C 0)) (hg : W.grownBy w3 none) : PlR w mb W.heap.size C 0 w3 :=
  ⟨hC, by omega, hblk, ⟨none, 0, hbox.grown hg (by simp), none, 0, rfl, by rw [hq]; exact RQ.nil _ _ _, by rw [hq]; exact Nat.le_refl _⟩, hres.grown hg (by simp), hbel.grown hg hbel.size (fun k e => by cases e), hm, hbox.lt⟩
set_option maxHeartbeats 8000000 in
set_option maxRecDepth 100000 in
theorem played_calls (w : World) (k m s : Int) (B0 : Nat) (hB0 : B0 ≤ w.heap.size) (A : Option Addr) (c : Nat) (xs : List ActP) (hA : RA w B0 A xs) (h8 : xs.length ≤ 140737488351232) :
    Calls Try.prog 13 #[.agg #[.int .i64 k, .int .i64 m, .int .i64 s], .slice A xs.length c] w (RetPl w (play (ch0 k m s) (xs.take 60))) := by
  have HA := Lib.hid hA
  have HC0 := Lib.hid (ch0_ok k m s)
  have hx0 : Below w.heap.size w ((w.alloc (.cells #[.int .i64 k, .int .i64 m, .int .i64 s] 39)).alloc (.cells #[.int .i64 0, .int .i64 0, .int .i64 0, .slice none 0 0, .int .u64 0] 48)) := ((Below.refl _ _).alloc (Nat.le_refl _) _).alloc (by simp) _
  have hres0 : Blk ((w.alloc (.cells #[.int .i64 k, .int .i64 m, .int .i64 s] 39)).alloc (.cells #[.int .i64 0, .int .i64 0, .int .i64 0, .slice none 0 0, .int .u64 0] 48)) (w.heap.size + 1) zch := by
    have := Blk.new (w.alloc (.cells #[.int .i64 k, .int .i64 m, .int .i64 s] 39)) zch 48
    rw [show (w.alloc (.cells #[.int .i64 k, .int .i64 m, .int .i64 s] 39)).heap.size = w.heap.size + 1 by simp] at this
    exact this
  have hz0 : ((w.alloc (.cells #[.int .i64 k, .int .i64 m, .int .i64 s] 39)).alloc (.cells #[.int .i64 0, .int .i64 0, .int .i64 0, .slice none 0 0, .int .u64 0] 48)).heap.size = w.heap.size + 1 + 1 := by simp
  have HX0 := Lib.hid hx0
  have HRES0 := Lib.hid hres0
  have HZ0 := Lib.hid hz0
  clear hA hx0 hres0 hz0
  obtain ⟨n, hn⟩ : ∃ n, n = min xs.length 60 := ⟨_, rfl⟩
  have hnx : n ≤ xs.length := by omega
  have hn6 : n ≤ 60 := by omega
  have HN := Lib.hid hn
  have HTK : Hid (xs.take n = xs.take 60) := Lib.hid <| by
    rw [hn]
    rcases Nat.le_total xs.length 60 with h | h
    · rw [Nat.min_eq_left h, List.take_of_length_le (Nat.le_refl _), List.take_of_length_le h]
    · rw [Nat.min_eq_right h]
  clear hn
  by_cases hz : NewOk k m s
  · have HZ := Lib.hid hz
    obtain ⟨C, hCe⟩ : ∃ C, C = ch0 k m s := ⟨_, rfl⟩
    have hCC : C = ⟨k.toNat, m.toNat, s.toNat, 0, []⟩ := by rw [hCe, ch0, if_pos hz]
    have hk0 : ((k.toNat : Nat) : Int) = k := Int.toNat_of_nonneg (by unfold NewOk at hz; omega)
    have hm0 : ((m.toNat : Nat) : Int) = m := Int.toNat_of_nonneg (by unfold NewOk at hz; omega)
    have hs0 : ((s.toNat : Nat) : Int) = s := Int.toNat_of_nonneg (by unfold NewOk at hz; omega)
    have HV : Hid (chV C none 0 = [.int .i64 k, .int .i64 m, .int .i64 s, .slice none 0 0, .int .u64 0]) := Lib.hid <| by rw [hCC]; unfold chV; simp only [hk0, hm0, hs0]; rfl
    have HCC := Lib.hid hCC
    rw [← hCe] at HC0 ⊢
    clear hz hCe hCC hk0 hm0 hs0
    go_enter Try.func13, Try.ntmps13
    go_wp2_with fail
    refine (refnew_ok _ k m s HZ.out).mono ?_
    rintro e w1 ⟨rfl, hb1⟩
    have HR1 : Hid (Blk w1 (w.heap.size + 1) zch) := HRES0.out.below hb1 HRES0.out.lt
    have HB1 : Hid (Below w.heap.size w w1) := HX0.out.trans (hb1.mono HX0.out.size)
    have HZ1 : Hid (w.heap.size + 1 + 1 ≤ w1.heap.size) := Lib.hid (by rw [← HZ0.out]; exact hb1.size)
    clear hb1 HRES0 HX0 HZ0
    go_wp2_with fail
    obtain ⟨W, hW⟩ : ∃ W, W = w1.alloc (.cells #[.int .i64 k, .int .i64 m, .int .i64 s, .slice none 0 0, .int .u64 0] 48) := ⟨_, rfl⟩
    have HRW : Hid (Blk W (w.heap.size + 1) zch) := Lib.hid (by rw [hW]; exact HR1.out.alloc _)
    have HBW : Hid (Below w.heap.size w W) := Lib.hid (by rw [hW]; exact HB1.out.alloc HB1.out.size _)
    have HXW : Hid (Blk W w1.heap.size (chV C none 0)) := Lib.hid (by rw [hW, HV.out]; exact Blk.new w1 _ _)
    rw [← hW]
    clear hW HR1 HB1
    refine (new_ok W k m s HZ.out).mono ?_
    rintro e w3 ⟨rfl, hb3, hg3⟩
    rw [← HCC.out] at hb3
    obtain ⟨mb, hmb⟩ : ∃ mb, mb = w1.heap.size := ⟨_, rfl⟩
    have HP := Lib.hid (PlR.start (mb := mb) HC0.out (by rw [HCC.out]) HRW.out HBW.out (by have := HZ1.out; omega) (by rw [hmb]; exact HXW.out) hb3 hg3)
    obtain ⟨cb, hcb⟩ : ∃ cb, cb = W.heap.size := ⟨_, rfl⟩
    rw [← hmb, ← hcb]
    rw [← hcb] at HP
    clear hb3 hg3 HRW HBW HXW hmb hcb HCC HV HZ HZ1
    clear w1 W
    go_wp2
    go_loopw [10] (fun s10 wr => ∃ (i f : Nat), i ≤ n ∧ s10 = .int .i64 i ∧ PlR w mb cb (play C (xs.take i)) f wr) (fun s10 _ => n - (intOf s10).toNat)
    case atStart => exact ⟨0, 0, Nat.zero_le _, rfl, HP.out⟩
    case round =>
      obtain ⟨i, f, hi, rfl, hP⟩ := hrel
      by_cases hlt : i < n
      · have hix : i < xs.length := by omega
        have hi60 : (i : Int) < 60 := by omega
        obtain ⟨b, o, hAe, hb, hc0, hc1, hc2, hfit⟩ := HA.out.get hix
        subst hAe
        obtain ⟨x, hx⟩ : ∃ x, x = xs[i] := ⟨_, rfl⟩
        rw [← hx] at hc0 hc1 hc2 hfit
        obtain ⟨C2, hC2⟩ : ∃ C2, C2 = play C (xs.take (i + 1)) := ⟨_, rfl⟩
        obtain ⟨D, hD⟩ : ∃ D, D = play C (xs.take i) := ⟨_, rfl⟩
        have hact : C2 = Ch.act D x := by rw [hC2, hD, List.take_succ_eq_append_getElem hix, play_snoc, hx]
        have HC2 := Lib.hid hC2
        have HACT := Lib.hid hact
        rw [← hD] at hP
        have HP := Lib.hid hP
        have HFIT := Lib.hid hfit
        obtain ⟨Am, cm, hbox, hrch⟩ := hP.box
        have hbw : b < w.heap.size := Nat.lt_of_lt_of_le hb hB0
        have hmc := hP.hc
        have hmb := hP.hm
        have hbel := hP.bel
        have hcw := hP.blk.lt
        clear hx hC2 hD hact hfit
        obtain ⟨kd, md, sd, lo, q⟩ := D
        simp only [chV] at hbox hrch
        have MB : Hid (∀ w', wr.grownBy w' (some cb) → w'.cell? ⟨mb, 0, none⟩ = some (.int .i64 kd) ∧ w'.cell? ⟨mb, 1, none⟩ = some (.int .i64 md) ∧ w'.cell? ⟨mb, 2, none⟩ = some (.int .i64 sd) ∧ w'.cell? ⟨mb, 3, none⟩ = some (.slice Am q.length cm) ∧ w'.cell? ⟨mb, 4, none⟩ = some (.int .u64 lo)) := Lib.hid fun w' hg => by
          have h := hbox.grown hg (by simp; omega)
          exact ⟨h.cell rfl, h.cell rfl, h.cell rfl, h.cell rfl, h.cell rfl⟩
        have hcell : ∀ w', wr.grownBy w' (some cb) → ∀ k, w'.cell? ⟨b, k, none⟩ = w.cell? ⟨b, k, none⟩ := fun w' hg k => (hbel.grown hg hbel.size (fun j e => by injection e with e; omega)).cell (p := ⟨b, k, none⟩) hbw
        have XB : Hid (∀ w', wr.grownBy w' (some cb) → w'.cell? ⟨b, o + i * 3, none⟩ = some (.bool x.recv) ∧ w'.cell? ⟨b, o + i * 3 + 1, none⟩ = some (.slice x.A x.l.length x.c) ∧ w'.cell? ⟨b, o + i * 3 + 2, none⟩ = some (.int .u64 x.now)) := Lib.hid fun w' hg => ⟨(hcell w' hg _).trans hc0, (hcell w' hg _).trans hc1, (hcell w' hg _).trans hc2⟩
        have HN1 := Lib.hid (hrch.apart HP.out.blk)
        have DO : Hid (∀ (LL : Nat → Bool) (w' : World), JP cb ⟨kd, md, sd, lo, q⟩ f C2 wr LL w' → LL 6 = false → Calls Try.prog 17 #[.pointer (some ⟨cb, 0, none⟩), .agg #[.int .i64 kd, .int .i64 md, .int .i64 sd, .slice Am q.length cm, .int .u64 lo], .agg #[.bool x.recv, .slice x.A x.l.length x.c, .int .u64 x.now]] w' fun e w'' => ∃ v, e = .returned v ∧ (rTup cb C2).ok v w'' ∧ w'.grownBy w'' (some cb) ∧ JP cb ⟨kd, md, sd, lo, q⟩ f C2 wr (upd LL 6) w'') := Lib.hid fun LL w' hJ hl => by
          obtain ⟨j1, j2, j3⟩ := hJ
          have hbl : Below B0 w w' := (hbel.mono hB0).grown j3 (Nat.le_trans hB0 hbel.size) (fun j e => by injection e with e; omega)
          have hft : x.fits w' B0 := ⟨HFIT.out.rb.below hbl, HFIT.out.cap, HFIT.out.len, HFIT.out.now⟩
          refine (do_calls w' w'.heap.size (Nat.le_refl _) cb f _ HP.out.ok HP.out.f16 (j1 hl) _ ((HN1.out.keep j3).rch) B0 (by omega) x hft).mono ?_
          rintro e w'' ⟨v, f', rfl, hv, hf', hb', hg'⟩
          rw [← HACT.out] at hv hb'
          exact ⟨_, rfl, ⟨v, rfl, hv.apart hb'⟩, hg', fun h => by simp [upd] at h, fun _ => ⟨f', hf', hb'⟩, j3.trans hg'⟩
        have AL : Hid (∀ (LL : Nat → Bool) (w' : World), JP cb ⟨kd, md, sd, lo, q⟩ f C2 wr LL w' → (rBox cb wr.heap.size).ok (.pointer (some ⟨w'.heap.size, 0, none⟩)) (w'.alloc (.cells (Value.agg zch.toArray).cells 48)) ∧ w'.grownBy (w'.alloc (.cells (Value.agg zch.toArray).cells 48)) (some cb) ∧ JP cb ⟨kd, md, sd, lo, q⟩ f C2 wr (upd LL 10) (w'.alloc (.cells (Value.agg zch.toArray).cells 48))) := Lib.hid fun LL w' hJ => by
          obtain ⟨j1, j2, j3⟩ := hJ
          refine ⟨⟨w'.heap.size, rfl, Blk.new w' zch _, fun e => by have := j3.size; omega, j3.size⟩, World.grownBy_alloc _ _ _, fun h => (j1 h).alloc _, fun h => ?_, j3.trans (World.grownBy_alloc _ _ _)⟩
          obtain ⟨f', hf', hb'⟩ := j2 h
          exact ⟨f', hf', hb'.alloc _⟩
        have HJ0 : Hid (JP cb ⟨kd, md, sd, lo, q⟩ f C2 wr (fun _ => false) wr.drew) := Lib.hid ⟨fun _ => HP.out.blk, (fun h => by cases h), grown_drew (World.grownBy.refl wr _)⟩
        have QI := Lib.hid hix
        have HBX := Lib.hid hbox
        clear hc0 hc1 hc2 hcell hbox hrch hP hbel hcw
        go_wp2_with fail
        refine region_relF 11 9 (fun w w' => w.grownBy w' (some cb)) (fun ix9 => ([.is (.pointer (some ⟨cb, 0, none⟩)), .is (.agg #[.int .i64 kd, .int .i64 md, .int .i64 sd, .slice Am q.length cm, .int .u64 lo]), .is (.slice (some ⟨b, o, none⟩) xs.length c), .is (.int .i64 (i : Int)), .is (.pointer (some ⟨b, o + i * 3, none⟩)), .is (.agg #[.bool x.recv, .slice x.A x.l.length x.c, .int .u64 x.now]), (rTup cb C2), (rTup cb C2), (rCh cb C2), .is (.bool true), (rBox cb wr.heap.size)] : List (RD (fun w w' => w.grownBy w' (some cb)))).getD ix9 (.is undef)) [some 53, some 54, some 55, some 56, some 57, some 58, some 59, some 52, some 60, some 61, some 11] (JP cb ⟨kd, md, sd, lo, q⟩ f C2 wr) (fun w => World.grownBy.refl w _) (by kernel_rfl) (by kernel_rfl) (by kernel_rfl) (by kernel_rfl) rfl _ _ rfl rfl HJ0.out (fun ii hii => ?_) ?_ ?_
        · match ii, hii with
          | 0, _ => exact rstep_first (fun w => World.grownBy.refl w _) rfl (rwant_none rfl) (fun _ _ h => h) 8 (Or.inl rfl) (by kernel_rfl) (fun _ => rfl)
          | 1, _ => exact rstep_pure (fun w => World.grownBy.refl w _) rfl (rwant_none rfl) (fun _ _ h => h) (fun LL aa ww cc => ⟨.agg #[.int .i64 kd, .int .i64 md, .int .i64 sd, .slice Am q.length cm, .int .u64 lo], by have e0 : aa.tmps.getD 6 undef = .pointer (some ⟨mb, 0, none⟩) := (cc.orig 6 (by kernel_rfl)).trans rfl; obtain ⟨m0, m1, m2, m3, m4⟩ := MB.out _ cc.world.2.2; simp only [execOp, Act.eval, e0]; go_simp, rfl⟩)
          | 2, _ => exact rstep_first (fun w => World.grownBy.refl w _) rfl (rwant_none rfl) (fun _ _ h => h) 1 (Or.inl rfl) (by kernel_rfl) (fun _ => rfl)
          | 3, _ => exact rstep_first (fun w => World.grownBy.refl w _) rfl (rwant_none rfl) (fun _ _ h => h) 10 (Or.inl rfl) (by kernel_rfl) (fun _ => rfl)
          | 4, _ => exact rstep_pure (fun w => World.grownBy.refl w _) rfl (rwant_none rfl) (fun _ _ h => h) (fun LL aa ww cc => ⟨.pointer (some ⟨b, o + i * 3, none⟩), by have e0 : aa.tmps.getD 55 undef = .slice (some ⟨b, o, none⟩) xs.length c := cc.slot 2 55 (by kernel_rfl) rfl; have e1 : aa.tmps.getD 56 undef = .int .i64 (i : Int) := cc.slot 3 56 (by kernel_rfl) rfl; have q := QI.out; simp only [execOp, Act.eval, e0, e1]; go_simp, rfl⟩)
          | 5, _ => exact rstep_pure (fun w => World.grownBy.refl w _) rfl (rwant_none rfl) (fun _ _ h => h) (fun LL aa ww cc => ⟨.agg #[.bool x.recv, .slice x.A x.l.length x.c, .int .u64 x.now], by have e0 : aa.tmps.getD 57 undef = .pointer (some ⟨b, o + i * 3, none⟩) := cc.slot 4 57 (by kernel_rfl) rfl; obtain ⟨x0, x1, x2⟩ := XB.out _ cc.world.2.2; simp only [execOp, Act.eval, e0]; go_simp, rfl⟩)
          | 6, _ => exact rstep_call rfl (rwant_none rfl) _ _ _ rfl (enters_of Try.func17 (by kernel_rfl) rfl) (fun LL aa ww cc => by have e0 : aa.tmps.getD 53 undef = .pointer (some ⟨cb, 0, none⟩) := cc.slot 0 53 (by kernel_rfl) rfl; have e1 : aa.tmps.getD 54 undef = .agg #[.int .i64 kd, .int .i64 md, .int .i64 sd, .slice Am q.length cm, .int .u64 lo] := cc.slot 1 54 (by kernel_rfl) rfl; have e2 : aa.tmps.getD 58 undef = .agg #[.bool x.recv, .slice x.A x.l.length x.c, .int .u64 x.now] := cc.slot 5 58 (by kernel_rfl) rfl; simp only [List.map_toArray, List.map_cons, List.map_nil, Act.eval, e0, e1, e2]; exact (DO.out) LL ww cc.world cc.fresh)
          | 7, _ => exact rstep_copy (fun w => World.grownBy.refl w _) rfl (rwant_none rfl) (fun _ _ h => h) 59 (Or.inl rfl) 6 (by kernel_rfl) rfl rfl
          | 8, _ => exact rstep_pure (fun w => World.grownBy.refl w _) rfl (rwant_none rfl) (fun _ _ h => h) (fun LL aa ww cc => by obtain ⟨v9, e0, h9⟩ := cc.slot 7 52 (by kernel_rfl) rfl; exact ⟨v9, by (simp only [execOp, Act.eval, e0]; go_simp), h9⟩)
          | 9, _ => exact rstep_pure (fun w => World.grownBy.refl w _) rfl (rwant_none rfl) (fun _ _ h => h) (fun LL aa ww cc => by obtain ⟨v9, e0, h9⟩ := cc.slot 7 52 (by kernel_rfl) rfl; exact ⟨.bool true, by (simp only [execOp, Act.eval, e0]; go_simp), rfl⟩)
          | 10, _ => exact rstep_alloc rfl (rwant_none rfl) _ rfl (.agg zch.toArray) (by kernel_rfl) (fun L w' hj _ => AL.out L w' hj)
          | n + 11, h => exact absurd h (by show ¬ (n + 11 < 11); omega)
        · intro L9 VV w5 hall hlen hJ5 hok
          match VV, hlen with
          | [v0, v1, v2, v3, v4, v5, v6, v7, v8, v9, v10], _ =>
            obtain rfl : v0 = .pointer (some ⟨cb, 0, none⟩) := hok 0 53 rfl
            obtain rfl : v1 = .agg #[.int .i64 kd, .int .i64 md, .int .i64 sd, .slice Am q.length cm, .int .u64 lo] := hok 1 54 rfl
            obtain rfl : v2 = .slice (some ⟨b, o, none⟩) xs.length c := hok 2 55 rfl
            obtain rfl : v3 = .int .i64 (i : Int) := hok 3 56 rfl
            obtain rfl : v4 = .pointer (some ⟨b, o + i * 3, none⟩) := hok 4 57 rfl
            obtain rfl : v5 = .agg #[.bool x.recv, .slice x.A x.l.length x.c, .int .u64 x.now] := hok 5 58 rfl
            have p6 := hok 6 59 rfl
            have p7 := hok 7 52 rfl
            have p8 := hok 8 60 rfl
            obtain rfl : v9 = .bool true := hok 9 61 rfl
            have p10 := hok 10 11 rfl
            obtain ⟨A8, c8, hv8, hq8, hc8, ha8⟩ := p8
            obtain ⟨g, hv10, hbg, hgc, hgl⟩ := p10
            have hv8' : v8 = .agg (chV C2 A8 c8).toArray := hv8
            have hv10' : v10 = .pointer (some ⟨g, 0, none⟩) := hv10
            obtain ⟨f', hf', hb'⟩ := hJ5.2.1 (hall 6 (by decide))
            have HGR5 := Lib.hid hJ5.2.2
            have HB' := Lib.hid hb'
            have HF' := Lib.hid hf'
            have HBG := Lib.hid hbg
            have HRC : Hid (RCh w5 C2 (.agg (chV C2 A8 c8).toArray)) := Lib.hid ⟨A8, c8, rfl, hq8, hc8⟩
            clear hv8 hv10 hq8 hc8 ha8 hbg hb' hf' hJ5 hall hok
            obtain ⟨v7', hv7, _⟩ := p7
            have hv7' : v7 = .tuple #[v7', .bool true] := hv7
            clear hv7
            subst hv7'
            subst hv8'
            subst hv10'
            have hgm : mb < g := by have := HP.out.hc; have := HP.out.blk.lt; omega
            have HX5 := Lib.hid (HBX.out.grown HGR5.out (by simp; omega))
            have HRS5 := Lib.hid (HP.out.res.grown HGR5.out (by simp; omega))
            have HBL5 : Hid (Below w.heap.size w w5) := Lib.hid (HP.out.bel.grown HGR5.out HP.out.bel.size (fun j e => by injection e with e; omega))
            have HOK2 : Hid C2.ok := Lib.hid (by rw [HACT.out]; exact Ch.act_ok _ HP.out.ok x HFIT.out.now)
            clear DO AL MB XB HJ0 HN1 HBX HGR5 HP HFIT p6 hlen
            obtain ⟨k2, m2, s2, lo2, q2⟩ := C2
            simp only [chV]
            have g0 : w5.cell? ⟨g, 0, none⟩ = some (.int .i64 0) := HBG.out.cell rfl
            have g1 : w5.cell? ⟨g, 1, none⟩ = some (.int .i64 0) := HBG.out.cell rfl
            have g2 : w5.cell? ⟨g, 2, none⟩ = some (.int .i64 0) := HBG.out.cell rfl
            have g3 : w5.cell? ⟨g, 3, none⟩ = some (.slice none 0 0) := HBG.out.cell rfl
            have g4 : w5.cell? ⟨g, 4, none⟩ = some (.int .u64 0) := HBG.out.cell rfl
            have gf0 : w5.frozen? ⟨g, 0, none⟩ = false := HBG.out.free 0
            have gf1 : w5.frozen? ⟨g, 1, none⟩ = false := HBG.out.free 1
            have gf2 : w5.frozen? ⟨g, 2, none⟩ = false := HBG.out.free 2
            have gf3 : w5.frozen? ⟨g, 3, none⟩ = false := HBG.out.free 3
            have gf4 : w5.frozen? ⟨g, 4, none⟩ = false := HBG.out.free 4
            have r0 : w5.cell? ⟨mb, 0, none⟩ = some (.int .i64 kd) := HX5.out.cell rfl
            have r1 : w5.cell? ⟨mb, 1, none⟩ = some (.int .i64 md) := HX5.out.cell rfl
            have r2 : w5.cell? ⟨mb, 2, none⟩ = some (.int .i64 sd) := HX5.out.cell rfl
            have r3 : w5.cell? ⟨mb, 3, none⟩ = some (.slice Am q.length cm) := HX5.out.cell rfl
            have r4 : w5.cell? ⟨mb, 4, none⟩ = some (.int .u64 lo) := HX5.out.cell rfl
            have f0 : w5.frozen? ⟨mb, 0, none⟩ = false := HX5.out.free 0
            have f1 : w5.frozen? ⟨mb, 1, none⟩ = false := HX5.out.free 1
            have f2 : w5.frozen? ⟨mb, 2, none⟩ = false := HX5.out.free 2
            have f3 : w5.frozen? ⟨mb, 3, none⟩ = false := HX5.out.free 3
            have f4 : w5.frozen? ⟨mb, 4, none⟩ = false := HX5.out.free 4
            have hne1 : ¬ g = mb := by omega
            have hne2 : ¬ mb = g := by omega
            simp only [List.set_cons_succ, List.set_cons_zero, List.zip_cons_cons, List.zip_nil_right, putsL]
            go_simp
            have hPS : PlR w mb cb (play C (xs.take (i + 1))) f' (set5 (set5 w5 g (.int .i64 k2) (.int .i64 m2) (.int .i64 s2) (.slice A8 q2.length c8) (.int .u64 lo2)) mb (.int .i64 k2) (.int .i64 m2) (.int .i64 s2) (.slice A8 q2.length c8) (.int .u64 lo2)) := by
              rw [← HC2.out]
              exact PlR.stored (D := ⟨kd, md, sd, lo, q⟩) (A' := Am) (c' := cm) HOK2.out HF'.out HB'.out HX5.out HBG.out HRS5.out HBL5.out HRC.out hmb hmc hgm hgc
            have HPS := Lib.hid hPS
            clear hPS
            go_wp2
            go_roundw
            case rel => exact ⟨i + 1, f', by omega, by go_num, HPS.out⟩
            case measure => simp [intOf]; omega
        · intro L9 VV w5 hall hlen hJ5 hok
          match VV, hlen with
          | [v0, v1, v2, v3, v4, v5, v6, v7, v8, v9, v10], _ =>
            obtain rfl : v0 = .pointer (some ⟨cb, 0, none⟩) := hok 0 53 (by decide) rfl
            obtain rfl : v1 = .agg #[.int .i64 kd, .int .i64 md, .int .i64 sd, .slice Am q.length cm, .int .u64 lo] := hok 1 54 (by decide) rfl
            obtain rfl : v2 = .slice (some ⟨b, o, none⟩) xs.length c := hok 2 55 (by decide) rfl
            obtain rfl : v3 = .int .i64 (i : Int) := hok 3 56 (by decide) rfl
            obtain rfl : v4 = .pointer (some ⟨b, o + i * 3, none⟩) := hok 4 57 (by decide) rfl
            obtain rfl : v5 = .agg #[.bool x.recv, .slice x.A x.l.length x.c, .int .u64 x.now] := hok 5 58 (by decide) rfl
            have p6 := hok 6 59 (by decide) rfl
            have p7 := hok 7 52 (by decide) rfl
            have p8 := hok 8 60 (by decide) rfl
            have p10 := hok 10 11 (by decide) rfl
            obtain ⟨A8, c8, hv8, hq8, hc8, ha8⟩ := p8
            obtain ⟨g, hv10, hbg, hgc, hgl⟩ := p10
            have hv8' : v8 = .agg (chV C2 A8 c8).toArray := hv8
            have hv10' : v10 = .pointer (some ⟨g, 0, none⟩) := hv10
            obtain ⟨f', hf', hb'⟩ := hJ5.2.1 (hall 6 (by decide) (by decide))
            have HGR5 := Lib.hid hJ5.2.2
            have HB' := Lib.hid hb'
            have HF' := Lib.hid hf'
            have HBG := Lib.hid hbg
            have HRC : Hid (RCh w5 C2 (.agg (chV C2 A8 c8).toArray)) := Lib.hid ⟨A8, c8, rfl, hq8, hc8⟩
            clear hv8 hv10 hq8 hc8 ha8 hbg hb' hf' hJ5 hall hok
            obtain ⟨v7', hv7, _⟩ := p7
            have hv7' : v7 = .tuple #[v7', .bool true] := hv7
            clear hv7
            subst hv7'
            subst hv8'
            subst hv10'
            have hgm : mb < g := by have := HP.out.hc; have := HP.out.blk.lt; omega
            have HX5 := Lib.hid (HBX.out.grown HGR5.out (by simp; omega))
            have HRS5 := Lib.hid (HP.out.res.grown HGR5.out (by simp; omega))
            have HBL5 : Hid (Below w.heap.size w w5) := Lib.hid (HP.out.bel.grown HGR5.out HP.out.bel.size (fun j e => by injection e with e; omega))
            have HOK2 : Hid C2.ok := Lib.hid (by rw [HACT.out]; exact Ch.act_ok _ HP.out.ok x HFIT.out.now)
            clear DO AL MB XB HJ0 HN1 HBX HGR5 HP HFIT p6 hlen
            obtain ⟨k2, m2, s2, lo2, q2⟩ := C2
            simp only [chV]
            have g0 : w5.cell? ⟨g, 0, none⟩ = some (.int .i64 0) := HBG.out.cell rfl
            have g1 : w5.cell? ⟨g, 1, none⟩ = some (.int .i64 0) := HBG.out.cell rfl
            have g2 : w5.cell? ⟨g, 2, none⟩ = some (.int .i64 0) := HBG.out.cell rfl
            have g3 : w5.cell? ⟨g, 3, none⟩ = some (.slice none 0 0) := HBG.out.cell rfl
            have g4 : w5.cell? ⟨g, 4, none⟩ = some (.int .u64 0) := HBG.out.cell rfl
            have gf0 : w5.frozen? ⟨g, 0, none⟩ = false := HBG.out.free 0
            have gf1 : w5.frozen? ⟨g, 1, none⟩ = false := HBG.out.free 1
            have gf2 : w5.frozen? ⟨g, 2, none⟩ = false := HBG.out.free 2
            have gf3 : w5.frozen? ⟨g, 3, none⟩ = false := HBG.out.free 3
            have gf4 : w5.frozen? ⟨g, 4, none⟩ = false := HBG.out.free 4
            have r0 : w5.cell? ⟨mb, 0, none⟩ = some (.int .i64 kd) := HX5.out.cell rfl
            have r1 : w5.cell? ⟨mb, 1, none⟩ = some (.int .i64 md) := HX5.out.cell rfl
            have r2 : w5.cell? ⟨mb, 2, none⟩ = some (.int .i64 sd) := HX5.out.cell rfl
            have r3 : w5.cell? ⟨mb, 3, none⟩ = some (.slice Am q.length cm) := HX5.out.cell rfl
            have r4 : w5.cell? ⟨mb, 4, none⟩ = some (.int .u64 lo) := HX5.out.cell rfl
            have f0 : w5.frozen? ⟨mb, 0, none⟩ = false := HX5.out.free 0
            have f1 : w5.frozen? ⟨mb, 1, none⟩ = false := HX5.out.free 1
            have f2 : w5.frozen? ⟨mb, 2, none⟩ = false := HX5.out.free 2
            have f3 : w5.frozen? ⟨mb, 3, none⟩ = false := HX5.out.free 3
            have f4 : w5.frozen? ⟨mb, 4, none⟩ = false := HX5.out.free 4
            have hne1 : ¬ g = mb := by omega
            have hne2 : ¬ mb = g := by omega
            simp only [List.set_cons_succ, List.set_cons_zero, List.zip_cons_cons, List.zip_nil_right, putsL]
            go_simp
            have hPS : PlR w mb cb (play C (xs.take (i + 1))) f' (set5 (set5 w5 g (.int .i64 k2) (.int .i64 m2) (.int .i64 s2) (.slice A8 q2.length c8) (.int .u64 lo2)) mb (.int .i64 k2) (.int .i64 m2) (.int .i64 s2) (.slice A8 q2.length c8) (.int .u64 lo2)) := by
              rw [← HC2.out]
              exact PlR.stored (D := ⟨kd, md, sd, lo, q⟩) (A' := Am) (c' := cm) HOK2.out HF'.out HB'.out HX5.out HBG.out HRS5.out HBL5.out HRC.out hmb hmc hgm hgc
            have HPS := Lib.hid hPS
            clear hPS
            go_wp2
            go_roundw
            case rel => exact ⟨i + 1, f', by omega, by go_num, HPS.out⟩
            case measure => simp [intOf]; omega
      · have hin : i = n := by omega
        subst hin
        obtain ⟨D, hD⟩ : ∃ D, D = play C (xs.take i) := ⟨_, rfl⟩
        have HD9 : Hid (D = play C (xs.take 60)) := Lib.hid (by rw [hD, HTK.out])
        rw [← hD] at hP
        have HP9 := Lib.hid hP
        obtain ⟨Am, cm, hbox, hrch⟩ := hP.box
        have HRCH := Lib.hid hrch
        have HBX := Lib.hid hbox
        have hcs : ¬ i < xs.length ∨ (i < xs.length ∧ ¬ (i : Int) < 60) := by have := HN.out; omega
        clear hD hP hbox hrch hlt hnx
        obtain ⟨kd, md, sd, lo, q⟩ := D
        have r0 : wr.cell? ⟨mb, 0, none⟩ = some (.int .i64 kd) := HBX.out.cell rfl
        have r1 : wr.cell? ⟨mb, 1, none⟩ = some (.int .i64 md) := HBX.out.cell rfl
        have r2 : wr.cell? ⟨mb, 2, none⟩ = some (.int .i64 sd) := HBX.out.cell rfl
        have r3 : wr.cell? ⟨mb, 3, none⟩ = some (.slice Am q.length cm) := HBX.out.cell rfl
        have r4 : wr.cell? ⟨mb, 4, none⟩ = some (.int .u64 lo) := HBX.out.cell rfl
        have g0 : wr.cell? ⟨w.heap.size + 1, 0, none⟩ = some (.int .i64 0) := HP9.out.res.cell rfl
        have g1 : wr.cell? ⟨w.heap.size + 1, 1, none⟩ = some (.int .i64 0) := HP9.out.res.cell rfl
        have g2 : wr.cell? ⟨w.heap.size + 1, 2, none⟩ = some (.int .i64 0) := HP9.out.res.cell rfl
        have g3 : wr.cell? ⟨w.heap.size + 1, 3, none⟩ = some (.slice none 0 0) := HP9.out.res.cell rfl
        have g4 : wr.cell? ⟨w.heap.size + 1, 4, none⟩ = some (.int .u64 0) := HP9.out.res.cell rfl
        have gf0 : wr.frozen? ⟨w.heap.size + 1, 0, none⟩ = false := HP9.out.res.free 0
        have gf1 : wr.frozen? ⟨w.heap.size + 1, 1, none⟩ = false := HP9.out.res.free 1
        have gf2 : wr.frozen? ⟨w.heap.size + 1, 2, none⟩ = false := HP9.out.res.free 2
        have gf3 : wr.frozen? ⟨w.heap.size + 1, 3, none⟩ = false := HP9.out.res.free 3
        have gf4 : wr.frozen? ⟨w.heap.size + 1, 4, none⟩ = false := HP9.out.res.free 4
        have hmb : w.heap.size + 1 < mb := HP9.out.hm
        have hmc : mb < cb := HP9.out.hc
        rcases hcs with hcs | ⟨hcs, hcs2⟩
        all_goals
          go_wp2
          go_region
          all_goals
            go_wp2
            clear r0 r1 r2 r3 r4 g0 g1 g2 g3 g4 gf0 gf1 gf2 gf3 gf4
            have hg5 := grown_set5 wr (w.heap.size + 1) (.int .i64 kd) (.int .i64 md) (.int .i64 sd) (.slice Am q.length cm) (.int .u64 lo)
            have hr5 := blk_set5 HP9.out.res (.int .i64 kd) (.int .i64 md) (.int .i64 sd) (.slice Am q.length cm) (.int .u64 lo)
            have hv5 := RChB.grown' (B := wr.heap.size) HRCH.out (Nat.le_refl _) HP9.out.res (by simp [zch]) hg5
            unfold set5 at hg5 hr5 hv5
            obtain ⟨w6, hw6⟩ : ∃ w6, w6 = ((((wr.setCell ⟨w.heap.size + 1, 0, none⟩ (.int .i64 kd)).setCell ⟨w.heap.size + 1, 1, none⟩ (.int .i64 md)).setCell ⟨w.heap.size + 1, 2, none⟩ (.int .i64 sd)).setCell ⟨w.heap.size + 1, 3, none⟩ (.slice Am q.length cm)).setCell ⟨w.heap.size + 1, 4, none⟩ (.int .u64 lo) := ⟨_, rfl⟩
            rw [← hw6] at hg5 hr5 hv5 ⊢
            clear hw6
            have e0 : w6.drew.cell? ⟨w.heap.size + 1, 0, none⟩ = some (.int .i64 kd) := hr5.cell rfl
            have e1 : w6.drew.cell? ⟨w.heap.size + 1, 1, none⟩ = some (.int .i64 md) := hr5.cell rfl
            have e2 : w6.drew.cell? ⟨w.heap.size + 1, 2, none⟩ = some (.int .i64 sd) := hr5.cell rfl
            have e3 : w6.drew.cell? ⟨w.heap.size + 1, 3, none⟩ = some (.slice Am q.length cm) := hr5.cell rfl
            have e4 : w6.drew.cell? ⟨w.heap.size + 1, 4, none⟩ = some (.int .u64 lo) := hr5.cell rfl
            have hb5 : Below w.heap.size w w6 := HP9.out.bel.grown hg5 HP9.out.bel.size (fun j e => by injection e with e; subst e; exact Nat.le_succ _)
            have hblk : Blk w6 cb (ccells ⟨kd, md, sd, lo, q⟩ f) := HP9.out.blk.grown hg5 (by simp; omega)
            have hvv := hv5.up hg5.size
            obtain ⟨w7, hw7⟩ : ∃ w7, w7 = w6.drew := ⟨_, rfl⟩
            have hb7 : Below w.heap.size w w7 := by rw [hw7]; exact hb5.drew
            have hblk7 : Blk w7 cb (ccells ⟨kd, md, sd, lo, q⟩ f) := by rw [hw7]; exact hblk
            have hv7 : RCh w7 ⟨kd, md, sd, lo, q⟩ (.agg (chV ⟨kd, md, sd, lo, q⟩ Am cm).toArray) := by rw [hw7]; exact hvv
            rw [← hw7] at e0 e1 e2 e3 e4 ⊢
            refine bodyPost_ret (v := .tuple #[.pointer (some ⟨cb, 0, none⟩), .agg #[.int .i64 kd, .int .i64 md, .int .i64 sd, .slice Am q.length cm, .int .u64 lo]]) (by simp [results, Try.results13, go_sem, e0, e1, e2, e3, e4]) rfl ?_
            rw [← HD9.out]
            exact ⟨cb, f, _, rfl, hv7, HP9.out.f16, hblk7, by omega, hb7⟩
  · have HZ := Lib.hid hz
    obtain ⟨C, hCe⟩ : ∃ C, C = ch0 k m s := ⟨_, rfl⟩
    have hCC : C = ⟨1, 3, 8, 0, []⟩ := by rw [hCe, ch0, if_neg hz]
    have HV : Hid (chV C none 0 = [.int .i64 1, .int .i64 3, .int .i64 8, .slice none 0 0, .int .u64 0]) := Lib.hid <| by rw [hCC]; rfl
    have HCC := Lib.hid hCC
    have HZ2 : Hid (NewOk 1 3 8) := Lib.hid (by unfold NewOk; omega)
    rw [← hCe] at HC0 ⊢
    clear hz hCe hCC
    go_enter Try.func13, Try.ntmps13
    go_wp2_with fail
    refine (refnew_bad _ k m s HZ.out).mono ?_
    rintro e w1 ⟨rfl, hb1⟩
    have HR1 : Hid (Blk w1 (w.heap.size + 1) zch) := HRES0.out.below hb1 HRES0.out.lt
    have HB1 : Hid (Below w.heap.size w w1) := HX0.out.trans (hb1.mono HX0.out.size)
    have HZ1 : Hid (w.heap.size + 1 + 1 ≤ w1.heap.size) := Lib.hid (by rw [← HZ0.out]; exact hb1.size)
    clear hb1 HRES0 HX0 HZ0
    go_wp2_with fail
    obtain ⟨W, hW⟩ : ∃ W, W = w1.alloc (.cells #[.int .i64 0, .int .i64 0, .int .i64 0, .slice none 0 0, .int .u64 0] 48) := ⟨_, rfl⟩
    have HRW : Hid (Blk W (w.heap.size + 1) zch) := Lib.hid (by rw [hW]; exact HR1.out.alloc _)
    have HBW : Hid (Below w.heap.size w W) := Lib.hid (by rw [hW]; exact HB1.out.alloc HB1.out.size _)
    have HXW : Hid (Blk W w1.heap.size zch) := Lib.hid (by rw [hW]; exact Blk.new w1 _ _)
    rw [← hW]
    clear hW HR1 HB1
    refine (refnew_ok W 1 3 8 HZ2.out).mono ?_
    rintro e w2 ⟨rfl, hb2⟩
    obtain ⟨mb, hmb⟩ : ∃ mb, mb = w1.heap.size := ⟨_, rfl⟩
    have hmz : w.heap.size + 1 < mb := by have := HZ1.out; omega
    rw [← hmb] at HXW ⊢
    clear hmb
    have HR2 := Lib.hid (HRW.out.below hb2 HRW.out.lt)
    have HB2 : Hid (Below w.heap.size w w2) := HBW.out.trans (hb2.mono HBW.out.size)
    have HX2 := Lib.hid (HXW.out.below hb2 HXW.out.lt)
    have r0 : w2.cell? ⟨mb, 0, none⟩ = some (.int .i64 0) := HX2.out.cell rfl
    have r1 : w2.cell? ⟨mb, 1, none⟩ = some (.int .i64 0) := HX2.out.cell rfl
    have r2 : w2.cell? ⟨mb, 2, none⟩ = some (.int .i64 0) := HX2.out.cell rfl
    have r3 : w2.cell? ⟨mb, 3, none⟩ = some (.slice none 0 0) := HX2.out.cell rfl
    have r4 : w2.cell? ⟨mb, 4, none⟩ = some (.int .u64 0) := HX2.out.cell rfl
    have f0 : w2.frozen? ⟨mb, 0, none⟩ = false := HX2.out.free 0
    have f1 : w2.frozen? ⟨mb, 1, none⟩ = false := HX2.out.free 1
    have f2 : w2.frozen? ⟨mb, 2, none⟩ = false := HX2.out.free 2
    have f3 : w2.frozen? ⟨mb, 3, none⟩ = false := HX2.out.free 3
    have f4 : w2.frozen? ⟨mb, 4, none⟩ = false := HX2.out.free 4
    clear hb2 HRW HBW HXW
    go_wp2_with fail
    clear r0 r1 r2 r3 r4 f0 f1 f2 f3 f4
    have hg7 := ((((grown_setCell w2 ⟨mb, 0, none⟩ (.int .i64 1)).trans (grown_setCell _ ⟨mb, 1, none⟩ (.int .i64 3))).trans (grown_setCell _ ⟨mb, 2, none⟩ (.int .i64 8))).trans (grown_setCell _ ⟨mb, 3, none⟩ (.slice none 0 0))).trans (grown_setCell _ ⟨mb, 4, none⟩ (.int .u64 0))
    have hr7 := ((((HX2.out.setCell 0 (.int .i64 1)).setCell 1 (.int .i64 3)).setCell 2 (.int .i64 8)).setCell 3 (.slice none 0 0)).setCell 4 (.int .u64 0)
    obtain ⟨w7, hw7⟩ : ∃ w7, w7 = ((((w2.setCell ⟨mb, 0, none⟩ (.int .i64 1)).setCell ⟨mb, 1, none⟩ (.int .i64 3)).setCell ⟨mb, 2, none⟩ (.int .i64 8)).setCell ⟨mb, 3, none⟩ (.slice none 0 0)).setCell ⟨mb, 4, none⟩ (.int .u64 0) := ⟨_, rfl⟩
    rw [← hw7] at hr7 hg7 ⊢
    clear hw7
    have HG7 := Lib.hid hg7
    have HXW : Hid (Blk w7 mb (chV C none 0)) := Lib.hid (by rw [HV.out]; exact hr7)
    have HRW := Lib.hid (HR2.out.grown hg7 (by simp; omega))
    have HBW : Hid (Below w.heap.size w w7) := Lib.hid (HB2.out.grown hg7 HB2.out.size (fun k e => by injection e with e; subst e; show w.heap.size ≤ mb; omega))
    clear hg7 hr7 HR2 HB2 HX2
    refine (new_ok w7 1 3 8 HZ2.out).mono ?_
    rintro e w3 ⟨rfl, hb3, hg3⟩
    have hb3' : Blk w3 w7.heap.size (ccells C 0) := by rw [HCC.out]; exact hb3
    have HP := Lib.hid (PlR.start (mb := mb) HC0.out (by rw [HCC.out]) HRW.out HBW.out hmz HXW.out hb3' hg3)
    obtain ⟨cb, hcb⟩ : ∃ cb, cb = w7.heap.size := ⟨_, rfl⟩
    rw [← hcb]
    rw [← hcb] at HP
    clear hb3 hb3' hg3 HRW HBW HXW hcb HCC HV HZ HZ1 HZ2 HG7 hmz
    clear w1 W w2 w7
    go_wp2
    go_loopw [10] (fun s10 wr => ∃ (i f : Nat), i ≤ n ∧ s10 = .int .i64 i ∧ PlR w mb cb (play C (xs.take i)) f wr) (fun s10 _ => n - (intOf s10).toNat)
    case atStart => exact ⟨0, 0, Nat.zero_le _, rfl, HP.out⟩
    case round =>
      obtain ⟨i, f, hi, rfl, hP⟩ := hrel
      by_cases hlt : i < n
      · have hix : i < xs.length := by omega
        have hi60 : (i : Int) < 60 := by omega
        obtain ⟨b, o, hAe, hb, hc0, hc1, hc2, hfit⟩ := HA.out.get hix
        subst hAe
        obtain ⟨x, hx⟩ : ∃ x, x = xs[i] := ⟨_, rfl⟩
        rw [← hx] at hc0 hc1 hc2 hfit
        obtain ⟨C2, hC2⟩ : ∃ C2, C2 = play C (xs.take (i + 1)) := ⟨_, rfl⟩
        obtain ⟨D, hD⟩ : ∃ D, D = play C (xs.take i) := ⟨_, rfl⟩
        have hact : C2 = Ch.act D x := by rw [hC2, hD, List.take_succ_eq_append_getElem hix, play_snoc, hx]
        have HC2 := Lib.hid hC2
        have HACT := Lib.hid hact
        rw [← hD] at hP
        have HP := Lib.hid hP
        have HFIT := Lib.hid hfit
        obtain ⟨Am, cm, hbox, hrch⟩ := hP.box
        have hbw : b < w.heap.size := Nat.lt_of_lt_of_le hb hB0
        have hmc := hP.hc
        have hmb := hP.hm
        have hbel := hP.bel
        have hcw := hP.blk.lt
        clear hx hC2 hD hact hfit
        obtain ⟨kd, md, sd, lo, q⟩ := D
        simp only [chV] at hbox hrch
        have MB : Hid (∀ w', wr.grownBy w' (some cb) → w'.cell? ⟨mb, 0, none⟩ = some (.int .i64 kd) ∧ w'.cell? ⟨mb, 1, none⟩ = some (.int .i64 md) ∧ w'.cell? ⟨mb, 2, none⟩ = some (.int .i64 sd) ∧ w'.cell? ⟨mb, 3, none⟩ = some (.slice Am q.length cm) ∧ w'.cell? ⟨mb, 4, none⟩ = some (.int .u64 lo)) := Lib.hid fun w' hg => by
          have h := hbox.grown hg (by simp; omega)
          exact ⟨h.cell rfl, h.cell rfl, h.cell rfl, h.cell rfl, h.cell rfl⟩
        have hcell : ∀ w', wr.grownBy w' (some cb) → ∀ k, w'.cell? ⟨b, k, none⟩ = w.cell? ⟨b, k, none⟩ := fun w' hg k => (hbel.grown hg hbel.size (fun j e => by injection e with e; omega)).cell (p := ⟨b, k, none⟩) hbw
        have XB : Hid (∀ w', wr.grownBy w' (some cb) → w'.cell? ⟨b, o + i * 3, none⟩ = some (.bool x.recv) ∧ w'.cell? ⟨b, o + i * 3 + 1, none⟩ = some (.slice x.A x.l.length x.c) ∧ w'.cell? ⟨b, o + i * 3 + 2, none⟩ = some (.int .u64 x.now)) := Lib.hid fun w' hg => ⟨(hcell w' hg _).trans hc0, (hcell w' hg _).trans hc1, (hcell w' hg _).trans hc2⟩
        have HN1 := Lib.hid (hrch.apart HP.out.blk)
        have DO : Hid (∀ (LL : Nat → Bool) (w' : World), JP cb ⟨kd, md, sd, lo, q⟩ f C2 wr LL w' → LL 6 = false → Calls Try.prog 17 #[.pointer (some ⟨cb, 0, none⟩), .agg #[.int .i64 kd, .int .i64 md, .int .i64 sd, .slice Am q.length cm, .int .u64 lo], .agg #[.bool x.recv, .slice x.A x.l.length x.c, .int .u64 x.now]] w' fun e w'' => ∃ v, e = .returned v ∧ (rTup cb C2).ok v w'' ∧ w'.grownBy w'' (some cb) ∧ JP cb ⟨kd, md, sd, lo, q⟩ f C2 wr (upd LL 6) w'') := Lib.hid fun LL w' hJ hl => by
          obtain ⟨j1, j2, j3⟩ := hJ
          have hbl : Below B0 w w' := (hbel.mono hB0).grown j3 (Nat.le_trans hB0 hbel.size) (fun j e => by injection e with e; omega)
          have hft : x.fits w' B0 := ⟨HFIT.out.rb.below hbl, HFIT.out.cap, HFIT.out.len, HFIT.out.now⟩
          refine (do_calls w' w'.heap.size (Nat.le_refl _) cb f _ HP.out.ok HP.out.f16 (j1 hl) _ ((HN1.out.keep j3).rch) B0 (by omega) x hft).mono ?_
          rintro e w'' ⟨v, f', rfl, hv, hf', hb', hg'⟩
          rw [← HACT.out] at hv hb'
          exact ⟨_, rfl, ⟨v, rfl, hv.apart hb'⟩, hg', fun h => by simp [upd] at h, fun _ => ⟨f', hf', hb'⟩, j3.trans hg'⟩
        have AL : Hid (∀ (LL : Nat → Bool) (w' : World), JP cb ⟨kd, md, sd, lo, q⟩ f C2 wr LL w' → (rBox cb wr.heap.size).ok (.pointer (some ⟨w'.heap.size, 0, none⟩)) (w'.alloc (.cells (Value.agg zch.toArray).cells 48)) ∧ w'.grownBy (w'.alloc (.cells (Value.agg zch.toArray).cells 48)) (some cb) ∧ JP cb ⟨kd, md, sd, lo, q⟩ f C2 wr (upd LL 10) (w'.alloc (.cells (Value.agg zch.toArray).cells 48))) := Lib.hid fun LL w' hJ => by
          obtain ⟨j1, j2, j3⟩ := hJ
          refine ⟨⟨w'.heap.size, rfl, Blk.new w' zch _, fun e => by have := j3.size; omega, j3.size⟩, World.grownBy_alloc _ _ _, fun h => (j1 h).alloc _, fun h => ?_, j3.trans (World.grownBy_alloc _ _ _)⟩
          obtain ⟨f', hf', hb'⟩ := j2 h
          exact ⟨f', hf', hb'.alloc _⟩
        have HJ0 : Hid (JP cb ⟨kd, md, sd, lo, q⟩ f C2 wr (fun _ => false) wr.drew) := Lib.hid ⟨fun _ => HP.out.blk, (fun h => by cases h), grown_drew (World.grownBy.refl wr _)⟩
        have QI := Lib.hid hix
        have HBX := Lib.hid hbox
        clear hc0 hc1 hc2 hcell hbox hrch hP hbel hcw
        go_wp2_with fail
        refine region_relF 11 9 (fun w w' => w.grownBy w' (some cb)) (fun ix9 => ([.is (.pointer (some ⟨cb, 0, none⟩)), .is (.agg #[.int .i64 kd, .int .i64 md, .int .i64 sd, .slice Am q.length cm, .int .u64 lo]), .is (.slice (some ⟨b, o, none⟩) xs.length c), .is (.int .i64 (i : Int)), .is (.pointer (some ⟨b, o + i * 3, none⟩)), .is (.agg #[.bool x.recv, .slice x.A x.l.length x.c, .int .u64 x.now]), (rTup cb C2), (rTup cb C2), (rCh cb C2), .is (.bool true), (rBox cb wr.heap.size)] : List (RD (fun w w' => w.grownBy w' (some cb)))).getD ix9 (.is undef)) [some 53, some 54, some 55, some 56, some 57, some 58, some 59, some 52, some 60, some 61, some 11] (JP cb ⟨kd, md, sd, lo, q⟩ f C2 wr) (fun w => World.grownBy.refl w _) (by kernel_rfl) (by kernel_rfl) (by kernel_rfl) (by kernel_rfl) rfl _ _ rfl rfl HJ0.out (fun ii hii => ?_) ?_ ?_
        · match ii, hii with
          | 0, _ => exact rstep_first (fun w => World.grownBy.refl w _) rfl (rwant_none rfl) (fun _ _ h => h) 8 (Or.inl rfl) (by kernel_rfl) (fun _ => rfl)
          | 1, _ => exact rstep_pure (fun w => World.grownBy.refl w _) rfl (rwant_none rfl) (fun _ _ h => h) (fun LL aa ww cc => ⟨.agg #[.int .i64 kd, .int .i64 md, .int .i64 sd, .slice Am q.length cm, .int .u64 lo], by have e0 : aa.tmps.getD 6 undef = .pointer (some ⟨mb, 0, none⟩) := (cc.orig 6 (by kernel_rfl)).trans rfl; obtain ⟨m0, m1, m2, m3, m4⟩ := MB.out _ cc.world.2.2; simp only [execOp, Act.eval, e0]; go_simp, rfl⟩)
          | 2, _ => exact rstep_first (fun w => World.grownBy.refl w _) rfl (rwant_none rfl) (fun _ _ h => h) 1 (Or.inl rfl) (by kernel_rfl) (fun _ => rfl)
          | 3, _ => exact rstep_first (fun w => World.grownBy.refl w _) rfl (rwant_none rfl) (fun _ _ h => h) 10 (Or.inl rfl) (by kernel_rfl) (fun _ => rfl)
          | 4, _ => exact rstep_pure (fun w => World.grownBy.refl w _) rfl (rwant_none rfl) (fun _ _ h => h) (fun LL aa ww cc => ⟨.pointer (some ⟨b, o + i * 3, none⟩), by have e0 : aa.tmps.getD 55 undef = .slice (some ⟨b, o, none⟩) xs.length c := cc.slot 2 55 (by kernel_rfl) rfl; have e1 : aa.tmps.getD 56 undef = .int .i64 (i : Int) := cc.slot 3 56 (by kernel_rfl) rfl; have q := QI.out; simp only [execOp, Act.eval, e0, e1]; go_simp, rfl⟩)
          | 5, _ => exact rstep_pure (fun w => World.grownBy.refl w _) rfl (rwant_none rfl) (fun _ _ h => h) (fun LL aa ww cc => ⟨.agg #[.bool x.recv, .slice x.A x.l.length x.c, .int .u64 x.now], by have e0 : aa.tmps.getD 57 undef = .pointer (some ⟨b, o + i * 3, none⟩) := cc.slot 4 57 (by kernel_rfl) rfl; obtain ⟨x0, x1, x2⟩ := XB.out _ cc.world.2.2; simp only [execOp, Act.eval, e0]; go_simp, rfl⟩)
          | 6, _ => exact rstep_call rfl (rwant_none rfl) _ _ _ rfl (enters_of Try.func17 (by kernel_rfl) rfl) (fun LL aa ww cc => by have e0 : aa.tmps.getD 53 undef = .pointer (some ⟨cb, 0, none⟩) := cc.slot 0 53 (by kernel_rfl) rfl; have e1 : aa.tmps.getD 54 undef = .agg #[.int .i64 kd, .int .i64 md, .int .i64 sd, .slice Am q.length cm, .int .u64 lo] := cc.slot 1 54 (by kernel_rfl) rfl; have e2 : aa.tmps.getD 58 undef = .agg #[.bool x.recv, .slice x.A x.l.length x.c, .int .u64 x.now] := cc.slot 5 58 (by kernel_rfl) rfl; simp only [List.map_toArray, List.map_cons, List.map_nil, Act.eval, e0, e1, e2]; exact (DO.out) LL ww cc.world cc.fresh)
          | 7, _ => exact rstep_copy (fun w => World.grownBy.refl w _) rfl (rwant_none rfl) (fun _ _ h => h) 59 (Or.inl rfl) 6 (by kernel_rfl) rfl rfl
          | 8, _ => exact rstep_pure (fun w => World.grownBy.refl w _) rfl (rwant_none rfl) (fun _ _ h => h) (fun LL aa ww cc => by obtain ⟨v9, e0, h9⟩ := cc.slot 7 52 (by kernel_rfl) rfl; exact ⟨v9, by (simp only [execOp, Act.eval, e0]; go_simp), h9⟩)
          | 9, _ => exact rstep_pure (fun w => World.grownBy.refl w _) rfl (rwant_none rfl) (fun _ _ h => h) (fun LL aa ww cc => by obtain ⟨v9, e0, h9⟩ := cc.slot 7 52 (by kernel_rfl) rfl; exact ⟨.bool true, by (simp only [execOp, Act.eval, e0]; go_simp), rfl⟩)
          | 10, _ => exact rstep_alloc rfl (rwant_none rfl) _ rfl (.agg zch.toArray) (by kernel_rfl) (fun L w' hj _ => AL.out L w' hj)
          | n + 11, h => exact absurd h (by show ¬ (n + 11 < 11); omega)
        · intro L9 VV w5 hall hlen hJ5 hok
          match VV, hlen with
          | [v0, v1, v2, v3, v4, v5, v6, v7, v8, v9, v10], _ =>
            obtain rfl : v0 = .pointer (some ⟨cb, 0, none⟩) := hok 0 53 rfl
            obtain rfl : v1 = .agg #[.int .i64 kd, .int .i64 md, .int .i64 sd, .slice Am q.length cm, .int .u64 lo] := hok 1 54 rfl
            obtain rfl : v2 = .slice (some ⟨b, o, none⟩) xs.length c := hok 2 55 rfl
            obtain rfl : v3 = .int .i64 (i : Int) := hok 3 56 rfl
            obtain rfl : v4 = .pointer (some ⟨b, o + i * 3, none⟩) := hok 4 57 rfl
            obtain rfl : v5 = .agg #[.bool x.recv, .slice x.A x.l.length x.c, .int .u64 x.now] := hok 5 58 rfl
            have p6 := hok 6 59 rfl
            have p7 := hok 7 52 rfl
            have p8 := hok 8 60 rfl
            obtain rfl : v9 = .bool true := hok 9 61 rfl
            have p10 := hok 10 11 rfl
            obtain ⟨A8, c8, hv8, hq8, hc8, ha8⟩ := p8
            obtain ⟨g, hv10, hbg, hgc, hgl⟩ := p10
            have hv8' : v8 = .agg (chV C2 A8 c8).toArray := hv8
            have hv10' : v10 = .pointer (some ⟨g, 0, none⟩) := hv10
            obtain ⟨f', hf', hb'⟩ := hJ5.2.1 (hall 6 (by decide))
            have HGR5 := Lib.hid hJ5.2.2
            have HB' := Lib.hid hb'
            have HF' := Lib.hid hf'
            have HBG := Lib.hid hbg
            have HRC : Hid (RCh w5 C2 (.agg (chV C2 A8 c8).toArray)) := Lib.hid ⟨A8, c8, rfl, hq8, hc8⟩
            clear hv8 hv10 hq8 hc8 ha8 hbg hb' hf' hJ5 hall hok
            obtain ⟨v7', hv7, _⟩ := p7
            have hv7' : v7 = .tuple #[v7', .bool true] := hv7
            clear hv7
            subst hv7'
            subst hv8'
            subst hv10'
            have hgm : mb < g := by have := HP.out.hc; have := HP.out.blk.lt; omega
            have HX5 := Lib.hid (HBX.out.grown HGR5.out (by simp; omega))
            have HRS5 := Lib.hid (HP.out.res.grown HGR5.out (by simp; omega))
            have HBL5 : Hid (Below w.heap.size w w5) := Lib.hid (HP.out.bel.grown HGR5.out HP.out.bel.size (fun j e => by injection e with e; omega))
            have HOK2 : Hid C2.ok := Lib.hid (by rw [HACT.out]; exact Ch.act_ok _ HP.out.ok x HFIT.out.now)
            clear DO AL MB XB HJ0 HN1 HBX HGR5 HP HFIT p6 hlen
            obtain ⟨k2, m2, s2, lo2, q2⟩ := C2
            simp only [chV]
            have g0 : w5.cell? ⟨g, 0, none⟩ = some (.int .i64 0) := HBG.out.cell rfl
            have g1 : w5.cell? ⟨g, 1, none⟩ = some (.int .i64 0) := HBG.out.cell rfl
            have g2 : w5.cell? ⟨g, 2, none⟩ = some (.int .i64 0) := HBG.out.cell rfl
            have g3 : w5.cell? ⟨g, 3, none⟩ = some (.slice none 0 0) := HBG.out.cell rfl
            have g4 : w5.cell? ⟨g, 4, none⟩ = some (.int .u64 0) := HBG.out.cell rfl
            have gf0 : w5.frozen? ⟨g, 0, none⟩ = false := HBG.out.free 0
            have gf1 : w5.frozen? ⟨g, 1, none⟩ = false := HBG.out.free 1
            have gf2 : w5.frozen? ⟨g, 2, none⟩ = false := HBG.out.free 2
            have gf3 : w5.frozen? ⟨g, 3, none⟩ = false := HBG.out.free 3
            have gf4 : w5.frozen? ⟨g, 4, none⟩ = false := HBG.out.free 4
            have r0 : w5.cell? ⟨mb, 0, none⟩ = some (.int .i64 kd) := HX5.out.cell rfl
            have r1 : w5.cell? ⟨mb, 1, none⟩ = some (.int .i64 md) := HX5.out.cell rfl
            have r2 : w5.cell? ⟨mb, 2, none⟩ = some (.int .i64 sd) := HX5.out.cell rfl
            have r3 : w5.cell? ⟨mb, 3, none⟩ = some (.slice Am q.length cm) := HX5.out.cell rfl
            have r4 : w5.cell? ⟨mb, 4, none⟩ = some (.int .u64 lo) := HX5.out.cell rfl
            have f0 : w5.frozen? ⟨mb, 0, none⟩ = false := HX5.out.free 0
            have f1 : w5.frozen? ⟨mb, 1, none⟩ = false := HX5.out.free 1
            have f2 : w5.frozen? ⟨mb, 2, none⟩ = false := HX5.out.free 2
            have f3 : w5.frozen? ⟨mb, 3, none⟩ = false := HX5.out.free 3
            have f4 : w5.frozen? ⟨mb, 4, none⟩ = false := HX5.out.free 4
            have hne1 : ¬ g = mb := by omega
            have hne2 : ¬ mb = g := by omega
            simp only [List.set_cons_succ, List.set_cons_zero, List.zip_cons_cons, List.zip_nil_right, putsL]
            go_simp
            have hPS : PlR w mb cb (play C (xs.take (i + 1))) f' (set5 (set5 w5 g (.int .i64 k2) (.int .i64 m2) (.int .i64 s2) (.slice A8 q2.length c8) (.int .u64 lo2)) mb (.int .i64 k2) (.int .i64 m2) (.int .i64 s2) (.slice A8 q2.length c8) (.int .u64 lo2)) := by
              rw [← HC2.out]
              exact PlR.stored (D := ⟨kd, md, sd, lo, q⟩) (A' := Am) (c' := cm) HOK2.out HF'.out HB'.out HX5.out HBG.out HRS5.out HBL5.out HRC.out hmb hmc hgm hgc
            have HPS := Lib.hid hPS
            clear hPS
            go_wp2
            go_roundw
            case rel => exact ⟨i + 1, f', by omega, by go_num, HPS.out⟩
            case measure => simp [intOf]; omega
        · intro L9 VV w5 hall hlen hJ5 hok
          match VV, hlen with
          | [v0, v1, v2, v3, v4, v5, v6, v7, v8, v9, v10], _ =>
            obtain rfl : v0 = .pointer (some ⟨cb, 0, none⟩) := hok 0 53 (by decide) rfl
            obtain rfl : v1 = .agg #[.int .i64 kd, .int .i64 md, .int .i64 sd, .slice Am q.length cm, .int .u64 lo] := hok 1 54 (by decide) rfl
            obtain rfl : v2 = .slice (some ⟨b, o, none⟩) xs.length c := hok 2 55 (by decide) rfl
            obtain rfl : v3 = .int .i64 (i : Int) := hok 3 56 (by decide) rfl
            obtain rfl : v4 = .pointer (some ⟨b, o + i * 3, none⟩) := hok 4 57 (by decide) rfl
            obtain rfl : v5 = .agg #[.bool x.recv, .slice x.A x.l.length x.c, .int .u64 x.now] := hok 5 58 (by decide) rfl
            have p6 := hok 6 59 (by decide) rfl
            have p7 := hok 7 52 (by decide) rfl
            have p8 := hok 8 60 (by decide) rfl
            have p10 := hok 10 11 (by decide) rfl
            obtain ⟨A8, c8, hv8, hq8, hc8, ha8⟩ := p8
            obtain ⟨g, hv10, hbg, hgc, hgl⟩ := p10
            have hv8' : v8 = .agg (chV C2 A8 c8).toArray := hv8
            have hv10' : v10 = .pointer (some ⟨g, 0, none⟩) := hv10
            obtain ⟨f', hf', hb'⟩ := hJ5.2.1 (hall 6 (by decide) (by decide))
            have HGR5 := Lib.hid hJ5.2.2
            have HB' := Lib.hid hb'
            have HF' := Lib.hid hf'
            have HBG := Lib.hid hbg
            have HRC : Hid (RCh w5 C2 (.agg (chV C2 A8 c8).toArray)) := Lib.hid ⟨A8, c8, rfl, hq8, hc8⟩
            clear hv8 hv10 hq8 hc8 ha8 hbg hb' hf' hJ5 hall hok
            obtain ⟨v7', hv7, _⟩ := p7
            have hv7' : v7 = .tuple #[v7', .bool true] := hv7
            clear hv7
            subst hv7'
            subst hv8'
            subst hv10'
            have hgm : mb < g := by have := HP.out.hc; have := HP.out.blk.lt; omega
            have HX5 := Lib.hid (HBX.out.grown HGR5.out (by simp; omega))
            have HRS5 := Lib.hid (HP.out.res.grown HGR5.out (by simp; omega))
            have HBL5 : Hid (Below w.heap.size w w5) := Lib.hid (HP.out.bel.grown HGR5.out HP.out.bel.size (fun j e => by injection e with e; omega))
            have HOK2 : Hid C2.ok := Lib.hid (by rw [HACT.out]; exact Ch.act_ok _ HP.out.ok x HFIT.out.now)
            clear DO AL MB XB HJ0 HN1 HBX HGR5 HP HFIT p6 hlen
            obtain ⟨k2, m2, s2, lo2, q2⟩ := C2
            simp only [chV]
            have g0 : w5.cell? ⟨g, 0, none⟩ = some (.int .i64 0) := HBG.out.cell rfl
            have g1 : w5.cell? ⟨g, 1, none⟩ = some (.int .i64 0) := HBG.out.cell rfl
            have g2 : w5.cell? ⟨g, 2, none⟩ = some (.int .i64 0) := HBG.out.cell rfl
            have g3 : w5.cell? ⟨g, 3, none⟩ = some (.slice none 0 0) := HBG.out.cell rfl
            have g4 : w5.cell? ⟨g, 4, none⟩ = some (.int .u64 0) := HBG.out.cell rfl
            have gf0 : w5.frozen? ⟨g, 0, none⟩ = false := HBG.out.free 0
            have gf1 : w5.frozen? ⟨g, 1, none⟩ = false := HBG.out.free 1
            have gf2 : w5.frozen? ⟨g, 2, none⟩ = false := HBG.out.free 2
            have gf3 : w5.frozen? ⟨g, 3, none⟩ = false := HBG.out.free 3
            have gf4 : w5.frozen? ⟨g, 4, none⟩ = false := HBG.out.free 4
            have r0 : w5.cell? ⟨mb, 0, none⟩ = some (.int .i64 kd) := HX5.out.cell rfl
            have r1 : w5.cell? ⟨mb, 1, none⟩ = some (.int .i64 md) := HX5.out.cell rfl
            have r2 : w5.cell? ⟨mb, 2, none⟩ = some (.int .i64 sd) := HX5.out.cell rfl
            have r3 : w5.cell? ⟨mb, 3, none⟩ = some (.slice Am q.length cm) := HX5.out.cell rfl
            have r4 : w5.cell? ⟨mb, 4, none⟩ = some (.int .u64 lo) := HX5.out.cell rfl
            have f0 : w5.frozen? ⟨mb, 0, none⟩ = false := HX5.out.free 0
            have f1 : w5.frozen? ⟨mb, 1, none⟩ = false := HX5.out.free 1
            have f2 : w5.frozen? ⟨mb, 2, none⟩ = false := HX5.out.free 2
            have f3 : w5.frozen? ⟨mb, 3, none⟩ = false := HX5.out.free 3
            have f4 : w5.frozen? ⟨mb, 4, none⟩ = false := HX5.out.free 4
            have hne1 : ¬ g = mb := by omega
            have hne2 : ¬ mb = g := by omega
            simp only [List.set_cons_succ, List.set_cons_zero, List.zip_cons_cons, List.zip_nil_right, putsL]
            go_simp
            have hPS : PlR w mb cb (play C (xs.take (i + 1))) f' (set5 (set5 w5 g (.int .i64 k2) (.int .i64 m2) (.int .i64 s2) (.slice A8 q2.length c8) (.int .u64 lo2)) mb (.int .i64 k2) (.int .i64 m2) (.int .i64 s2) (.slice A8 q2.length c8) (.int .u64 lo2)) := by
              rw [← HC2.out]
              exact PlR.stored (D := ⟨kd, md, sd, lo, q⟩) (A' := Am) (c' := cm) HOK2.out HF'.out HB'.out HX5.out HBG.out HRS5.out HBL5.out HRC.out hmb hmc hgm hgc
            have HPS := Lib.hid hPS
            clear hPS
            go_wp2
            go_roundw
            case rel => exact ⟨i + 1, f', by omega, by go_num, HPS.out⟩
            case measure => simp [intOf]; omega
      · have hin : i = n := by omega
        subst hin
        obtain ⟨D, hD⟩ : ∃ D, D = play C (xs.take i) := ⟨_, rfl⟩
        have HD9 : Hid (D = play C (xs.take 60)) := Lib.hid (by rw [hD, HTK.out])
        rw [← hD] at hP
        have HP9 := Lib.hid hP
        obtain ⟨Am, cm, hbox, hrch⟩ := hP.box
        have HRCH := Lib.hid hrch
        have HBX := Lib.hid hbox
        have hcs : ¬ i < xs.length ∨ (i < xs.length ∧ ¬ (i : Int) < 60) := by have := HN.out; omega
        clear hD hP hbox hrch hlt hnx
        obtain ⟨kd, md, sd, lo, q⟩ := D
        have r0 : wr.cell? ⟨mb, 0, none⟩ = some (.int .i64 kd) := HBX.out.cell rfl
        have r1 : wr.cell? ⟨mb, 1, none⟩ = some (.int .i64 md) := HBX.out.cell rfl
        have r2 : wr.cell? ⟨mb, 2, none⟩ = some (.int .i64 sd) := HBX.out.cell rfl
        have r3 : wr.cell? ⟨mb, 3, none⟩ = some (.slice Am q.length cm) := HBX.out.cell rfl
        have r4 : wr.cell? ⟨mb, 4, none⟩ = some (.int .u64 lo) := HBX.out.cell rfl
        have g0 : wr.cell? ⟨w.heap.size + 1, 0, none⟩ = some (.int .i64 0) := HP9.out.res.cell rfl
        have g1 : wr.cell? ⟨w.heap.size + 1, 1, none⟩ = some (.int .i64 0) := HP9.out.res.cell rfl
        have g2 : wr.cell? ⟨w.heap.size + 1, 2, none⟩ = some (.int .i64 0) := HP9.out.res.cell rfl
        have g3 : wr.cell? ⟨w.heap.size + 1, 3, none⟩ = some (.slice none 0 0) := HP9.out.res.cell rfl
        have g4 : wr.cell? ⟨w.heap.size + 1, 4, none⟩ = some (.int .u64 0) := HP9.out.res.cell rfl
        have gf0 : wr.frozen? ⟨w.heap.size + 1, 0, none⟩ = false := HP9.out.res.free 0
        have gf1 : wr.frozen? ⟨w.heap.size + 1, 1, none⟩ = false := HP9.out.res.free 1
        have gf2 : wr.frozen? ⟨w.heap.size + 1, 2, none⟩ = false := HP9.out.res.free 2
        have gf3 : wr.frozen? ⟨w.heap.size + 1, 3, none⟩ = false := HP9.out.res.free 3
        have gf4 : wr.frozen? ⟨w.heap.size + 1, 4, none⟩ = false := HP9.out.res.free 4
        have hmb : w.heap.size + 1 < mb := HP9.out.hm
        have hmc : mb < cb := HP9.out.hc
        rcases hcs with hcs | ⟨hcs, hcs2⟩
        all_goals
          go_wp2
          go_region
          all_goals
            go_wp2
            clear r0 r1 r2 r3 r4 g0 g1 g2 g3 g4 gf0 gf1 gf2 gf3 gf4
            have hg5 := grown_set5 wr (w.heap.size + 1) (.int .i64 kd) (.int .i64 md) (.int .i64 sd) (.slice Am q.length cm) (.int .u64 lo)
            have hr5 := blk_set5 HP9.out.res (.int .i64 kd) (.int .i64 md) (.int .i64 sd) (.slice Am q.length cm) (.int .u64 lo)
            have hv5 := RChB.grown' (B := wr.heap.size) HRCH.out (Nat.le_refl _) HP9.out.res (by simp [zch]) hg5
            unfold set5 at hg5 hr5 hv5
            obtain ⟨w6, hw6⟩ : ∃ w6, w6 = ((((wr.setCell ⟨w.heap.size + 1, 0, none⟩ (.int .i64 kd)).setCell ⟨w.heap.size + 1, 1, none⟩ (.int .i64 md)).setCell ⟨w.heap.size + 1, 2, none⟩ (.int .i64 sd)).setCell ⟨w.heap.size + 1, 3, none⟩ (.slice Am q.length cm)).setCell ⟨w.heap.size + 1, 4, none⟩ (.int .u64 lo) := ⟨_, rfl⟩
            rw [← hw6] at hg5 hr5 hv5 ⊢
            clear hw6
            have e0 : w6.drew.cell? ⟨w.heap.size + 1, 0, none⟩ = some (.int .i64 kd) := hr5.cell rfl
            have e1 : w6.drew.cell? ⟨w.heap.size + 1, 1, none⟩ = some (.int .i64 md) := hr5.cell rfl
            have e2 : w6.drew.cell? ⟨w.heap.size + 1, 2, none⟩ = some (.int .i64 sd) := hr5.cell rfl
            have e3 : w6.drew.cell? ⟨w.heap.size + 1, 3, none⟩ = some (.slice Am q.length cm) := hr5.cell rfl
            have e4 : w6.drew.cell? ⟨w.heap.size + 1, 4, none⟩ = some (.int .u64 lo) := hr5.cell rfl
            have hb5 : Below w.heap.size w w6 := HP9.out.bel.grown hg5 HP9.out.bel.size (fun j e => by injection e with e; subst e; exact Nat.le_succ _)
            have hblk : Blk w6 cb (ccells ⟨kd, md, sd, lo, q⟩ f) := HP9.out.blk.grown hg5 (by simp; omega)
            have hvv := hv5.up hg5.size
            obtain ⟨w7, hw7⟩ : ∃ w7, w7 = w6.drew := ⟨_, rfl⟩
            have hb7 : Below w.heap.size w w7 := by rw [hw7]; exact hb5.drew
            have hblk7 : Blk w7 cb (ccells ⟨kd, md, sd, lo, q⟩ f) := by rw [hw7]; exact hblk
            have hv7 : RCh w7 ⟨kd, md, sd, lo, q⟩ (.agg (chV ⟨kd, md, sd, lo, q⟩ Am cm).toArray) := by rw [hw7]; exact hvv
            rw [← hw7] at e0 e1 e2 e3 e4 ⊢
            refine bodyPost_ret (v := .tuple #[.pointer (some ⟨cb, 0, none⟩), .agg #[.int .i64 kd, .int .i64 md, .int .i64 sd, .slice Am q.length cm, .int .u64 lo]]) (by simp [results, Try.results13, go_sem, e0, e1, e2, e3, e4]) rfl ?_
            rw [← HD9.out]
            exact ⟨cb, f, _, rfl, hv7, HP9.out.f16, hblk7, by omega, hb7⟩
end Go.Proofs.Ytdjphdkoljfndaa
