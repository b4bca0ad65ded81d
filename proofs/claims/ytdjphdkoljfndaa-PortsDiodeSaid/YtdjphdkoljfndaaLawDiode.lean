/- The law PortsDiode, walked. -/
import Derived.Test.YtdjphdkoljfndaaPortAwake
import Derived.Test.YtdjphdkoljfndaaOpenA
import Derived.Test.YtdjphdkoljfndaaVal
import Derived.Deep.QuietTactic
import Derived.BigQuiet
import Derived.Laws.BitsAllLaws
import Derived.Laws.BitsLemmas
namespace Go.Proofs.Ytdjphdkoljfndaa
open Go.RowKit Nac
theorem and15 (a : Int) : ∃ u : Nat, u ≤ 15 ∧ bits .and .i64 a 15 = (u : Int) := by
  refine ⟨(BitVec.ofInt 64 a &&& BitVec.ofInt 64 15).toNat, ?_, ?_⟩
  · rw [BitVec.toNat_and]
    exact Nat.and_le_right
  · have h : (BitVec.ofInt 64 a &&& BitVec.ofInt 64 15).toNat ≤ 15 := by
      rw [BitVec.toNat_and]
      exact Nat.and_le_right
    show IntKind.i64.wrap ((BitVec.ofInt 64 a &&& BitVec.ofInt 64 15).toNat : Int) = _
    rw [IntKind.wrap_i64]
    omega
/-- a diode's answer hangs on the message's length alone -/
theorem send_diode (C : Ch) (hk : C.kind = 2) (l : List UInt8) (now : Nat) : (C.send l now).2 = (if C.size < l.length then 1 else 0) ∧ (C.send l now).1.kind = 2 ∧ (C.send l now).1.size = C.size := by
  unfold Ch.send
  by_cases h1 : C.size < l.length
  · rw [if_pos h1, if_pos h1]; exact ⟨rfl, hk, rfl⟩
  rw [if_neg h1, if_neg h1]
  by_cases h2 : C.q.length = C.most
  · rw [if_pos h2, if_neg (by omega), if_pos hk]; exact ⟨rfl, hk, rfl⟩
  · rw [if_neg h2]; exact ⟨rfl, hk, rfl⟩
theorem recv_diode (C : Ch) (hk : C.kind = 2) (now : Nat) : (C.recv now).1.kind = 2 ∧ (C.recv now).1.size = C.size := by
  unfold Ch.recv
  split
  · exact ⟨hk, rfl⟩
  · show (if C.kind = 0 then C else _).kind = 2 ∧ (if C.kind = 0 then C else _).size = C.size
    rw [if_neg (by omega)]; exact ⟨hk, rfl⟩
structure DioRel (w wr : World) (ba bb Z : Nat) (Ca Cb : Ch) (fa fb : Nat) : Prop where
  oka : Ca.ok
  okb : Cb.ok
  ka : Ca.kind = 2
  kb : Cb.kind = 2
  za : Ca.size = Z
  zb : Cb.size = Z
  f16a : fa < 16
  f16b : fb < 16
  blka : Blk wr ba (ccells Ca fa)
  blkb : Blk wr bb (ccells Cb fb)
  bel : Below w.heap.size w wr
theorem DioRel.drewN {w wr : World} {ba bb Z : Nat} {Ca Cb : Ch} {fa fb : Nat} (h : DioRel w wr ba bb Z Ca Cb fa fb) (n : Nat) : DioRel w (wr.drewN n) ba bb Z Ca Cb fa fb :=
  ⟨h.oka, h.okb, h.ka, h.kb, h.za, h.zb, h.f16a, h.f16b, h.blka, h.blkb, ⟨h.bel.os, h.bel.tape, h.bel.output, h.bel.size, h.bel.block⟩⟩
/-- the world while the two Sends are run: p, q: have they been -/
def DioJ (w : World) (ba bb : Nat) (Ca Cb : Ch) (l : List UInt8) (now : Nat) (p q : Bool) (w' : World) : Prop :=
  Below w.heap.size w w' ∧ (∃ f, f < 16 ∧ Blk w' ba (ccells (if p = true then (Ca.send l now).1 else Ca) f)) ∧ (∃ f, f < 16 ∧ Blk w' bb (ccells (if q = true then (Cb.send l now).1 else Cb) f))
set_option maxHeartbeats 8000000 in
set_option maxRecDepth 100000 in
theorem diode_calls (w : World) (z o t : Int) (A : Option Addr) (c : Nat) (xs : List ActP) (hA : RA w w.heap.size A xs) (h8 : xs.length ≤ 140737488351232) :
    Calls Try.prog 3 #[.agg #[.int .i64 z, .int .i64 o, .int .i64 t, .slice A xs.length c]] w fun e w' => e = .returned (.bool true) ∧ Below w.heap.size w w' := by
  obtain ⟨u, hu, hu'⟩ := and15 o
  obtain ⟨v, hv, hv'⟩ := and15 t
  go_enter Try.func3, Try.ntmps3
  go_wp2_with fail
  have hbel0 : Below w.heap.size w (w.alloc (.cells #[.int .i64 z, .int .i64 o, .int .i64 t, .slice A xs.length c] 24)) := (Below.refl _ _).alloc (Nat.le_refl _) _
  go_quiet (fail)
  go_wp2_with fail
  obtain ⟨w0, hw0⟩ : ∃ w0, w0 = (w.alloc (.cells #[.int .i64 z, .int .i64 o, .int .i64 t, .slice A xs.length c] 24)).drewN nq := ⟨_, rfl⟩
  have hbel1 : Below w.heap.size w w0 := by rw [hw0]; exact ⟨hbel0.os, hbel0.tape, hbel0.output, hbel0.size, hbel0.block⟩
  rw [← hw0]
  clear hw0 hbel0
  by_cases hz : 0 ≤ z ∧ z ≤ 64
  · have hn1 : NewOk 2 (1 + (u : Int)) z := by unfold NewOk; omega
    have hn2 : NewOk 2 (1 + (v : Int)) z := by unfold NewOk; omega
    refine (new_ok _ 2 _ z hn1).mono ?_
    rintro e w1 ⟨rfl, hb1, hg1⟩
    go_wp2_with fail
    refine (new_ok _ 2 _ z hn2).mono ?_
    rintro e w2 ⟨rfl, hb2, hg2⟩
    obtain ⟨Ca, hCa⟩ : ∃ C0 : Ch, Hid (C0 = ⟨(2 : Int).toNat, (1 + (u : Int)).toNat, z.toNat, 0, []⟩) := ⟨_, rfl⟩
    obtain ⟨Cb, hCb⟩ : ∃ C0 : Ch, Hid (C0 = ⟨(2 : Int).toNat, (1 + (v : Int)).toNat, z.toNat, 0, []⟩) := ⟨_, rfl⟩
    obtain ⟨Z, hZ⟩ : ∃ Z : Nat, Hid (Z = z.toNat) := ⟨_, rfl⟩
    obtain ⟨ba, hba⟩ : ∃ ba, ba = w0.heap.size := ⟨_, rfl⟩
    obtain ⟨bb, hbb⟩ : ∃ bb, bb = w1.heap.size := ⟨_, rfl⟩
    rw [← hCa.out, ← hba] at hb1
    rw [← hCb.out, ← hbb] at hb2
    rw [← hba, ← hbb]
    have hB0 : w.heap.size ≤ ba := by rw [hba]; exact hbel1.size
    have hB1 : ba < bb := by rw [hbb]; exact hb1.lt
    have hR0 : DioRel w w2 ba bb Z Ca Cb 0 0 := by
      refine ⟨?_, ?_, by rw [hCa.out]; rfl, by rw [hCb.out]; rfl, by rw [hCa.out, hZ.out], by rw [hCb.out, hZ.out], by omega, by omega, hb1.grown hg2 (by simp), hb2, ?_⟩
      · rw [hCa.out]
        exact ⟨by show (2 : Int).toNat ≤ 2; decide, by show 1 ≤ (1 + (u : Int)).toNat; omega, by show (1 + (u : Int)).toNat ≤ 16; omega, fun h => absurd (show (2 : Int).toNat = 0 from h) (by decide), by show z.toNat ≤ 64; omega, Nat.zero_le _, Nat.zero_le _, fun x hx => by cases hx⟩
      · rw [hCb.out]
        exact ⟨by show (2 : Int).toNat ≤ 2; decide, by show 1 ≤ (1 + (v : Int)).toNat; omega, by show (1 + (v : Int)).toNat ≤ 16; omega, fun h => absurd (show (2 : Int).toNat = 0 from h) (by decide), by show z.toNat ≤ 64; omega, Nat.zero_le _, Nat.zero_le _, fun x hx => by cases hx⟩
      · exact (hbel1.grown hg1 hbel1.size (fun k e => by cases e)).grown hg2 (hbel1.grown hg1 hbel1.size (fun k e => by cases e)).size (fun k e => by cases e)
    have HR := Lib.hid hR0
    have HZ : Hid ((Z : Int) = z) := by have := hZ.out; show (Z : Int) = z; omega
    clear hR0 hb1 hb2 hg1 hg2 hCa hCb hZ hba hbb hn1 hn2 hu' hv' hbel1
    go_wp2_with fail
    go_loopw [11] (fun s11 wr => ∃ (k : Nat) (Ca Cb : Ch) (fa fb : Nat), k ≤ xs.length ∧ k ≤ 80 ∧ s11 = .int .i64 k ∧ DioRel w wr ba bb Z Ca Cb fa fb) (fun s11 _ => 80 - (intOf s11).toNat)
    case atStart => exact ⟨0, Ca, Cb, 0, 0, by omega, by omega, rfl, HR.out⟩
    case round =>
      clear HR
      obtain ⟨k, Ca, Cb, fa, fb, hk, hk80, rfl, R⟩ := hrel
      by_cases hgo : k < xs.length ∧ k < 80
      · obtain ⟨hkl, hk8⟩ := hgo
        obtain ⟨b2, o2, rfl, hb2, c0, c1, c2, hfit⟩ := (hA.below R.bel).get hkl
        obtain ⟨b2', o2', e2, _, d0, d1, d2, hfit'⟩ := hA.get hkl
        obtain ⟨rfl, rfl⟩ : b2 = b2' ∧ o2 = o2' := by injection e2 with e2; injection e2 with h1 h2; exact ⟨h1, h2⟩
        obtain ⟨x, hx⟩ : ∃ x, x = xs[k] := ⟨_, rfl⟩
        rw [← hx] at c0 c1 c2 hfit d1 d2 hfit'
        have HW : Hid (w.cell? ⟨b2, o2 + k * 3 + 1, none⟩ = some (.slice x.A x.l.length x.c) ∧ w.cell? ⟨b2, o2 + k * 3 + 2, none⟩ = some (.int .u64 x.now) ∧ x.fits w w.heap.size) := ⟨d1, d2, hfit'⟩
        clear hx d0 d1 d2 hfit' e2
        by_cases hrv : x.recv = true
        · rw [hrv] at c0
          have HR := Lib.hid R; clear R
          go_wp2_with fail
          refine (recv_calls _ ba Ca fa x.now HR.out.oka HR.out.f16a HR.out.blka hfit.now).mono ?_
          rintro e w4 ⟨Ax, cx, rfl, hox, ⟨f', hf', hb4⟩, hg4⟩
          have hr := recv_diode Ca HR.out.ka x.now
          have HR4 : Hid (DioRel w w4 ba bb Z (Ca.recv x.now).1 Cb f' fb) :=
            ⟨Ch.recv_ok Ca HR.out.oka x.now, HR.out.okb, hr.1, HR.out.kb, hr.2.trans HR.out.za, HR.out.zb, hf', HR.out.f16b, hb4, HR.out.blkb.grown hg4 (fun e => by injection e with e; omega), HR.out.bel.grown hg4 HR.out.bel.size (fun k e => by injection e with e; omega)⟩
          clear hr hox hb4 hg4 HR c0 c1 c2
          go_wp2
          go_roundw
          case rel => exact ⟨k + 1, (Ca.recv x.now).1, Cb, f', fb, by omega, by omega, by go_num, HR4.out⟩
          case measure => simp [intOf]; omega
        · have hrv' : x.recv = false := by simpa using hrv
          rw [hrv'] at c0
          clear hrv hrv'
          have HR := Lib.hid R; clear R
          go_wp2_with fail
          have hfit0 : x.fits w w.heap.size := HW.out.2.2
          have IX : ∀ w', (Instr.indexAt 22 (.slice (some ⟨b2, o2, none⟩) xs.length c) (.int .i64 k)).run Try.prog w' = .ok (.pointer (some ⟨b2, o2 + k * 3, none⟩)) w' := fun w' => by go_simp
          have F1 : ∀ w', (Instr.fieldAt 33 (.pointer (some ⟨b2, o2 + k * 3, none⟩)) 1).run Try.prog w' = .ok (.pointer (some ⟨b2, o2 + k * 3 + 1, none⟩)) w' := fun w' => by go_simp
          have F2 : ∀ w', (Instr.fieldAt 33 (.pointer (some ⟨b2, o2 + k * 3, none⟩)) 2).run Try.prog w' = .ok (.pointer (some ⟨b2, o2 + k * 3 + 2, none⟩)) w' := fun w' => by go_simp
          have L1 : ∀ w', Below w.heap.size w w' → (Instr.loadAt 30 (.pointer (some ⟨b2, o2 + k * 3 + 1, none⟩))).run Try.prog w' = .ok (.slice x.A x.l.length x.c) w' := fun w' hb => by
            have c1' : w'.cell? ⟨b2, o2 + k * 3 + 1, none⟩ = some (.slice x.A x.l.length x.c) := (hb.cell hb2).trans HW.out.1
            go_simp
          have L2 : ∀ w', Below w.heap.size w w' → (Instr.loadAt 31 (.pointer (some ⟨b2, o2 + k * 3 + 2, none⟩))).run Try.prog w' = .ok (.int .u64 x.now) w' := fun w' hb => by
            have c1' : w'.cell? ⟨b2, o2 + k * 3 + 2, none⟩ = some (.int .u64 x.now) := (hb.cell hb2).trans HW.out.2.1
            go_simp
          obtain ⟨E, hE⟩ : ∃ E : Int, Hid (E = if Z < x.l.length then 1 else 0) := ⟨_, rfl⟩
          have ra := send_diode Ca HR.out.ka x.l x.now
          have rb := send_diode Cb HR.out.kb x.l x.now
          rw [HR.out.za, ← hE.out] at ra
          rw [HR.out.zb, ← hE.out] at rb
          have hJ0 : DioJ w ba bb Ca Cb x.l x.now false false wr.drew := ⟨HR.out.bel.drew, ⟨fa, HR.out.f16a, HR.out.blka⟩, ⟨fb, HR.out.f16b, HR.out.blkb⟩⟩
          have S1 : ∀ (L : Nat → Bool) (u v t : Value) w', DioJ w ba bb Ca Cb x.l x.now (L 11) (L 23) w' → L 11 = false → u = .pointer (some ⟨ba, 0, none⟩) → v = .slice x.A x.l.length x.c → t = .int .u64 x.now →
              Calls Try.prog 10 #[u, v, t] w' fun e w'' => ∃ v, e = .returned v ∧ v = .int .i64 E ∧ DioJ w ba bb Ca Cb x.l x.now true (L 23) w'' := by
            rintro L u v t w' ⟨hb, ⟨f, hf, hblk⟩, ⟨g, hg, hblk2⟩⟩ hL rfl rfl rfl
            rw [hL] at hblk
            refine (send_calls w' w.heap.size ba Ca f x.A x.c x.l x.now HR.out.oka hf hblk (hfit0.rb.below hb) hb.size (.inl hB0) hfit0.len).mono ?_
            rintro e w'' ⟨rfl, hnew, hg4⟩
            refine ⟨_, rfl, by rw [ra.1], hb.grown hg4 hb.size (fun k e => by injection e with e; omega), hnew, g, hg, hblk2.grown hg4 (fun e => by injection e with e; omega)⟩
          have S2 : ∀ (L : Nat → Bool) (u v t : Value) w', DioJ w ba bb Ca Cb x.l x.now (L 11) (L 23) w' → L 23 = false → u = .pointer (some ⟨bb, 0, none⟩) → v = .slice x.A x.l.length x.c → t = .int .u64 x.now →
              Calls Try.prog 10 #[u, v, t] w' fun e w'' => ∃ v, e = .returned v ∧ v = .int .i64 E ∧ DioJ w ba bb Ca Cb x.l x.now (L 11) true w'' := by
            rintro L u v t w' ⟨hb, ⟨f, hf, hblk⟩, ⟨g, hg, hblk2⟩⟩ hL rfl rfl rfl
            rw [hL] at hblk2
            refine (send_calls w' w.heap.size bb Cb g x.A x.c x.l x.now HR.out.okb hg hblk2 (hfit0.rb.below hb) hb.size (.inl (by omega)) hfit0.len).mono ?_
            rintro e w'' ⟨rfl, hnew, hg4⟩
            refine ⟨_, rfl, by rw [rb.1], hb.grown hg4 hb.size (fun k e => by injection e with e; omega), ⟨f, hf, hblk.grown hg4 (fun e => by injection e with e; omega)⟩, hnew⟩
          refine region_vals [.pointer (some ⟨ba, 0, none⟩), .slice (some ⟨b2, o2, none⟩) xs.length c, .int .i64 k, .pointer (some ⟨b2, o2 + k * 3, none⟩), .pointer (some ⟨b2, o2 + k * 3 + 1, none⟩), .slice x.A x.l.length x.c, .slice (some ⟨b2, o2, none⟩) xs.length c, .int .i64 k, .pointer (some ⟨b2, o2 + k * 3, none⟩), .pointer (some ⟨b2, o2 + k * 3 + 2, none⟩), .int .u64 x.now, .int .i64 E, .pointer (some ⟨bb, 0, none⟩), .slice (some ⟨b2, o2, none⟩) xs.length c, .int .i64 k, .pointer (some ⟨b2, o2 + k * 3, none⟩), .pointer (some ⟨b2, o2 + k * 3 + 1, none⟩), .slice x.A x.l.length x.c, .slice (some ⟨b2, o2, none⟩) xs.length c, .int .i64 k, .pointer (some ⟨b2, o2 + k * 3, none⟩), .pointer (some ⟨b2, o2 + k * 3 + 2, none⟩), .int .u64 x.now, .int .i64 E, .int .i64 E, .int .i64 E] [some 83, some 84, some 85, some 86, some 87, some 88, some 89, some 90, some 91, some 92, some 93, some 94, some 95, some 96, some 97, some 98, some 99, some 100, some 101, some 102, some 103, some 104, some 105, some 106, some 12, some 13] (fun L w' => DioJ w ba bb Ca Cb x.l x.now (L 11) (L 23) w') (by kernel_rfl) (by kernel_rfl) (by kernel_rfl) rfl rfl hJ0 (fun i hi => ?_) ?_
          · match i, hi with
            | 0, _ => exact vstep_first rfl (vwant_none rfl) (fun _ _ h => h) 7 (Or.inl rfl) (by kernel_rfl) rfl
            | 1, _ => exact vstep_first rfl (vwant_none rfl) (fun _ _ h => h) 6 (Or.inl rfl) (by kernel_rfl) rfl
            | 2, _ => exact vstep_first rfl (vwant_none rfl) (fun _ _ h => h) 11 (Or.inl rfl) (by kernel_rfl) rfl
            | 3, _ => exact vstep_index rfl (vwant_none rfl) (fun _ _ h => h) 84 85 _ rfl 1 2 (by kernel_rfl) (by kernel_rfl) rfl rfl _ _ _ (fun _ h => h) (fun _ h => h) rfl IX
            | 4, _ => exact vstep_field rfl (vwant_none rfl) (fun _ _ h => h) 86 _ _ rfl 3 (by kernel_rfl) rfl _ _ (fun _ h => h) rfl F1
            | 5, _ => exact vstep_load rfl (vwant_none rfl) (fun _ _ h => h) 87 _ rfl 4 (by kernel_rfl) rfl _ _ (fun _ h => h) rfl (fun L w h => L1 w h.1)
            | 6, _ => exact vstep_first rfl (vwant_none rfl) (fun _ _ h => h) 6 (Or.inl rfl) (by kernel_rfl) rfl
            | 7, _ => exact vstep_first rfl (vwant_none rfl) (fun _ _ h => h) 11 (Or.inl rfl) (by kernel_rfl) rfl
            | 8, _ => exact vstep_index rfl (vwant_none rfl) (fun _ _ h => h) 89 90 _ rfl 6 7 (by kernel_rfl) (by kernel_rfl) rfl rfl _ _ _ (fun _ h => h) (fun _ h => h) rfl IX
            | 9, _ => exact vstep_field rfl (vwant_none rfl) (fun _ _ h => h) 91 _ _ rfl 8 (by kernel_rfl) rfl _ _ (fun _ h => h) rfl F2
            | 10, _ => exact vstep_load rfl (vwant_none rfl) (fun _ _ h => h) 92 _ rfl 9 (by kernel_rfl) rfl _ _ (fun _ h => h) rfl (fun L w h => L2 w h.1)
            | 11, _ => exact vstep_call3 rfl (vwant_none rfl) _ 83 88 93 _ rfl (enters_of Try.func10 (by kernel_rfl) rfl) 0 5 10 (by kernel_rfl) (by kernel_rfl) (by kernel_rfl) rfl rfl rfl (fun L u v t w' h1 h2 _ h3 h4 h5 => S1 L u v t w' h1 h2 h3 h4 h5)
            | 12, _ => exact vstep_first rfl (vwant_none rfl) (fun _ _ h => h) 9 (Or.inl rfl) (by kernel_rfl) rfl
            | 13, _ => exact vstep_first rfl (vwant_none rfl) (fun _ _ h => h) 6 (Or.inl rfl) (by kernel_rfl) rfl
            | 14, _ => exact vstep_first rfl (vwant_none rfl) (fun _ _ h => h) 11 (Or.inl rfl) (by kernel_rfl) rfl
            | 15, _ => exact vstep_index rfl (vwant_none rfl) (fun _ _ h => h) 96 97 _ rfl 13 14 (by kernel_rfl) (by kernel_rfl) rfl rfl _ _ _ (fun _ h => h) (fun _ h => h) rfl IX
            | 16, _ => exact vstep_field rfl (vwant_none rfl) (fun _ _ h => h) 98 _ _ rfl 15 (by kernel_rfl) rfl _ _ (fun _ h => h) rfl F1
            | 17, _ => exact vstep_load rfl (vwant_none rfl) (fun _ _ h => h) 99 _ rfl 16 (by kernel_rfl) rfl _ _ (fun _ h => h) rfl (fun L w h => L1 w h.1)
            | 18, _ => exact vstep_first rfl (vwant_none rfl) (fun _ _ h => h) 6 (Or.inl rfl) (by kernel_rfl) rfl
            | 19, _ => exact vstep_first rfl (vwant_none rfl) (fun _ _ h => h) 11 (Or.inl rfl) (by kernel_rfl) rfl
            | 20, _ => exact vstep_index rfl (vwant_none rfl) (fun _ _ h => h) 101 102 _ rfl 18 19 (by kernel_rfl) (by kernel_rfl) rfl rfl _ _ _ (fun _ h => h) (fun _ h => h) rfl IX
            | 21, _ => exact vstep_field rfl (vwant_none rfl) (fun _ _ h => h) 103 _ _ rfl 20 (by kernel_rfl) rfl _ _ (fun _ h => h) rfl F2
            | 22, _ => exact vstep_load rfl (vwant_none rfl) (fun _ _ h => h) 104 _ rfl 21 (by kernel_rfl) rfl _ _ (fun _ h => h) rfl (fun L w h => L2 w h.1)
            | 23, _ => exact vstep_call3 rfl (vwant_none rfl) _ 95 100 105 _ rfl (enters_of Try.func10 (by kernel_rfl) rfl) 12 17 22 (by kernel_rfl) (by kernel_rfl) (by kernel_rfl) rfl rfl rfl (fun L u v t w' h1 h2 _ h3 h4 h5 => S2 L u v t w' h1 h2 h3 h4 h5)
            | 24, _ => exact vstep_copy rfl (vwant_none rfl) (fun _ _ h => h) 94 (Or.inr rfl) 11 (by kernel_rfl) rfl (fun _ h => h)
            | 25, _ => exact vstep_copy rfl (vwant_none rfl) (fun _ _ h => h) 106 (Or.inr rfl) 23 (by kernel_rfl) rfl (fun _ h => h)
            | n + 26, h => exact absurd h (by show ¬ (n + 26 < 26); omega)
          · intro L w5 hall hJ
            have h11 : L 11 = true := hall 11 (by decide)
            have h23 : L 23 = true := hall 23 (by decide)
            have hJ' : DioJ w ba bb Ca Cb x.l x.now (L 11) (L 23) w5 := hJ
            rw [h11, h23] at hJ'
            obtain ⟨hb5, ⟨f, hf, hk1⟩, ⟨g, hg, hk2⟩⟩ := hJ'
            have HR5 : Hid (DioRel w w5 ba bb Z (Ca.send x.l x.now).1 (Cb.send x.l x.now).1 f g) :=
              ⟨Ch.send_ok Ca HR.out.oka x.l x.now hfit0.now, Ch.send_ok Cb HR.out.okb x.l x.now hfit0.now, ra.2.1, rb.2.1, ra.2.2, rb.2.2, hf, hg, hk1, hk2, hb5⟩
            have c1 : w5.cell? ⟨b2, o2 + k * 3 + 1, none⟩ = some (.slice x.A x.l.length x.c) := (hb5.cell hb2).trans HW.out.1
            have hlen8 := hfit0.len
            clear hJ hall h11 h23 hb5 hk1 hk2 S1 S2 hJ0 L1 L2 F1 F2 IX ra rb HR c0 c2 hfit hfit0 HW
            refine (by assumption : ∀ (a : Act) (w : World), Code.wp _ _ _ a w → _) _ _ ?_
            simp only [List.zip_cons_cons, List.zip_nil_right, putsL]
            by_cases hlong : Z < x.l.length
            · have e1 : E = 1 := by rw [hE.out, if_pos hlong]
              subst e1
              have hlz : z < (x.l.length : Int) := by have := HZ.out; omega
              go_wp2
              go_roundw
              case rel => exact ⟨k + 1, _, _, f, g, by omega, by omega, by go_num, HR5.out⟩
              case measure => simp [intOf]; omega
            · have e1 : E = 0 := by rw [hE.out, if_neg hlong]
              subst e1
              have hlz : (x.l.length : Int) ≤ z := by have := HZ.out; omega
              go_wp2
              go_roundw
              case rel => exact ⟨k + 1, _, _, f, g, by omega, by omega, by go_num, HR5.out⟩
              case measure => simp [intOf]; omega
      · have HR := Lib.hid R; clear R
        obtain hgo | ⟨hg1, hg2⟩ : xs.length ≤ k ∨ (k < xs.length ∧ 80 ≤ k) := by omega
        all_goals
          go_wp2_with fail
          refine (awake_calls _).mono ?_
          rintro e w3 ⟨rfl, hb3⟩
          go_wp2
          go_ret
          exact ⟨rfl, HR.out.bel.trans (hb3.mono HR.out.bel.size)⟩
  · have hn1 : ¬ NewOk 2 (1 + (u : Int)) z := by unfold NewOk; omega
    have hn2 : ¬ NewOk 2 (1 + (v : Int)) z := by unfold NewOk; omega
    have hz' : z < 0 ∨ (0 ≤ z ∧ 64 < z) := by omega
    clear hz
    refine (new_bad _ 2 _ z hn1).mono ?_
    rintro e w1 ⟨rfl, rfl⟩
    go_wp2_with fail
    refine (new_bad _ 2 _ z hn2).mono ?_
    rintro e w1 ⟨rfl, rfl⟩
    clear hn1 hn2 hu' hv'
    rcases hz' with hz | ⟨hz0, hz⟩
    all_goals
      go_wp2_with fail
      refine (awake_calls _).mono ?_
      rintro e w3 ⟨rfl, hb3⟩
      go_wp2
      go_ret
      exact ⟨rfl, hbel1.trans (hb3.mono hbel1.size)⟩
end Go.Proofs.Ytdjphdkoljfndaa
