/- An act of both, where it sends. -/
import Derived.Test.YtdjphdkoljfndaaDo
namespace Go.Proofs.Ytdjphdkoljfndaa
open Go.RowKit Nac
set_option maxHeartbeats 8000000 in
set_option maxRecDepth 100000 in
theorem do_send (w : World) (B : Nat) (hBw : B ≤ w.heap.size) (b f : Nat) (C : Ch) (hC : C.ok) (hf : f < 16) (h : Blk w b (ccells C f)) (v : Value) (hv : RChB w B C v) (B0 : Nat) (hB0 : B0 ≤ b) (Ax : Option Addr) (cx : Nat) (l : List UInt8) (hx : RB w B0 Ax l) (h8 : l.length ≤ 140737488351232) (now : Nat) (hnow : now ≤ 18446744073709551615) :
    Calls Try.prog 17 #[.pointer (some ⟨b, 0, none⟩), v, .agg #[.bool false, .slice Ax l.length cx, .int .u64 now]] w (RetDo w b (C.send l now).1) := by
  have HC := Lib.hid hC
  have HB := Lib.hid h
  have HV := Lib.hid hv
  have HF := Lib.hid hf
  have HX := Lib.hid hx
  have HNOW := Lib.hid hnow
  have hbl := h.lt
  obtain ⟨k, m, s, lo, q⟩ := C
  obtain ⟨A, c, rfl⟩ := hv.form
  simp only at hv HV ⊢
  have hR := DoR.start w b [.int .i64 k, .int .i64 m, .int .i64 s, .slice A q.length c, .int .u64 lo] [.bool false, .slice Ax l.length cx, .int .u64 now] [.int .i64 0, .int .i64 0, .int .i64 0, .slice none 0 0, .int .u64 0] 48 33 48
  obtain ⟨W1, hW1⟩ : ∃ W1, W1 = ((w.alloc (.cells #[.int .i64 k, .int .i64 m, .int .i64 s, .slice A q.length c, .int .u64 lo] 48)).alloc (.cells #[.bool false, .slice Ax l.length cx, .int .u64 now] 33)).alloc (.cells #[.int .i64 0, .int .i64 0, .int .i64 0, .slice none 0 0, .int .u64 0] 48) := ⟨_, rfl⟩
  have hR1 : DoR w b [.int .i64 k, .int .i64 m, .int .i64 s, .slice A q.length c, .int .u64 lo] [.bool false, .slice Ax l.length cx, .int .u64 now] [.int .i64 0, .int .i64 0, .int .i64 0, .slice none 0 0, .int .u64 0] W1 := by rw [hW1]; exact hR
  have hz1 : W1.heap.size = w.heap.size + 1 + 1 + 1 := by rw [hW1]; simp
  have hw01 : Below w.heap.size w W1 := by rw [hW1]; exact (((Below.refl _ _).alloc (Nat.le_refl _) _).alloc (by simp) _).alloc (by simp; omega) _
  have hW : OB (W1.alloc (.cells #[] 5)) (w.heap.size + 1 + 1 + 1) (some ⟨w.heap.size + 1 + 1 + 1, 0, none⟩) 0 [] := by
    have := OB.new W1 (base := w.heap.size + 1 + 1 + 1) (by omega) [] (by simp)
    rwa [hz1] at this
  have hXW : RB (W1.alloc (.cells #[] 5)) B0 Ax l := hx.below (((hw01.mono (by omega : B0 ≤ w.heap.size))).alloc (by omega) _)
  rw [hW1] at hW hXW
  have HW := Lib.hid hW
  have HXW := Lib.hid hXW
  have HR1 := Lib.hid hR1
  have HZ1 := Lib.hid hz1
  have H01 := Lib.hid hw01
  have HW1 := Lib.hid hW1
  have HBL := Lib.hid hbl
  have H8 := Lib.hid h8
  have HZA : Hid (w.heap.size + 1 + 1 + 1 ≤ (W1.alloc (.cells #[] 5)).heap.size) := Lib.hid (by simp; omega)
  rw [hW1] at HZA
  have HOK : Hid (((Ch.mk k m s lo q).send l now).1.ok) := Lib.hid (Ch.send_ok _ HC.out l now hnow)
  clear h hC hf hx hnow hv hR hR1 hbl hW hXW hz1 hw01 hW1
  go_enter Try.func17, Try.ntmps17
  go_wp2_with (at_builtin; refine wpList_app_bytes _ rfl _ _ rfl (w.heap.size + 1 + 1 + 1) (some ⟨w.heap.size + 1 + 1 + 1, 0, none⟩) 0 [] _ rfl rfl HW.out Ax cx l _ rfl rfl HXW.out (by have := H8.out; simp; omega) HZA.out ?_)
  intro A2 c2 L2 w2 HL2 ho2 hg2 _
  rw [← HW1.out] at hg2
  have hL2 : L2 = l := HL2.out
  subst hL2
  have hgw2 : W1.grownBy w2 none := by
    refine grown_opt (World.grownBy_alloc W1 _ none) hg2 (fun k e => .inr ?_)
    have : w.heap.size + 1 + 1 + 1 = k := by injection e
    rw [HZ1.out]
    omega
  have HR2 := Lib.hid (HR1.out.opt hgw2 (fun k e => by cases e) HBL.out)
  have HO2 := Lib.hid ho2
  have hb02 : Below w.heap.size w w2 := H01.out.grown hgw2 H01.out.size (fun k e => by cases e)
  have HV2 := Lib.hid (HV.out.below (hb02.mono hBw))
  have HB2 := Lib.hid (HB.out.below hb02 HBL.out)
  have HX2 := Lib.hid (HX.out.below (hb02.mono (Nat.le_trans hB0 (Nat.le_of_lt HBL.out))))
  have HBw2 : Hid (B ≤ w2.heap.size) := Lib.hid (Nat.le_trans hBw hb02.size)
  clear HL2 ho2 hg2 hgw2 hb02 HW HXW HZA HR1 HB HV HX H01 HW1
  have a5 : w2.cell? ⟨w.heap.size + 1, 2, none⟩ = some (.int .u64 now) := HR2.out.ba.cell rfl
  go_wp2_with fail
  clear a5
  have HNA : Hid (∀ j, A2.map (·.block) = some j → w.heap.size + 1 + 1 + 1 ≤ j) := Lib.hid fun j hj => (HO2.out.lt j hj).1
  refine (send_calls w2 w2.heap.size b (Ch.mk k m s lo q) f A2 c2 L2 now HC.out HF.out HB2.out HO2.out.rb (Nat.le_refl _) (.inr fun e => by have := HNA.out _ e; have := HBL.out; omega) H8.out).mono ?_
  rintro e w3 ⟨rfl, ⟨f3, hf3, hb3⟩, hg3⟩
  obtain ⟨R, hRr⟩ : ∃ R, R = (Ch.mk k m s lo q).send L2 now := ⟨_, rfl⟩
  rw [← hRr] at hb3 HOK ⊢
  obtain ⟨⟨k', m', s', lo', q'⟩, z⟩ := R
  simp only at hb3 HOK ⊢
  have HRr := Lib.hid hRr
  have HB3 := Lib.hid hb3
  have HF3 := Lib.hid hf3
  have HR3 := Lib.hid (HR2.out.opt hg3 (fun k e => .inl (by injection e with e; exact e.symm)) HBL.out)
  have HV3 := Lib.hid (HV2.out.grown HBw2.out HB2.out hg3)
  have HO3 := Lib.hid (HO2.out.kept hg3 (.inr fun e => by have := HNA.out _ e; have := HBL.out; omega))
  have HX3 := Lib.hid (HX2.out.grown hg3 (Nat.le_trans hB0 (Nat.le_of_lt HB2.out.lt)) (fun j e => by injection e with e; omega))
  have HBw3 : Hid (B ≤ w3.heap.size) := Lib.hid (Nat.le_trans HBw2.out hg3.size)
  have HB03 : Hid (B0 ≤ w3.heap.size) := Lib.hid (Nat.le_trans hB0 (Nat.le_of_lt hb3.lt))
  obtain ⟨n, hn⟩ : ∃ n, n = L2.length := ⟨_, rfl⟩
  have HN := Lib.hid hn
  have hn9 : n ≤ 140737488351232 := by rw [hn]; exact h8
  rw [← hn] at h8 ⊢
  clear hn hb3 hf3 hg3 hRr HV2 HB2 HR2 HO2 HX2
  go_wp2
  go_loopw [19] (fun s19 wr => ∃ (i : Nat) (M : List UInt8), i ≤ n ∧ s19 = .int .i64 i ∧ Hid (M.length = n) ∧ OB wr (w.heap.size + 1 + 1 + 1) A2 c2 M ∧ w3.grownBy wr (A2.map (·.block))) (fun s19 _ => n - (intOf s19).toNat)
  case atStart => exact ⟨0, L2, Nat.zero_le _, rfl, Lib.hid HN.out.symm, HO3.out, World.grownBy.refl _ _⟩
  case round =>
    obtain ⟨j, M, hj, rfl, HML, hown, hgr⟩ := hrel
    by_cases hlt : j < n
    · have hjM : j < M.length := by rw [HML.out]; exact hlt
      obtain ⟨g9, hX, hge, hgl, hcell, hfree⟩ := hown.at hjM
      subst hX
      have HOW := Lib.hid hown
      have hs := HOW.out.set j 98 (v := .int .u8 98) rfl
      have HS := Lib.hid hs
      have HLS : Hid ((M.set j 98).length = n) := Lib.hid <| by rw [List.length_set]; exact HML.out
      obtain ⟨x9, hx9⟩ : ∃ x9, x9 = (M[j]'hjM).toNat := ⟨_, rfl⟩
      rw [← hx9] at hcell
      have HG : Hid (w3.grownBy (wr.setCell ⟨g9, j, none⟩ (.int .u8 98)) (some g9)) := Lib.hid (hgr.trans (grown_setCell wr ⟨g9, j, none⟩ _))
      clear hown hs hx9 hjM hge hgr
      go_wp2
      go_roundw
      case rel => exact ⟨j + 1, M.set j 98, by omega, by go_num, HLS, HS.out, HG.out⟩
      case measure => simp [intOf]; omega
    · have hge : ∀ k, A2.map (·.block) = some k → w.heap.size + 1 + 1 + 1 ≤ k := HNA.out
      have HR9 := Lib.hid (HR3.out.opt hgr (fun k hk => .inr (hge k hk)) HBL.out)
      have HV9 := Lib.hid (HV3.out.below ((Below.refl B w3).grown hgr HBw3.out (fun k hk => by have := hge k hk; omega)))
      have HB9 := Lib.hid (HB3.out.grown hgr (fun e => by have := hge _ e; have := HBL.out; omega))
      have HX9 := Lib.hid (HX3.out.below ((Below.refl B0 w3).grown hgr HB03.out (fun k hk => by have := hge k hk; have := HBL.out; omega)))
      have HBw9 : Hid (B ≤ wr.heap.size) := Lib.hid (Nat.le_trans HBw3.out hgr.size)
      clear hge hown hgr HR3 HV3 HB3 HX3 HO3
      have a0 : wr.cell? ⟨w.heap.size, 0, none⟩ = some (.int .i64 k) := HR9.out.bm.cell rfl
      have a1 : wr.cell? ⟨w.heap.size, 1, none⟩ = some (.int .i64 m) := HR9.out.bm.cell rfl
      have a2 : wr.cell? ⟨w.heap.size, 2, none⟩ = some (.int .i64 s) := HR9.out.bm.cell rfl
      have a3 : wr.cell? ⟨w.heap.size, 3, none⟩ = some (.slice A q.length c) := HR9.out.bm.cell rfl
      have a4 : wr.cell? ⟨w.heap.size, 4, none⟩ = some (.int .u64 lo) := HR9.out.bm.cell rfl
      have b1 : wr.cell? ⟨w.heap.size + 1, 1, none⟩ = some (.slice Ax n cx) := HR9.out.ba.cell (by rw [HN.out]; rfl)
      have b2 : wr.cell? ⟨w.heap.size + 1, 2, none⟩ = some (.int .u64 now) := HR9.out.ba.cell rfl
      have r1 := run_conv wr HX9.out n cx HN.out
      go_wp2_with fail
      clear a0 a1 a2 a3 a4 b1 b2 r1
      refine (refsend_calls wr (Ch.mk k m s lo q) HC.out L2 H8.out now _ (HV9.out.up HBw9.out) HNOW.out).mono ?_
      rintro e w5 ⟨v5, rfl, hv5, hb5⟩
      rw [← HRr.out] at hv5 ⊢
      simp only at hv5 ⊢
      obtain ⟨A5, c5, rfl⟩ : ∃ A5 c5, v5 = .agg #[.int .i64 k', .int .i64 m', .int .i64 s', .slice A5 q'.length c5, .int .u64 lo'] := RChB.form (B := w5.heap.size) hv5
      have HR5 := Lib.hid (HR9.out.below hb5)
      have HV5 := Lib.hid hv5
      have HB5 := Lib.hid (HB9.out.below hb5 HB9.out.lt)
      clear hv5 hb5 HR9 HV9 HB9 HX9
      have r0 : w5.cell? ⟨w.heap.size + 1 + 1, 0, none⟩ = some (.int .i64 0) := HR5.out.br.cell rfl
      have r1 : w5.cell? ⟨w.heap.size + 1 + 1, 1, none⟩ = some (.int .i64 0) := HR5.out.br.cell rfl
      have r2 : w5.cell? ⟨w.heap.size + 1 + 1, 2, none⟩ = some (.int .i64 0) := HR5.out.br.cell rfl
      have r3 : w5.cell? ⟨w.heap.size + 1 + 1, 3, none⟩ = some (.slice none 0 0) := HR5.out.br.cell rfl
      have r4 : w5.cell? ⟨w.heap.size + 1 + 1, 4, none⟩ = some (.int .u64 0) := HR5.out.br.cell rfl
      have f0 : w5.frozen? ⟨w.heap.size + 1 + 1, 0, none⟩ = false := HR5.out.br.free 0
      have f1 : w5.frozen? ⟨w.heap.size + 1 + 1, 1, none⟩ = false := HR5.out.br.free 1
      have f2' : w5.frozen? ⟨w.heap.size + 1 + 1, 2, none⟩ = false := HR5.out.br.free 2
      have f3' : w5.frozen? ⟨w.heap.size + 1 + 1, 3, none⟩ = false := HR5.out.br.free 3
      have f4 : w5.frozen? ⟨w.heap.size + 1 + 1, 4, none⟩ = false := HR5.out.br.free 4
      have hz5 : w.heap.size + 1 + 1 < w5.heap.size := HR5.out.sz
      go_wp2
      clear r0 r1 r2 r3 r4 f0 f1 f2' f3' f4
      have hg7 := ((((grown_setCell w5 ⟨w.heap.size + 1 + 1, 0, none⟩ (.int .i64 k')).trans (grown_setCell _ ⟨w.heap.size + 1 + 1, 1, none⟩ (.int .i64 m'))).trans (grown_setCell _ ⟨w.heap.size + 1 + 1, 2, none⟩ (.int .i64 s'))).trans (grown_setCell _ ⟨w.heap.size + 1 + 1, 3, none⟩ (.slice A5 q'.length c5))).trans (grown_setCell _ ⟨w.heap.size + 1 + 1, 4, none⟩ (.int .u64 lo'))
      have hr7 := ((((HR5.out.br.setCell 0 (.int .i64 k')).setCell 1 (.int .i64 m')).setCell 2 (.int .i64 s')).setCell 3 (.slice A5 q'.length c5)).setCell 4 (.int .u64 lo')
      obtain ⟨w7, hw7⟩ : ∃ w7, w7 = ((((w5.setCell ⟨w.heap.size + 1 + 1, 0, none⟩ (.int .i64 k')).setCell ⟨w.heap.size + 1 + 1, 1, none⟩ (.int .i64 m')).setCell ⟨w.heap.size + 1 + 1, 2, none⟩ (.int .i64 s')).setCell ⟨w.heap.size + 1 + 1, 3, none⟩ (.slice A5 q'.length c5)).setCell ⟨w.heap.size + 1 + 1, 4, none⟩ (.int .u64 lo') := ⟨_, rfl⟩
      rw [← hw7] at hr7 hg7 ⊢
      clear hw7
      have hv7 := RChB.grown' (B := w5.heap.size) HV5.out (Nat.le_refl _) HR5.out.br (by simp) hg7
      have hb7 := HB5.out.grown hg7 (by simp; have := HBL.out; omega)
      have hgr7 := grown_opt HR5.out.gr hg7 (fun k e => .inr (by injection e with e; subst e; show w.heap.size ≤ w.heap.size + 1 + 1; omega))
      obtain ⟨w8, hw8⟩ : ∃ w8, w8 = w7.alloc (.cells #[.int .i64 k', .int .i64 m', .int .i64 s', .slice A5 q'.length c5, .int .u64 lo'] 48) := ⟨_, rfl⟩
      have ha8 : Below w7.heap.size w7 w8 := by rw [hw8]; exact (Below.refl _ _).alloc (Nat.le_refl _) _
      rw [← hw8]
      clear hw8
      have hr8 := hr7.below ha8 hr7.lt
      have e0 : w8.cell? ⟨w.heap.size + 1 + 1, 0, none⟩ = some (.int .i64 k') := hr8.cell rfl
      have e1 : w8.cell? ⟨w.heap.size + 1 + 1, 1, none⟩ = some (.int .i64 m') := hr8.cell rfl
      have e2 : w8.cell? ⟨w.heap.size + 1 + 1, 2, none⟩ = some (.int .i64 s') := hr8.cell rfl
      have e3 : w8.cell? ⟨w.heap.size + 1 + 1, 3, none⟩ = some (.slice A5 q'.length c5) := hr8.cell rfl
      have e4 : w8.cell? ⟨w.heap.size + 1 + 1, 4, none⟩ = some (.int .u64 lo') := hr8.cell rfl
      refine bodyPost_ret (v := .tuple #[.agg #[.int .i64 k', .int .i64 m', .int .i64 s', .slice A5 q'.length c5, .int .u64 lo'], .bool true]) (by simp [results, Try.results17, go_sem, e0, e1, e2, e3, e4]) rfl ?_
      rw [← HRr.out]
      exact ⟨_, f3, rfl, (hv7.below (ha8.mono hg7.size)).up (Nat.le_trans hg7.size ha8.size), HF3.out, hb7.below ha8 hb7.lt, grown_below hgr7 ha8⟩
theorem do_calls (w : World) (B : Nat) (hBw : B ≤ w.heap.size) (b f : Nat) (C : Ch) (hC : C.ok) (hf : f < 16) (h : Blk w b (ccells C f)) (v : Value) (hv : RChB w B C v) (B0 : Nat) (hB0 : B0 ≤ b) (x : ActP) (hx : x.fits w B0) :
    Calls Try.prog 17 #[.pointer (some ⟨b, 0, none⟩), v, .agg #[.bool x.recv, .slice x.A x.l.length x.c, .int .u64 x.now]] w (RetDo w b (Ch.act C x)) := by
  unfold Ch.act
  cases hr : x.recv with
  | true => rw [if_pos rfl]; exact do_recv w B hBw b f C hC hf h v hv x.A x.c x.l.length x.now hx.now
  | false => rw [if_neg (by simp)]; exact do_send w B hBw b f C hC hf h v hv B0 hB0 x.A x.c x.l hx.rb hx.len x.now hx.now
end Go.Proofs.Ytdjphdkoljfndaa
