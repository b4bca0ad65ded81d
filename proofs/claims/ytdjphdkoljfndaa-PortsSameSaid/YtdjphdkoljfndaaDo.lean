/- An act of both: the channel's and the document's. -/
import Derived.Test.YtdjphdkoljfndaaRefSame
import Derived.Test.YtdjphdkoljfndaaChSame
import Derived.Test.YtdjphdkoljfndaaOpenA
namespace Go.Proofs.Ytdjphdkoljfndaa
open Go.RowKit Nac
theorem grown_opt {w w1 w2 : World} {row r2 : Option Nat} (h : w.grownBy w1 row) (h2 : w1.grownBy w2 r2) (hk : ∀ k, r2 = some k → row = some k ∨ w.heap.size ≤ k) : w.grownBy w2 row :=
  ⟨h2.os.trans h.os, h2.tape.trans h.tape, h2.output.trans h.output, Nat.le_trans h.size h2.size, fun k hlt hne => by
    have e := h.block k hlt hne
    rw [← e]
    refine h2.block k (Nat.lt_of_lt_of_le hlt h.size) fun e2 => ?_
    rcases hk k e2.symm with h3 | h3
    · exact hne h3.symm
    · omega⟩
theorem grown_below {w w1 w2 : World} {row : Option Nat} (h : w.grownBy w1 row) (h2 : Below w1.heap.size w1 w2) : w.grownBy w2 row :=
  ⟨h2.os.trans h.os, h2.tape.trans h.tape, h2.output.trans h.output, Nat.le_trans h.size h2.size, fun k hlt hne => (h2.block k (Nat.lt_of_lt_of_le hlt h.size)).trans (h.block k hlt hne)⟩
theorem ccells_ints (C : Ch) (f : Nat) : ∀ v ∈ ccells C f, ∀ s, v ≠ .string s := by
  intro v hv s
  unfold ccells at hv
  rcases List.mem_append.1 hv with hv | hv
  · simp only [hd, List.mem_cons, List.not_mem_nil, or_false] at hv
    rcases hv with rfl | rfl | rfl | rfl | rfl | rfl <;> simp
  · simp only [List.mem_flatten, ringL, List.mem_map] at hv
    obtain ⟨_, ⟨j, _, rfl⟩, hv⟩ := hv
    simp only [mcells, List.mem_append, List.mem_map, List.mem_cons, List.not_mem_nil, or_false] at hv
    rcases hv with ⟨x, _, rfl⟩ | rfl | rfl <;> simp [bv]
/-- messages do not lie in a channel's own block -/
theorem rq_apart {w : World} {B b f : Nat} {A : Option Addr} {q : List Msg} {C : Ch} (h : RQ w B A q) (hb : Blk w b (ccells C f)) : q = [] ∨ A.map (·.block) ≠ some b := by
  by_cases hq : q = []
  · exact .inl hq
  · right
    intro e
    have hpos : 0 < q.length := by cases q; exact absurd rfl hq; simp
    obtain ⟨g, o, rfl, _, h0, _⟩ := h.get hpos
    have e' : g = b := by simpa using e
    subst e'
    obtain ⟨t, ht⟩ := hb
    rw [cell_of_row w g _ _ t (0, 0) ht] at h0
    have hm := List.mem_of_getElem? (l := ccells C f) (i := o + 0 * 2) (by simpa using h0)
    exact ccells_ints C f _ hm _ rfl
theorem rq_apart' {w : World} {B b : Nat} {A : Option Addr} {q : List Msg} {cs : List Value} (h : RQ w B A q) (hb : Blk w b cs) (hcs : ∀ v ∈ cs, ∀ s, v ≠ .string s) : q = [] ∨ A.map (·.block) ≠ some b := by
  by_cases hq : q = []
  · exact .inl hq
  · right
    intro e
    have hpos : 0 < q.length := by cases q; exact absurd rfl hq; simp
    obtain ⟨g, o, rfl, _, h0, _⟩ := h.get hpos
    have e' : g = b := by simpa using e
    subst e'
    obtain ⟨t, ht⟩ := hb
    rw [cell_of_row w g _ _ t (0, 0) ht] at h0
    have hm := List.mem_of_getElem? (l := cs) (i := o + 0 * 2) (by simpa using h0)
    exact hcs _ hm _ rfl
theorem RChB.grown' {w w' : World} {B b : Nat} {C : Ch} {v : Value} {cs : List Value} (h : RChB w B C v) (hB : B ≤ w.heap.size) (hb : Blk w b cs) (hcs : ∀ v ∈ cs, ∀ s, v ≠ .string s) (hg : w.grownBy w' (some b)) : RChB w' B C v := by
  obtain ⟨A, c, hv, hr, hc⟩ := h
  refine ⟨A, c, hv, fun hne => ?_, hc⟩
  have ha := (rq_apart' hr hb hcs).resolve_left hne
  obtain ⟨g, o, hA, hlt, hcell⟩ := hr hne
  subst hA
  have hgb : g ≠ b := by simpa using ha
  refine ⟨g, o, rfl, hlt, fun j hj => ?_⟩
  have e : ∀ k, w'.cell? ⟨g, k, none⟩ = w.cell? ⟨g, k, none⟩ := fun k => by
    have := hg.block g (Nat.lt_of_lt_of_le hlt hB) (fun e => hgb (by injection e))
    unfold World.cell?
    rw [this]
  rw [e, e]
  exact hcell j hj
theorem RChB.grown {w w' : World} {B b f : Nat} {C D : Ch} {v : Value} (h : RChB w B C v) (hB : B ≤ w.heap.size) (hb : Blk w b (ccells D f)) (hg : w.grownBy w' (some b)) : RChB w' B C v := by
  obtain ⟨A, c, hv, hr, hc⟩ := h
  refine ⟨A, c, hv, fun hne => ?_, hc⟩
  have ha := (rq_apart hr hb).resolve_left hne
  obtain ⟨g, o, hA, hlt, hcell⟩ := hr hne
  subst hA
  have hgb : g ≠ b := by simpa using ha
  refine ⟨g, o, rfl, hlt, fun j hj => ?_⟩
  have e : ∀ k, w'.cell? ⟨g, k, none⟩ = w.cell? ⟨g, k, none⟩ := fun k => by
    have := hg.block g (Nat.lt_of_lt_of_le hlt hB) (fun e => hgb (by injection e))
    unfold World.cell?
    rw [this]
  rw [e, e]
  exact hcell j hj
def Ch.act (C : Ch) (x : ActP) : Ch := if x.recv = true then (C.recv x.now).1 else (C.send x.l x.now).1
theorem Ch.act_ok (C : Ch) (h : C.ok) (x : ActP) (hx : x.now ≤ 18446744073709551615) : (Ch.act C x).ok := by
  unfold Ch.act
  split
  · exact C.recv_ok h _
  · exact C.send_ok h _ _ hx
def RetDo (w : World) (b : Nat) (C : Ch) (e : Ending) (w' : World) : Prop :=
  ∃ v f, e = .returned (.tuple #[v, .bool true]) ∧ RCh w' C v ∧ f < 16 ∧ Blk w' b (ccells C f) ∧ w.grownBy w' (some b)
/-- the three boxes of 'do', and what has become of the rest -/
structure DoR (w : World) (b : Nat) (mv av rv : List Value) (W : World) : Prop where
  bm : Blk W w.heap.size mv
  ba : Blk W (w.heap.size + 1) av
  br : Blk W (w.heap.size + 1 + 1) rv
  gr : w.grownBy W (some b)
  sz : w.heap.size + 1 + 1 + 1 ≤ W.heap.size
section
variable {w W W' : World} {b : Nat} {mv av rv : List Value}
theorem DoR.opt (h : DoR w b mv av rv W) {r2 : Option Nat} (hg : W.grownBy W' r2) (hk : ∀ k, r2 = some k → k = b ∨ w.heap.size + 1 + 1 + 1 ≤ k) (hb : b < w.heap.size) : DoR w b mv av rv W' := by
  have hne : ∀ j, j < 3 → r2 ≠ some (w.heap.size + j) := fun j hj e => by have := hk _ e; omega
  exact ⟨h.bm.grown hg (hne 0 (by omega)), h.ba.grown hg (hne 1 (by omega)), h.br.grown hg (hne 2 (by omega)), grown_opt h.gr hg (fun k e => by rcases hk k e with e2 | e2; exact .inl (by rw [e2]); exact .inr (by omega)), Nat.le_trans h.sz hg.size⟩
theorem DoR.below (h : DoR w b mv av rv W) (hb : Below W.heap.size W W') : DoR w b mv av rv W' := by
  have hz := h.sz
  exact ⟨h.bm.below hb (by omega), h.ba.below hb (by omega), h.br.below hb (by omega), grown_below h.gr hb, Nat.le_trans h.sz hb.size⟩
theorem DoR.start (w : World) (b : Nat) (mv av rv : List Value) (t1 t2 t3 : TypeId) : DoR w b mv av rv (((w.alloc (.cells mv.toArray t1)).alloc (.cells av.toArray t2)).alloc (.cells rv.toArray t3)) := by
  have e1 : (w.alloc (.cells mv.toArray t1)).heap.size = w.heap.size + 1 := by simp
  have e2 : ((w.alloc (.cells mv.toArray t1)).alloc (.cells av.toArray t2)).heap.size = w.heap.size + 1 + 1 := by simp
  have h2 := Blk.new (w.alloc (.cells mv.toArray t1)) av t2
  rw [e1] at h2
  have h3 := Blk.new ((w.alloc (.cells mv.toArray t1)).alloc (.cells av.toArray t2)) rv t3
  rw [e2] at h3
  exact ⟨((Blk.new w mv t1).alloc _).alloc _, h2.alloc _, h3, ((World.grownBy_alloc w _ _).trans (World.grownBy_alloc _ _ _)).trans (World.grownBy_alloc _ _ _), by simp⟩
end
theorem RChB.form {w : World} {B : Nat} {C : Ch} {v : Value} (h : RChB w B C v) : ∃ A c, v = .agg #[.int .i64 C.kind, .int .i64 C.most, .int .i64 C.size, .slice A C.q.length c, .int .u64 C.lost] := by
  obtain ⟨A, c, hv, _, _⟩ := h
  exact ⟨A, c, hv⟩
set_option maxHeartbeats 8000000 in
set_option maxRecDepth 100000 in
theorem do_recv (w : World) (B : Nat) (hBw : B ≤ w.heap.size) (b f : Nat) (C : Ch) (hC : C.ok) (hf : f < 16) (h : Blk w b (ccells C f)) (v : Value) (hv : RChB w B C v) (Ax : Option Addr) (cx nx : Nat) (now : Nat) (hnow : now ≤ 18446744073709551615) :
    Calls Try.prog 17 #[.pointer (some ⟨b, 0, none⟩), v, .agg #[.bool true, .slice Ax nx cx, .int .u64 now]] w (RetDo w b (C.recv now).1) := by
  have HC := Lib.hid hC
  have HB := Lib.hid h
  have HV := Lib.hid hv
  have HF := Lib.hid hf
  have HNOW := Lib.hid hnow
  have hbl := h.lt
  obtain ⟨k, m, s, lo, q⟩ := C
  obtain ⟨A, c, rfl⟩ := hv.form
  simp only at hv HV ⊢
  have hR := DoR.start w b [.int .i64 k, .int .i64 m, .int .i64 s, .slice A q.length c, .int .u64 lo] [.bool true, .slice Ax nx cx, .int .u64 now] [.int .i64 0, .int .i64 0, .int .i64 0, .slice none 0 0, .int .u64 0] 48 33 48
  have HR := Lib.hid hR
  have HBL := Lib.hid hbl
  have HOK : Hid (((Ch.mk k m s lo q).recv now).1.ok) := Lib.hid (Ch.recv_ok _ HC.out now)
  clear h hC hf hnow hv hR hbl
  go_enter Try.func17, Try.ntmps17
  go_wp2_with fail
  obtain ⟨W1, hW1⟩ : ∃ W1, W1 = ((w.alloc (.cells #[.int .i64 k, .int .i64 m, .int .i64 s, .slice A q.length c, .int .u64 lo] 48)).alloc (.cells #[.bool true, .slice Ax nx cx, .int .u64 now] 33)).alloc (.cells #[.int .i64 0, .int .i64 0, .int .i64 0, .slice none 0 0, .int .u64 0] 48) := ⟨_, rfl⟩
  have HBW : Hid (Blk W1 b (ccells (Ch.mk k m s lo q) f)) := Lib.hid <| by rw [hW1]; exact ((HB.out.alloc _).alloc _).alloc _
  have HBW1 : Hid (B ≤ W1.heap.size) := Lib.hid <| by rw [hW1]; simp; omega
  have HVW : Hid (RChB W1 B (Ch.mk k m s lo q) (.agg #[.int .i64 k, .int .i64 m, .int .i64 s, .slice A q.length c, .int .u64 lo])) := Lib.hid <| by
    refine HV.out.below ?_
    rw [hW1]
    exact (((Below.refl _ _).alloc hBw _).alloc (by simp; omega) _).alloc (by simp; omega) _
  have HR1 : Hid (DoR w b [.int .i64 k, .int .i64 m, .int .i64 s, .slice A q.length c, .int .u64 lo] [.bool true, .slice Ax nx cx, .int .u64 now] [.int .i64 0, .int .i64 0, .int .i64 0, .slice none 0 0, .int .u64 0] W1) := Lib.hid <| by rw [hW1]; exact HR.out
  rw [← hW1]
  clear hW1 HR HB HV
  refine (recv_calls W1 b (Ch.mk k m s lo q) f now HC.out HF.out HBW.out HNOW.out).mono ?_
  rintro e w2 ⟨A1, c1, rfl, ho1, ⟨f2, hf2, hb2⟩, hg2⟩
  have HG2 := Lib.hid hg2
  have HR2 := Lib.hid (HR1.out.opt hg2 (fun k e => .inl (by injection e with e; exact e.symm)) HBL.out)
  have HV2 := Lib.hid (HVW.out.grown HBW1.out HBW.out hg2)
  have HR1z := Lib.hid HR1.out.sz
  have HBW2 : Hid (B ≤ w2.heap.size) := Lib.hid (Nat.le_trans HBW1.out hg2.size)
  obtain ⟨R, hRr⟩ : ∃ R, R = (Ch.mk k m s lo q).recv now := ⟨_, rfl⟩
  rw [← hRr] at ho1 hb2 HOK ⊢
  obtain ⟨D, l, g, z⟩ := R
  simp only at ho1 hb2 HOK ⊢
  have HRr := Lib.hid hRr
  have HO2 := Lib.hid ho1
  have HB2 := Lib.hid hb2
  have HF2 := Lib.hid hf2
  have a0 : w2.cell? ⟨w.heap.size, 0, none⟩ = some (.int .i64 k) := HR2.out.bm.cell rfl
  have a1 : w2.cell? ⟨w.heap.size, 1, none⟩ = some (.int .i64 m) := HR2.out.bm.cell rfl
  have a2 : w2.cell? ⟨w.heap.size, 2, none⟩ = some (.int .i64 s) := HR2.out.bm.cell rfl
  have a3 : w2.cell? ⟨w.heap.size, 3, none⟩ = some (.slice A q.length c) := HR2.out.bm.cell rfl
  have a4 : w2.cell? ⟨w.heap.size, 4, none⟩ = some (.int .u64 lo) := HR2.out.bm.cell rfl
  have a5 : w2.cell? ⟨w.heap.size + 1, 2, none⟩ = some (.int .u64 now) := HR2.out.ba.cell rfl
  have hl64 : l.length ≤ 64 := by
    have := HRr.out
    unfold Ch.recv at this
    match q, HC.out.fit, this with
    | [], _, this => injection this with _ e; injection e with e; rw [e]; simp
    | x :: r, hfit, this => injection this with _ e; injection e with e; rw [e]; exact (hfit x List.mem_cons_self).1
  clear ho1 hb2 hf2 hg2 hRr HVW HBW HR1
  go_wp2_with fail
  clear a0 a1 a2 a3 a4 a5
  refine (refrecv_calls w2 B HBW2.out (Ch.mk k m s lo q) HC.out now _ HV2.out HNOW.out).mono ?_
  rintro e w3 ⟨v3, rfl, hv3, hb3⟩
  rw [← HRr.out] at hv3 ⊢
  simp only at hv3 ⊢
  have HR3 := Lib.hid (HR2.out.below hb3)
  have HV3 := Lib.hid hv3
  have hbs3 := hb3.size
  obtain ⟨A3, c3, rfl⟩ := hv3.form
  have HO3 : Hid (OB w3 W1.heap.size A1 c1 l) := Lib.hid (HO2.out.below hb3 (Nat.le_refl _))
  have HB3 := Lib.hid (HB2.out.below hb3 HB2.out.lt)
  clear hv3 hb3 HO2 HB2 HV2 HR2
  obtain ⟨k', m', s', lo', q'⟩ := D
  simp only at HV3 HB3 HOK ⊢
  have HA4 : Hid (Below w3.heap.size w3 (w3.alloc (.cells #[.int .i64 k', .int .i64 m', .int .i64 s', .slice A3 q'.length c3, .int .u64 lo'] 48))) := Lib.hid ((Below.refl _ _).alloc (Nat.le_refl _) _)
  have HR4 := Lib.hid (HR3.out.below HA4.out)
  have HB3z : Hid (B ≤ w3.heap.size) := Lib.hid (Nat.le_trans HBW2.out hbs3)
  have HV4 := Lib.hid (HV3.out.below (HA4.out.mono HB3z.out))
  have HA3 : Hid (∀ k, A1.map (·.block) = some k → k < w3.heap.size) := Lib.hid fun k hk => (HO3.out.lt k hk).2
  have HO4 := Lib.hid (HO3.out.below HA4.out (Nat.le_refl _))
  have HB4 := Lib.hid (HB3.out.below HA4.out HB3.out.lt)
  have HK4 : Hid (Blk (w3.alloc (.cells #[.int .i64 k', .int .i64 m', .int .i64 s', .slice A3 q'.length c3, .int .u64 lo'] 48)) w3.heap.size [.int .i64 k', .int .i64 m', .int .i64 s', .slice A3 q'.length c3, .int .u64 lo']) := Blk.new w3 _ _
  have r1 := run_conv _ HO4.out.rb l.length c1 rfl
  have HZ : Hid (w.heap.size + 1 + 1 + 1 ≤ w3.heap.size) := Lib.hid HR3.out.sz
  have HZ1 : Hid (w.heap.size + 1 + 1 + 1 ≤ W1.heap.size) := Lib.hid HR1z.out
  clear HR3 HV3 HO3 HB3 HA4 HG2
  go_wp2
  obtain ⟨w4, hw4⟩ : ∃ w4, w4 = w3.alloc (.cells #[.int .i64 k', .int .i64 m', .int .i64 s', .slice A3 q'.length c3, .int .u64 lo'] 48) := ⟨_, rfl⟩
  rw [← hw4] at HR4 HV4 HO4 HB4 HK4 ⊢
  have hb49 : B ≤ w4.heap.size := by rw [hw4]; have := HB3z.out; simp; omega
  clear hw4 r1
  obtain ⟨n, hn⟩ : ∃ n, n = l.length := ⟨_, rfl⟩
  have HN := Lib.hid hn
  rw [← hn] at hl64 ⊢
  clear hn
  go_loopw [16] (fun s16 wr => ∃ (i : Nat) (M : List UInt8), i ≤ n ∧ s16 = .int .i64 i ∧ Hid (M.length = n) ∧ OB wr W1.heap.size A1 c1 M ∧ w4.grownBy wr (A1.map (·.block))) (fun s16 _ => n - (intOf s16).toNat)
  case atStart => exact ⟨0, l, Nat.zero_le _, rfl, Lib.hid HN.out.symm, HO4.out, World.grownBy.refl _ _⟩
  case round =>
    obtain ⟨j, M, hj, rfl, HML, hown, hgr⟩ := hrel
    by_cases hlt : j < n
    · have hjM : j < M.length := by rw [HML.out]; exact hlt
      obtain ⟨g9, hX, hge, hgl, hcell, hfree⟩ := hown.at hjM
      subst hX
      have HOW := Lib.hid hown
      have hs := HOW.out.set j 99 (v := .int .u8 99) rfl
      have HS := Lib.hid hs
      have HLS : Hid ((M.set j 99).length = n) := Lib.hid <| by rw [List.length_set]; exact HML.out
      obtain ⟨x9, hx9⟩ : ∃ x9, x9 = (M[j]'hjM).toNat := ⟨_, rfl⟩
      rw [← hx9] at hcell
      have HG : Hid (w4.grownBy (wr.setCell ⟨g9, j, none⟩ (.int .u8 99)) (some g9)) := Lib.hid (hgr.trans (grown_setCell wr ⟨g9, j, none⟩ _))
      clear hown hs hx9 hjM hge hgr
      go_wp2
      go_roundw
      case rel => exact ⟨j + 1, M.set j 99, by omega, by go_num, HLS, HS.out, HG.out⟩
      case measure => simp [intOf]; omega
    · have hge : ∀ k, A1.map (·.block) = some k → W1.heap.size ≤ k := fun k hk => (hown.lt k hk).1
      have HR9 := Lib.hid (HR4.out.opt hgr (fun k hk => .inr (Nat.le_trans HZ1.out (hge k hk))) HBL.out)
      have HV9 := Lib.hid (HV4.out.below ((Below.refl w4.heap.size w4).mono hb49 |>.grown hgr hb49 (fun k hk => Nat.le_trans HBW1.out (hge k hk))))
      have HB9 := Lib.hid (HB4.out.grown hgr (fun e => by have := hge _ e; have := HZ1.out; have := HBL.out; omega))
      have HK9 := Lib.hid (HK4.out.grown hgr (fun e => by have := HA3.out _ e; omega))
      clear hge hown hgr HR4 HV4 HB4 HK4 HO4
      have k0 : wr.cell? ⟨w3.heap.size, 0, none⟩ = some (.int .i64 k') := HK9.out.cell rfl
      have k1 : wr.cell? ⟨w3.heap.size, 1, none⟩ = some (.int .i64 m') := HK9.out.cell rfl
      have k2 : wr.cell? ⟨w3.heap.size, 2, none⟩ = some (.int .i64 s') := HK9.out.cell rfl
      have k3 : wr.cell? ⟨w3.heap.size, 3, none⟩ = some (.slice A3 q'.length c3) := HK9.out.cell rfl
      have k4 : wr.cell? ⟨w3.heap.size, 4, none⟩ = some (.int .u64 lo') := HK9.out.cell rfl
      have r0 : wr.cell? ⟨w.heap.size + 1 + 1, 0, none⟩ = some (.int .i64 0) := HR9.out.br.cell rfl
      have r1 : wr.cell? ⟨w.heap.size + 1 + 1, 1, none⟩ = some (.int .i64 0) := HR9.out.br.cell rfl
      have r2 : wr.cell? ⟨w.heap.size + 1 + 1, 2, none⟩ = some (.int .i64 0) := HR9.out.br.cell rfl
      have r3 : wr.cell? ⟨w.heap.size + 1 + 1, 3, none⟩ = some (.slice none 0 0) := HR9.out.br.cell rfl
      have r4 : wr.cell? ⟨w.heap.size + 1 + 1, 4, none⟩ = some (.int .u64 0) := HR9.out.br.cell rfl
      have f0 : wr.frozen? ⟨w.heap.size + 1 + 1, 0, none⟩ = false := HR9.out.br.free 0
      have f1 : wr.frozen? ⟨w.heap.size + 1 + 1, 1, none⟩ = false := HR9.out.br.free 1
      have f2' : wr.frozen? ⟨w.heap.size + 1 + 1, 2, none⟩ = false := HR9.out.br.free 2
      have f3 : wr.frozen? ⟨w.heap.size + 1 + 1, 3, none⟩ = false := HR9.out.br.free 3
      have f4 : wr.frozen? ⟨w.heap.size + 1 + 1, 4, none⟩ = false := HR9.out.br.free 4
      go_wp2
      clear k0 k1 k2 k3 k4 r0 r1 r2 r3 r4 f0 f1 f2' f3 f4
      have hg7 := ((((grown_setCell wr ⟨w.heap.size + 1 + 1, 0, none⟩ (.int .i64 k')).trans (grown_setCell _ ⟨w.heap.size + 1 + 1, 1, none⟩ (.int .i64 m'))).trans (grown_setCell _ ⟨w.heap.size + 1 + 1, 2, none⟩ (.int .i64 s'))).trans (grown_setCell _ ⟨w.heap.size + 1 + 1, 3, none⟩ (.slice A3 q'.length c3))).trans (grown_setCell _ ⟨w.heap.size + 1 + 1, 4, none⟩ (.int .u64 lo'))
      have hr7 := ((((HR9.out.br.setCell 0 (.int .i64 k')).setCell 1 (.int .i64 m')).setCell 2 (.int .i64 s')).setCell 3 (.slice A3 q'.length c3)).setCell 4 (.int .u64 lo')
      obtain ⟨w7, hw7⟩ : ∃ w7, w7 = ((((wr.setCell ⟨w.heap.size + 1 + 1, 0, none⟩ (.int .i64 k')).setCell ⟨w.heap.size + 1 + 1, 1, none⟩ (.int .i64 m')).setCell ⟨w.heap.size + 1 + 1, 2, none⟩ (.int .i64 s')).setCell ⟨w.heap.size + 1 + 1, 3, none⟩ (.slice A3 q'.length c3)).setCell ⟨w.heap.size + 1 + 1, 4, none⟩ (.int .u64 lo') := ⟨_, rfl⟩
      rw [← hw7] at hr7 hg7 ⊢
      clear hw7
      have e0 : w7.cell? ⟨w.heap.size + 1 + 1, 0, none⟩ = some (.int .i64 k') := hr7.cell rfl
      have e1 : w7.cell? ⟨w.heap.size + 1 + 1, 1, none⟩ = some (.int .i64 m') := hr7.cell rfl
      have e2 : w7.cell? ⟨w.heap.size + 1 + 1, 2, none⟩ = some (.int .i64 s') := hr7.cell rfl
      have e3 : w7.cell? ⟨w.heap.size + 1 + 1, 3, none⟩ = some (.slice A3 q'.length c3) := hr7.cell rfl
      have e4 : w7.cell? ⟨w.heap.size + 1 + 1, 4, none⟩ = some (.int .u64 lo') := hr7.cell rfl
      have hsz9 : B ≤ wr.heap.size := Nat.le_trans hBw HR9.out.gr.size
      have hb97 : Below B wr w7 := (Below.refl B wr).grown hg7 hsz9 (fun k e => by injection e with e; subst e; exact Nat.le_trans hBw (by show w.heap.size ≤ w.heap.size + 1 + 1; omega))
      have hv7 := HV9.out.below hb97
      refine bodyPost_ret (v := .tuple #[.agg #[.int .i64 k', .int .i64 m', .int .i64 s', .slice A3 q'.length c3, .int .u64 lo'], .bool true]) (by simp [results, Try.results17, go_sem, e0, e1, e2, e3, e4]) rfl ?_
      rw [← HRr.out]
      refine ⟨_, f2, rfl, hv7.up (Nat.le_trans hsz9 hg7.size), HF2.out, HB9.out.grown hg7 (by simp; have := HBL.out; omega), ?_⟩
      exact grown_opt HR9.out.gr hg7 (fun k e => .inr (by injection e with e; subst e; show w.heap.size ≤ w.heap.size + 1 + 1; omega))
end Go.Proofs.Ytdjphdkoljfndaa
