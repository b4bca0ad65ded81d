/- Bundle 5 of the texts MonoP, GStart, GForm. -/
import Derived.Test.YtiebpmpjclnpeaaDoorGb4
/- Pointers in regions that draw; a frame written out anew. Over whatever program. -/
namespace Nac
open Go Go.RowKit
section
variable {P : Program} {ops : Array Oper} {Q : Exit → Act → World → Prop} {D : Nat → VD} {a0 : Act} {W0 : World} {i : Nat} {o : Oper}
theorem mstep_nil (ho : ops[i]? = some o) (hw : ∀ a w, MCtx ops D a0 W0 i a w → Region.wanted o (yielded ops a.tmps) = true) (x : Tmp) (hop : o.op = .nilCheck (.tmp x))
    (kx : Nat) (hkx : (preds ops 3 i).contains kx = true) (hx : dstOf ops kx = some x) (p : Addr) (hDx : D kx = .is (.pointer (some p))) (hD : D i = .is (.pointer (some p))) : MStep P ops Q D a0 W0 i :=
  mstep_one ho hw x kx hkx hx fun a w h => by
    rw [hDx] at h
    have h : a.tmps.getD x undef = .pointer (some p) := h
    exact ⟨.pointer (some p), by simp [execOp, hop, Act.eval, h], by rw [hD]; rfl⟩
theorem mstep_field (ho : ops[i]? = some o) (hw : ∀ a w, MCtx ops D a0 W0 i a w → Region.wanted o (yielded ops a.tmps) = true) (x : Tmp) (s : TypeId) (f : Nat) (hop : o.op = .fieldAddr s (.tmp x) f)
    (kx : Nat) (hkx : (preds ops 3 i).contains kx = true) (hx : dstOf ops kx = some x) (v r : Value) (hDx : D kx = .is v) (hD : D i = .is r) (hr : ∀ w, (Instr.fieldAt s v f).run P w = .ok r w) : MStep P ops Q D a0 W0 i :=
  mstep_one ho hw x kx hkx hx fun a w h => by
    rw [hDx] at h
    have h : a.tmps.getD x undef = v := h
    refine ⟨r, ?_, by rw [hD]; rfl⟩
    simp only [execOp, hop, Act.eval, h]
    rw [Sem.run_bind, hr w]
    rfl
theorem mstep_load (ho : ops[i]? = some o) (hw : ∀ a w, MCtx ops D a0 W0 i a w → Region.wanted o (yielded ops a.tmps) = true) (x : Tmp) (ty : TypeId) (hop : o.op = .load ty (.tmp x))
    (kx : Nat) (hkx : (preds ops 3 i).contains kx = true) (hx : dstOf ops kx = some x) (p r : Value) (hDx : D kx = .is p) (hD : D i = .is r) (hr : ∀ w, Below W0.heap.size W0 w → (Instr.loadAt ty p).run P w = .ok r w) : MStep P ops Q D a0 W0 i :=
  mstep_pure ho hw fun a w c => by
    have h := c.pred kx x (by simpa using hkx) hx
    rw [hDx] at h
    have h : a.tmps.getD x undef = p := h
    refine ⟨r, ?_, by rw [hD]; rfl⟩
    simp only [execOp, hop, Act.eval, h]
    rw [Sem.run_bind, hr w c.below]
    rfl
theorem mstep_loadT (ho : ops[i]? = some o) (hw : ∀ a w, MCtx ops D a0 W0 i a w → Region.wanted o (yielded ops a.tmps) = true) (x : Tmp) (ty : TypeId) (hop : o.op = .load ty (.tmp x))
    (ht : origB ops i x = true) (p r : Value) (hp : a0.tmps.getD x undef = p) (hD : D i = .is r) (hr : ∀ w, Below W0.heap.size W0 w → (Instr.loadAt ty p).run P w = .ok r w) : MStep P ops Q D a0 W0 i :=
  mstep_pure ho hw fun a w c => by
    have h : a.tmps.getD x undef = p := (c.orig x ht).trans hp
    refine ⟨r, ?_, by rw [hD]; rfl⟩
    simp only [execOp, hop, Act.eval, h]
    rw [Sem.run_bind, hr w c.below]
    rfl
end
/-- no operation writes slot t -/
def freeB (ops : Array Oper) (t : Nat) : Bool := (List.range ops.size).all fun i => dstOf ops i != some t
theorem free_dst {ops : Array Oper} {t : Nat} (h : freeB ops t = true) (i : Nat) : dstOf ops i ≠ some t := by
  intro hd
  rcases Nat.lt_or_ge i ops.size with hi | hi
  · unfold freeB at h
    rw [List.all_eq_true] at h
    have := h i (by simpa using hi)
    rw [hd] at this
    simp at this
  · simp [dstOf, Array.getElem?_eq_none hi] at hd
/-- a frame written out by its slots -/
theorem lit_of (n : Nat) (t : Array Value) (h : t.size = n) : t = ((List.range n).map fun i => t.getD i undef).toArray := by
  apply Array.ext (by simp [h])
  intro i h1 h2
  simp [Array.getD_eq_getD_getElem?, h1]
end Nac
/- The first bytes of a body. -/
namespace Nac.Gram
theorem S4.zero_or (s : S4) : S4.zero.or s = s := by cases s; simp [S4.or, S4.zero]
theorem S4.or_zero (s : S4) : s.or S4.zero = s := by cases s; simp [S4.or, S4.zero]
theorem S4.or_assoc (s t u : S4) : (s.or t).or u = s.or (t.or u) := by cases s; cases t; cases u; simp [S4.or, Nat.or_assoc]
theorem start_drop {F : Fx} {l : List Sgn} {i : Nat} (h : i < l.length) : startS F (l.drop i) = if l[i].name < 0 then span l[i].low l[i].high else if F.nul l[i].name.toNat = true then (F.fst l[i].name.toNat).or (startS F (l.drop (i + 1))) else F.fst l[i].name.toNat := by
  rw [List.drop_eq_getElem_cons h]; rfl
end Nac.Gram
namespace Go.Proofs.YtiebpmpjclnpeaaDoor
open Go.RowKit Nac Nac.Gram
theorem RetG.ex {w : World} {v : Value} {e : Ending} {w' : World} (h : RetG w v e w') : ∃ u, e = .returned u ∧ (VD.is v).ok u w' ∧ Below w.heap.size w w' := ⟨v, h.1, rfl, h.2⟩
theorem run_loadAtS {T : TypeId} {n : Nat} (hS : SInfo T n) (w : World) (b k : Nat) (cs : List Value) (hb : w.rangeAt b k cs) (hl : cs.length = n) : (Instr.loadAt T (.pointer (some ⟨b, k, none⟩))).run Tryd.prog w = .ok (.agg cs.toArray) w := by
  obtain ⟨d, hu, hd⟩ := hS.row
  exact run_loadAt_mid w b k T cs d hb hu hd (by rw [hS.info, hl])
theorem drew_below (w : World) (B : Nat) : Below B w w.drew := ⟨rfl, rfl, rfl, Nat.le_refl _, fun _ _ => rfl⟩
set_option maxRecDepth 100000 in
set_option maxHeartbeats 2000000 in
theorem start_calls (w : World) (F : Fx) (bf : Nat) (A : Option Addr) (c : Nat) (l : List Sgn) (hF : F.Ok) (hf : Blk w bf (fcells F)) (hl : RS w w.heap.size A l) (hn : ∀ x ∈ l, x.name < 16) (hby : ∀ x ∈ l, x.low < 256 ∧ x.high < 256) (hm : l.length ≤ 9223372036854775807) :
    Calls Tryd.prog 34 #[.pointer (some ⟨bf, 0, none⟩), .slice A l.length c] w (RetG w (.agg (scs (startS F l)).toArray)) := by
  have HF := Lib.hid hF
  have HBF := Lib.hid hf
  have HL := Lib.hid hl
  have HN := Lib.hid hn
  have HBY := Lib.hid hby
  obtain ⟨L, hL⟩ : ∃ L, L = l.length := ⟨_, rfl⟩
  have HLL := Lib.hid hL
  rw [← hL] at hm ⊢
  clear hF hf hl hn hL hby
  go_enter Tryd.func34, Tryd.ntmps34
  go_wp2_with (first | ((with_reducible show wpList _ _ _ (Oper.mk _ (Op.alloc 71) _ _ _ _ :: _) _ _); refine wpList_allocS _ zS4 rfl rfl ?_) | fail)
  intro w1 hb1 hg1 hs1
  obtain ⟨b4, hb4⟩ : ∃ b, b = w.heap.size := ⟨_, rfl⟩
  rw [← hb4] at hb1 ⊢
  have HX1 : Hid (b4 = w.heap.size ∧ w1.heap.size = b4 + 1) := Lib.hid ⟨hb4, by omega⟩
  clear hs1 hb4
  go_wp2_with (first | ((with_reducible show wpList _ _ _ (Oper.mk _ (Op.alloc 71) _ _ _ _ :: _) _ _); refine wpList_allocS _ zS4 rfl rfl ?_) | fail)
  intro w2 hb2' hg2 hs2
  obtain ⟨b5, hb5⟩ : ∃ b, b = w1.heap.size := ⟨_, rfl⟩
  rw [← hb5] at hb2' ⊢
  have hx1 := HX1.out
  have hB1 : Below w.heap.size w w1 := grown_below hg1 (Nat.le_refl _) fun k e => by cases e
  have H0 : Hid (B2 w b4 b5 (scs .zero) (scs .zero) w2) := Lib.hid ⟨hb1.grown hg2 (fun e => by cases e), hb2', below_trans hB1 (grown_below hg2 hB1.size fun k e => by cases e), by omega, by omega⟩
  clear hs2 hb5 hx1 HX1 hB1 hb1 hg1 hb2' hg2
  go_wp2
  go_loopw [10] (fun s10 wr => ∃ (i : Nat) (sv : S4), i ≤ L ∧ s10 = .int .i64 (i : Int) ∧ B2 w b4 b5 (scs .zero) (scs sv) wr ∧ sv.ok ∧ startS F l = sv.or (startS F (l.drop i))) (fun s10 _ => L - (intOf s10).toNat)
  case atStart => exact ⟨0, .zero, Nat.zero_le _, rfl, H0.out, S4.ok_zero, (S4.zero_or _).symm⟩
  case round =>
    obtain ⟨i, sv, hi, rfl, hr, hok, hv⟩ := hrel
    have HR := Lib.hid hr
    have HV := Lib.hid hv
    have HOK := Lib.hid hok
    clear hr hv hok H0
    by_cases hlt : i < L
    · have hil : i < l.length := by rw [← HLL.out]; exact hlt
      obtain ⟨g, k, hA, hgB, hgs, hrow⟩ := HL.out (by rintro rfl; simp at hil)
      subst hA
      obtain ⟨x, hx⟩ : ∃ x, x = l[i] := ⟨_, rfl⟩
      have HXI : Hid (∃ h : i < l.length, x = l[i]) := Lib.hid ⟨hil, hx⟩
      have HRG : Hid (wr.rangeAt g (k + i * 3) (sgv x)) := Lib.hid (range_below (by rw [hx]; exact hrow i hil) HR.out.below hgB)
      have hxm : x ∈ l := by rw [hx]; exact List.getElem_mem hil
      have hxn : x.name < 16 := HN.out x hxm
      have hxb : x.low < 256 ∧ x.high < 256 := HBY.out x hxm
      clear hx hrow hgB hgs hil hxm
      go_wp2_with (first
        | ((with_reducible show wpList _ _ _ (Oper.mk _ (Op.load 88 _) _ _ _ _ :: _) _ _); refine wpList_loadM sSgn rfl _ rfl g (k + i * 3) (sgv x) rfl HRG.out rfl ?_)
        | ((with_reducible show wpList _ _ _ (Oper.mk _ (Op.alloc 88) _ _ _ _ :: _) _ _); refine wpList_allocS _ zSgn rfl rfl ?_)
        | fail)
      intro w2 hb2 hg2 hs2
      obtain ⟨b7, hb7⟩ : ∃ b, b = wr.heap.size := ⟨_, rfl⟩
      rw [← hb7] at hb2 ⊢
      have HB2 := Lib.hid hb2
      have HG2 : Hid (Below wr.heap.size wr w2 ∧ wr.heap.size ≤ b7) := Lib.hid ⟨grown_below hg2 (Nat.le_refl _) (fun k e => by cases e), by omega⟩
      clear hs2 hb2 hg2 hb7 HRG
      go_wp2_with (first
        | ((with_reducible show wpList _ _ _ (Oper.mk _ (Op.store 88 _ _) _ _ _ _ :: _) _ _); refine wpList_storeS sSgn rfl _ _ rfl b7 (sgv ⟨0, 0, 0⟩) (sgv x) rfl rfl HB2.out rfl rfl (sgv_one _) ?_)
        | fail)
      intro w3 hb3 hg3
      have hGW : Below wr.heap.size wr w3 := below_trans HG2.out.1 (grown_below hg3 HG2.out.1.size fun k e => by injection e with e; have := HG2.out.2; omega)
      have HR3 : Hid (B2 w b4 b5 (scs .zero) (scs sv) w3) := Lib.hid (HR.out.mono hGW)
      have HB3 := Lib.hid hb3
      have HN7 : Hid (b5 < b7) := Lib.hid (by have := HG2.out.2; have := HR.out.x3.lt; omega)
      have HBF3 : Hid (Blk w3 bf (fcells F)) := Lib.hid (HBF.out.below HR3.out.below HBF.out.lt)
      clear hb3 hg3 HB2 HG2 hGW
      obtain ⟨nm, hnm⟩ : ∃ nm, nm = x.name := ⟨_, rfl⟩
      have HC0 : Hid (w3.cell? ⟨b7, 0, none⟩ = some (.int .i64 nm)) := Lib.hid (HB3.out.cell (by rw [hnm]; rfl))
      have LS : Hid (∀ w', Below w3.drew.heap.size w3.drew w' → (Instr.loadAt 71 (.pointer (some ⟨b5, 0, none⟩))).run Tryd.prog w' = .ok (.agg (scs sv).toArray) w') := Lib.hid fun w' hb => run_loadAtS sS4 w' b5 0 _ ((HR3.out.mono ⟨hb.os, hb.tape, hb.output, hb.size, hb.block⟩).x3.range 0 _ ⟨[], [], by simp, rfl⟩) rfl
      obtain ⟨hxi, hxe⟩ := HXI.out
      have hsd := start_drop (F := F) hxi
      rw [← hxe, ← hnm] at hsd
      by_cases hneg : nm < 0
      · obtain ⟨lo, hlo⟩ : ∃ lo, lo = x.low := ⟨_, rfl⟩
        obtain ⟨hh, hhh⟩ : ∃ hh, hh = x.high := ⟨_, rfl⟩
        have ML : Hid (∀ w', Below w3.drew.heap.size w3.drew w' → w'.cell? ⟨b7, 1, none⟩ = some (.int .u8 (lo : Int))) := Lib.hid fun w' hb => (HB3.out.drew.below hb HB3.out.lt).cell (by rw [hlo]; rfl)
        have MH : Hid (∀ w', Below w3.drew.heap.size w3.drew w' → w'.cell? ⟨b7, 2, none⟩ = some (.int .u8 (hh : Int))) := Lib.hid fun w' hb => (HB3.out.drew.below hb HB3.out.lt).cell (by rw [hhh]; rfl)
        rw [if_pos hneg, ← hlo, ← hhh] at hsd
        rw [← hlo, ← hhh] at hxb
        have SPN : Hid (∀ w', Below w3.drew.heap.size w3.drew w' → Calls Tryd.prog 45 #[.int .u8 (lo : Int), .int .u8 (hh : Int)] w' fun e w'' => ∃ v, e = .returned v ∧ (VD.is (.agg (scs (span lo hh)).toArray)).ok v w'' ∧ Below w'.heap.size w' w'') := Lib.hid fun w' _ => (span_calls w' lo hh hxb.1 hxb.2).mono fun _ _ h => h.ex
        have ORN : Hid (∀ w', Below w3.drew.heap.size w3.drew w' → Calls Tryd.prog 42 #[.agg (scs sv).toArray, .agg (scs (span lo hh)).toArray] w' fun e w'' => ∃ v, e = .returned v ∧ (VD.is (.agg (scs (sv.or (span lo hh))).toArray)).ok v w'' ∧ Below w'.heap.size w' w'') := Lib.hid fun w' _ => (or_calls w' sv (span lo hh) HOK.out (span_ok hxb.2)).mono fun _ _ h => h.ex
        have HE : Hid (startS F l = sv.or (span lo hh)) := Lib.hid (by rw [HV.out, hsd])
        clear hnm hxn hxi hxe hsd hxb hlo hhh
        have hc0 := HC0.out
        go_wp2_with fail
        clear hc0
        refine region_tails 7 (fun ix9 => ([.is (.agg (scs sv).toArray), .is (.pointer (some ⟨b7, 1, none⟩)), .is (.int .u8 (lo : Int)), .is (.pointer (some ⟨b7, 2, none⟩)), .is (.int .u8 (hh : Int)), .is (.agg (scs (span lo hh)).toArray), .is (.agg (scs (sv.or (span lo hh))).toArray)] : List VD).getD ix9 (.is undef)) [some 17, some 18, some 19, some 20, some 21, some 22, some 23] (by kernel_rfl) (by kernel_rfl) (by kernel_rfl) (by kernel_rfl) rfl (fun ii hii => ?_) ?_
        · match ii, hii with
          | 0, _ => exact mstep_loadT rfl (mwant_none rfl) 5 _ rfl (by kernel_rfl) _ _ rfl rfl (fun w hb => LS.out w hb)
          | 1, _ => exact mstep_pure rfl (mwant_none rfl) (fun aa ww cc => ⟨.pointer (some ⟨b7, 1, none⟩), by have e0 : aa.tmps.getD 7 undef = .pointer (some ⟨b7, 0, none⟩) := (cc.orig 7 (by kernel_rfl)).trans rfl; simp only [execOp, Act.eval, e0]; go_simp, rfl⟩)
          | 2, _ => exact mstep_pure rfl (mwant_none rfl) (fun aa ww cc => ⟨.int .u8 (lo : Int), by have e0 : aa.tmps.getD 18 undef = .pointer (some ⟨b7, 1, none⟩) := cc.slot 1 18 (by kernel_rfl) rfl; have m := ML.out _ cc.below; simp only [execOp, Act.eval, e0]; go_simp, rfl⟩)
          | 3, _ => exact mstep_pure rfl (mwant_none rfl) (fun aa ww cc => ⟨.pointer (some ⟨b7, 2, none⟩), by have e0 : aa.tmps.getD 7 undef = .pointer (some ⟨b7, 0, none⟩) := (cc.orig 7 (by kernel_rfl)).trans rfl; simp only [execOp, Act.eval, e0]; go_simp, rfl⟩)
          | 4, _ => exact mstep_pure rfl (mwant_none rfl) (fun aa ww cc => ⟨.int .u8 (hh : Int), by have e0 : aa.tmps.getD 20 undef = .pointer (some ⟨b7, 2, none⟩) := cc.slot 3 20 (by kernel_rfl) rfl; have m := MH.out _ cc.below; simp only [execOp, Act.eval, e0]; go_simp, rfl⟩)
          | 5, _ => exact mstep_call rfl (mwant_none rfl) _ _ _ rfl (enters_of Tryd.func45 (by kernel_rfl) rfl) (fun aa ww cc => by have e0 : aa.tmps.getD 19 undef = .int .u8 (lo : Int) := cc.slot 2 19 (by kernel_rfl) rfl; have e1 : aa.tmps.getD 21 undef = .int .u8 (hh : Int) := cc.slot 4 21 (by kernel_rfl) rfl; simp only [List.map_toArray, List.map_cons, List.map_nil, Act.eval, e0, e1]; exact (SPN.out) ww cc.below)
          | 6, _ => exact mstep_call rfl (mwant_none rfl) _ _ _ rfl (enters_of Tryd.func42 (by kernel_rfl) rfl) (fun aa ww cc => by have e0 : aa.tmps.getD 17 undef = .agg (scs sv).toArray := cc.slot 0 17 (by kernel_rfl) rfl; have e1 : aa.tmps.getD 22 undef = .agg (scs (span lo hh)).toArray := cc.slot 5 22 (by kernel_rfl) rfl; simp only [List.map_toArray, List.map_cons, List.map_nil, Act.eval, e0, e1]; exact (ORN.out) ww cc.below)
          | n + 7, h => exact absurd h (by show ¬ (n + 7 < 7); omega)
        · intro VV w5 hlen hb5 hok
          match VV, hlen with
          | [v0, v1, v2, v3, v4, v5, v6], _ =>
            obtain rfl : v0 = .agg (scs sv).toArray := hok 0 17 rfl
            obtain rfl : v1 = .pointer (some ⟨b7, 1, none⟩) := hok 1 18 rfl
            obtain rfl : v2 = .int .u8 (lo : Int) := hok 2 19 rfl
            obtain rfl : v3 = .pointer (some ⟨b7, 2, none⟩) := hok 3 20 rfl
            obtain rfl : v4 = .int .u8 (hh : Int) := hok 4 21 rfl
            obtain rfl : v5 = .agg (scs (span lo hh)).toArray := hok 5 22 rfl
            obtain rfl : v6 = .agg (scs (sv.or (span lo hh))).toArray := hok 6 23 rfl
            have HR5 : Hid (B2 w b4 b5 (scs .zero) (scs sv) w5) := Lib.hid (HR3.out.mono hb5)
            clear hb5 hok ML MH SPN ORN LS HR3
            simp only [List.zip_cons_cons, List.zip_nil_right, putsL]
            go_simp
            go_wp2_with ((with_reducible show wpList _ _ _ (Oper.mk _ (Op.store _ _ _) _ _ _ _ :: _) _ _); refine wpList_storeS sS4 rfl _ _ rfl b4 (scs .zero) (scs (sv.or (span lo hh))) rfl rfl HR5.out.x2 rfl rfl (wcs_one _) ?_)
            intro w8 hb8 hg8
            have l8 := Lib.hid (run_loadS sS4 b4 _ hb8 rfl)
            have HRES : Hid (Below w.heap.size w w8) := Lib.hid (below_trans HR5.out.below (grown_below hg8 HR5.out.below.size fun k e => by injection e with e; have := HR5.out.l2; omega))
            clear hb8 hg8
            go_wp2
            exact bodyPost_ret (v := .agg (scs (startS F l)).toArray) (by rw [HE.out]; simp [results, Tryd.results34, asAddr, Sem.run_bind, Sem.run_pure, l8.out]) rfl ⟨rfl, HRES.out⟩
      · obtain ⟨n, rfl⟩ := Int.eq_ofNat_of_zero_le (show 0 ≤ nm by omega)
        have hn16 : n < 16 := by omega
        have QI : Hid (n < 16) := Lib.hid hn16
        have hfo : (F.fst n).ok := ok_getD HF.out.fs n
        have M1 : Hid (∀ w', Below w3.drew.heap.size w3.drew w' → w'.cell? ⟨b7, 0, none⟩ = some (.int .i64 (n : Int))) := Lib.hid fun w' hb => (HB3.out.drew.below hb HB3.out.lt).cell (by rw [hnm]; rfl)
        have LF : Hid (∀ w', Below w3.drew.heap.size w3.drew w' → (Instr.loadAt 71 (.pointer (some ⟨bf, 32 + n * 4, none⟩))).run Tryd.prog w' = .ok (.agg (scs (F.fst n)).toArray) w') := Lib.hid fun w' hb => run_loadAtS sS4 w' bf (32 + n * 4) _ ((HBF3.out.drew.below hb HBF3.out.lt).range _ _ (fc_first HF.out hn16)) rfl
        have ORN : Hid (∀ w', Below w3.drew.heap.size w3.drew w' → Calls Tryd.prog 42 #[.agg (scs sv).toArray, .agg (scs (F.fst n)).toArray] w' fun e w'' => ∃ v, e = .returned v ∧ (VD.is (.agg (scs (sv.or (F.fst n))).toArray)).ok v w'' ∧ Below w'.heap.size w' w'') := Lib.hid fun w' _ => (or_calls w' sv (F.fst n) HOK.out hfo).mono fun _ _ h => h.ex
        have hc := fc_null HF.out hn16
        have hok2 : (sv.or (F.fst n)).ok := S4.ok_or HOK.out hfo
        have HOK2 := Lib.hid hok2
        rw [if_neg hneg, Int.toNat_natCast] at hsd
        have HSD := Lib.hid hsd
        have HCC := Lib.hid hc
        have HNG := Lib.hid hneg
        have HNX : Hid ((n : Int) = x.name) := Lib.hid hnm
        clear hnm hxn hxi hxe hxb hn16 hfo hok2 hc hsd
        have hc0 := HC0.out
        go_wp2_with fail
        clear hc0 hneg
        refine region_tails 9 (fun ix9 => ([.is (.agg (scs sv).toArray), .is (.pointer (some ⟨bf, 0, none⟩)), .is (.pointer (some ⟨b7, 0, none⟩)), .is (.int .i64 (n : Int)), .is (.pointer (some ⟨bf, 0, none⟩)), .is (.pointer (some ⟨bf, 32, none⟩)), .is (.pointer (some ⟨bf, 32 + n * 4, none⟩)), .is (.agg (scs (F.fst n)).toArray), .is (.agg (scs (sv.or (F.fst n))).toArray)] : List VD).getD ix9 (.is undef)) [some 24, some 25, some 26, some 27, some 28, some 29, some 30, some 31, some 32] (by kernel_rfl) (by kernel_rfl) (by kernel_rfl) (by kernel_rfl) rfl (fun ii hii => ?_) ?_
        · match ii, hii with
          | 0, _ => exact mstep_loadT rfl (mwant_none rfl) 5 _ rfl (by kernel_rfl) _ _ rfl rfl (fun w hb => LS.out w hb)
          | 1, _ => exact mstep_first rfl (mwant_none rfl) 0 (Or.inl rfl) (by kernel_rfl) (fun _ _ => rfl)
          | 2, _ => exact mstep_pure rfl (mwant_none rfl) (fun aa ww cc => ⟨.pointer (some ⟨b7, 0, none⟩), by have e0 : aa.tmps.getD 7 undef = .pointer (some ⟨b7, 0, none⟩) := (cc.orig 7 (by kernel_rfl)).trans rfl; simp only [execOp, Act.eval, e0]; go_simp, rfl⟩)
          | 3, _ => exact mstep_pure rfl (mwant_none rfl) (fun aa ww cc => ⟨.int .i64 (n : Int), by have e0 : aa.tmps.getD 26 undef = .pointer (some ⟨b7, 0, none⟩) := cc.slot 2 26 (by kernel_rfl) rfl; have m := M1.out _ cc.below; simp only [execOp, Act.eval, e0]; go_simp, rfl⟩)
          | 4, _ => exact mstep_pure rfl (mwant_none rfl) (fun aa ww cc => ⟨.pointer (some ⟨bf, 0, none⟩), by have e0 : aa.tmps.getD 25 undef = .pointer (some ⟨bf, 0, none⟩) := cc.slot 1 25 (by kernel_rfl) rfl; simp only [execOp, Act.eval, e0]; go_simp, rfl⟩)
          | 5, _ => exact mstep_pure rfl (mwant_none rfl) (fun aa ww cc => ⟨.pointer (some ⟨bf, 32, none⟩), by have e0 : aa.tmps.getD 28 undef = .pointer (some ⟨bf, 0, none⟩) := cc.slot 4 28 (by kernel_rfl) rfl; simp only [execOp, Act.eval, e0]; go_simp, rfl⟩)
          | 6, _ => exact mstep_pure rfl (mwant_none rfl) (fun aa ww cc => ⟨.pointer (some ⟨bf, 32 + n * 4, none⟩), by have e0 : aa.tmps.getD 29 undef = .pointer (some ⟨bf, 32, none⟩) := cc.slot 5 29 (by kernel_rfl) rfl; have e1 : aa.tmps.getD 27 undef = .int .i64 (n : Int) := cc.slot 3 27 (by kernel_rfl) rfl; have qi := QI.out; have q : (n : Int) < 16 := (by omega); simp only [execOp, Act.eval, e0, e1]; go_simp, rfl⟩)
          | 7, _ => exact mstep_load rfl (mwant_none rfl) 30 _ rfl 6 (by kernel_rfl) rfl _ _ rfl rfl (fun w hb => LF.out w hb)
          | 8, _ => exact mstep_call rfl (mwant_none rfl) _ _ _ rfl (enters_of Tryd.func42 (by kernel_rfl) rfl) (fun aa ww cc => by have e0 : aa.tmps.getD 24 undef = .agg (scs sv).toArray := cc.slot 0 24 (by kernel_rfl) rfl; have e1 : aa.tmps.getD 31 undef = .agg (scs (F.fst n)).toArray := cc.slot 7 31 (by kernel_rfl) rfl; simp only [List.map_toArray, List.map_cons, List.map_nil, Act.eval, e0, e1]; exact (ORN.out) ww cc.below)
          | n + 9, h => exact absurd h (by show ¬ (n + 9 < 9); omega)
        · intro VV w5 hlen hb5 hok
          match VV, hlen with
          | [v0, v1, v2, v3, v4, v5, v6, v7, v8], _ =>
            obtain rfl : v0 = .agg (scs sv).toArray := hok 0 24 rfl
            obtain rfl : v1 = .pointer (some ⟨bf, 0, none⟩) := hok 1 25 rfl
            obtain rfl : v2 = .pointer (some ⟨b7, 0, none⟩) := hok 2 26 rfl
            obtain rfl : v3 = .int .i64 (n : Int) := hok 3 27 rfl
            obtain rfl : v4 = .pointer (some ⟨bf, 0, none⟩) := hok 4 28 rfl
            obtain rfl : v5 = .pointer (some ⟨bf, 32, none⟩) := hok 5 29 rfl
            obtain rfl : v6 = .pointer (some ⟨bf, 32 + n * 4, none⟩) := hok 6 30 rfl
            obtain rfl : v7 = .agg (scs (F.fst n)).toArray := hok 7 31 rfl
            obtain rfl : v8 = .agg (scs (sv.or (F.fst n))).toArray := hok 8 32 rfl
            have HR5 : Hid (B2 w b4 b5 (scs .zero) (scs sv) w5) := Lib.hid (HR3.out.mono hb5)
            have HB5 : Hid (Blk w5 b7 (sgv x)) := Lib.hid (HB3.out.below hb5 HB3.out.lt)
            clear hb5 hok M1 LF ORN LS HR3 HB3
            simp only [List.zip_cons_cons, List.zip_nil_right, putsL]
            go_simp
            go_wp2_with ((with_reducible show wpList _ _ _ (Oper.mk _ (Op.store _ _ _) _ _ _ _ :: _) _ _); refine wpList_storeS sS4 rfl _ _ rfl b5 (scs sv) (scs (sv.or (F.fst n))) rfl rfl HR5.out.x3 rfl rfl (wcs_one _) ?_)
            intro w6 hb6 hg6
            have HR6 : Hid (B2 w b4 b5 (scs .zero) (scs (sv.or (F.fst n))) w6) := Lib.hid (HR5.out.set3 hb6 hg6)
            have HB6 : Hid (Blk w6 b7 (sgv x)) := Lib.hid (HB5.out.grown hg6 (fun e => by injection e with e; have := HN7.out; omega))
            have HBF6 : Hid (Blk w6 bf (fcells F)) := Lib.hid (HBF.out.below HR6.out.below HBF.out.lt)
            clear hb6 hg6 HR5 HB5
            have N1 : Hid (∀ w', Below w6.heap.size w6 w' → w'.cell? ⟨b7, 0, none⟩ = some (.int .i64 (n : Int))) := Lib.hid fun w' hb => (HB6.out.below hb HB6.out.lt).cell (by rw [HNX.out]; rfl)
            cases hnu : F.nul n with
            | false =>
              have hcc := HCC.out
              rw [hnu] at hcc
              have N2 : Hid (∀ w', Below w6.heap.size w6 w' → w'.cell? ⟨bf, 16 + n, none⟩ = some (.bool false)) := Lib.hid fun w' hb => (HBF6.out.below hb HBF6.out.lt).cell hcc
              have HE : Hid (startS F l = sv.or (F.fst n)) := Lib.hid (by rw [HV.out, HSD.out, hnu]; rfl)
              clear hcc hnu
              go_wp2_with fail
              refine region_vals [.pointer (some ⟨bf, 0, none⟩), .pointer (some ⟨b7, 0, none⟩), .int .i64 (n : Int), .pointer (some ⟨bf, 0, none⟩), .pointer (some ⟨bf, 16, none⟩), .pointer (some ⟨bf, 16 + n, none⟩), .bool false, .bool true] [some 33, some 34, some 35, some 36, some 37, some 38, some 39, some 40] (fun _ w' => Below w6.heap.size w6 w') (by kernel_rfl) (by kernel_rfl) (by kernel_rfl) rfl rfl (Below.refl _ _).drew (fun ii hii => ?_) ?_
              · match ii, hii with
                | 0, _ => exact vstep_first rfl (vwant_none rfl) (fun _ _ h => h) 0 (Or.inl rfl) (by kernel_rfl) rfl
                | 1, _ => exact vstep_pure rfl (vwant_none rfl) (fun _ _ h => h) (fun LL aa ww cc => ⟨.pointer (some ⟨b7, 0, none⟩), by have e0 : aa.tmps.getD 7 undef = .pointer (some ⟨b7, 0, none⟩) := (cc.orig 7 (by kernel_rfl)).trans rfl; simp only [execOp, Act.eval, e0]; go_simp, rfl⟩)
                | 2, _ => exact vstep_pure rfl (vwant_none rfl) (fun _ _ h => h) (fun LL aa ww cc => ⟨.int .i64 (n : Int), by have e0 : aa.tmps.getD 34 undef = .pointer (some ⟨b7, 0, none⟩) := cc.slot 1 34 (by kernel_rfl) rfl; have m := N1.out _ cc.world; simp only [execOp, Act.eval, e0]; go_simp, rfl⟩)
                | 3, _ => exact vstep_pure rfl (vwant_none rfl) (fun _ _ h => h) (fun LL aa ww cc => ⟨.pointer (some ⟨bf, 0, none⟩), by have e0 : aa.tmps.getD 33 undef = .pointer (some ⟨bf, 0, none⟩) := cc.slot 0 33 (by kernel_rfl) rfl; simp only [execOp, Act.eval, e0]; go_simp, rfl⟩)
                | 4, _ => exact vstep_pure rfl (vwant_none rfl) (fun _ _ h => h) (fun LL aa ww cc => ⟨.pointer (some ⟨bf, 16, none⟩), by have e0 : aa.tmps.getD 36 undef = .pointer (some ⟨bf, 0, none⟩) := cc.slot 3 36 (by kernel_rfl) rfl; simp only [execOp, Act.eval, e0]; go_simp, rfl⟩)
                | 5, _ => exact vstep_pure rfl (vwant_none rfl) (fun _ _ h => h) (fun LL aa ww cc => ⟨.pointer (some ⟨bf, 16 + n, none⟩), by have e0 : aa.tmps.getD 37 undef = .pointer (some ⟨bf, 16, none⟩) := cc.slot 4 37 (by kernel_rfl) rfl; have e1 : aa.tmps.getD 35 undef = .int .i64 (n : Int) := cc.slot 2 35 (by kernel_rfl) rfl; have qi := QI.out; have q : (n : Int) < 16 := (by omega); simp only [execOp, Act.eval, e0, e1]; go_simp, rfl⟩)
                | 6, _ => exact vstep_pure rfl (vwant_none rfl) (fun _ _ h => h) (fun LL aa ww cc => ⟨.bool false, by have e0 : aa.tmps.getD 38 undef = .pointer (some ⟨bf, 16 + n, none⟩) := cc.slot 5 38 (by kernel_rfl) rfl; have m := N2.out _ cc.world; simp only [execOp, Act.eval, e0]; go_simp, rfl⟩)
                | 7, _ => exact vstep_pure rfl (vwant_none rfl) (fun _ _ h => h) (fun LL aa ww cc => ⟨.bool true, by have e0 : aa.tmps.getD 39 undef = .bool false := cc.slot 6 39 (by kernel_rfl) rfl; simp only [execOp, Act.eval, e0]; go_simp, rfl⟩)
                | n + 8, h => exact absurd h (by show ¬ (n + 8 < 8); omega)
              · intro L9 w7 _ hj7
                have HRX : Hid (B2 w b4 b5 (scs .zero) (scs (sv.or (F.fst n))) w7) := Lib.hid (HR6.out.mono hj7)
                clear hj7 HR6 N1 N2
                refine (by assumption : ∀ (a : Act) (w : World), Code.wp _ _ _ a w → _) _ _ ?_
                simp only [List.zip_cons_cons, List.zip_nil_right, putsL]
                go_simp
                go_wp2_with (first | ((with_reducible show wpList _ _ _ (Oper.mk _ (Op.load 71 _) _ _ _ _ :: _) _ _); refine wpList_loadS sS4 rfl _ rfl b5 (scs (sv.or (F.fst n))) rfl HRX.out.x3 rfl ?_) | ((with_reducible show wpList _ _ _ (Oper.mk _ (Op.store 71 _ _) _ _ _ _ :: _) _ _); refine wpList_storeS sS4 rfl _ _ rfl b4 (scs .zero) (scs (sv.or (F.fst n))) rfl rfl HRX.out.x2 rfl rfl (wcs_one _) ?_))
                intro w8 hb8 hg8
                have l8 := Lib.hid (run_loadS sS4 b4 _ hb8 rfl)
                have HRES : Hid (Below w.heap.size w w8) := Lib.hid (below_trans HRX.out.below (grown_below hg8 HRX.out.below.size fun k e => by injection e with e; have := HRX.out.l2; have := HRX.out.n23; omega))
                clear hb8 hg8
                go_wp2
                exact bodyPost_ret (v := .agg (scs (startS F l)).toArray) (by rw [HE.out]; simp [results, Tryd.results34, asAddr, Sem.run_bind, Sem.run_pure, l8.out]) rfl ⟨rfl, HRES.out⟩
            | true =>
              have hcc := HCC.out
              rw [hnu] at hcc
              have N2 : Hid (∀ w', Below w6.heap.size w6 w' → w'.cell? ⟨bf, 16 + n, none⟩ = some (.bool true)) := Lib.hid fun w' hb => (HBF6.out.below hb HBF6.out.lt).cell hcc
              have HE : Hid (startS F l = (sv.or (F.fst n)).or (startS F (l.drop (i + 1)))) := Lib.hid (by rw [HV.out, HSD.out, hnu, S4.or_assoc]; rfl)
              clear hcc hnu
              go_wp2_with fail
              refine region_vals [.pointer (some ⟨bf, 0, none⟩), .pointer (some ⟨b7, 0, none⟩), .int .i64 (n : Int), .pointer (some ⟨bf, 0, none⟩), .pointer (some ⟨bf, 16, none⟩), .pointer (some ⟨bf, 16 + n, none⟩), .bool true, .bool false] [some 33, some 34, some 35, some 36, some 37, some 38, some 39, some 40] (fun _ w' => Below w6.heap.size w6 w') (by kernel_rfl) (by kernel_rfl) (by kernel_rfl) rfl rfl (Below.refl _ _).drew (fun ii hii => ?_) ?_
              · match ii, hii with
                | 0, _ => exact vstep_first rfl (vwant_none rfl) (fun _ _ h => h) 0 (Or.inl rfl) (by kernel_rfl) rfl
                | 1, _ => exact vstep_pure rfl (vwant_none rfl) (fun _ _ h => h) (fun LL aa ww cc => ⟨.pointer (some ⟨b7, 0, none⟩), by have e0 : aa.tmps.getD 7 undef = .pointer (some ⟨b7, 0, none⟩) := (cc.orig 7 (by kernel_rfl)).trans rfl; simp only [execOp, Act.eval, e0]; go_simp, rfl⟩)
                | 2, _ => exact vstep_pure rfl (vwant_none rfl) (fun _ _ h => h) (fun LL aa ww cc => ⟨.int .i64 (n : Int), by have e0 : aa.tmps.getD 34 undef = .pointer (some ⟨b7, 0, none⟩) := cc.slot 1 34 (by kernel_rfl) rfl; have m := N1.out _ cc.world; simp only [execOp, Act.eval, e0]; go_simp, rfl⟩)
                | 3, _ => exact vstep_pure rfl (vwant_none rfl) (fun _ _ h => h) (fun LL aa ww cc => ⟨.pointer (some ⟨bf, 0, none⟩), by have e0 : aa.tmps.getD 33 undef = .pointer (some ⟨bf, 0, none⟩) := cc.slot 0 33 (by kernel_rfl) rfl; simp only [execOp, Act.eval, e0]; go_simp, rfl⟩)
                | 4, _ => exact vstep_pure rfl (vwant_none rfl) (fun _ _ h => h) (fun LL aa ww cc => ⟨.pointer (some ⟨bf, 16, none⟩), by have e0 : aa.tmps.getD 36 undef = .pointer (some ⟨bf, 0, none⟩) := cc.slot 3 36 (by kernel_rfl) rfl; simp only [execOp, Act.eval, e0]; go_simp, rfl⟩)
                | 5, _ => exact vstep_pure rfl (vwant_none rfl) (fun _ _ h => h) (fun LL aa ww cc => ⟨.pointer (some ⟨bf, 16 + n, none⟩), by have e0 : aa.tmps.getD 37 undef = .pointer (some ⟨bf, 16, none⟩) := cc.slot 4 37 (by kernel_rfl) rfl; have e1 : aa.tmps.getD 35 undef = .int .i64 (n : Int) := cc.slot 2 35 (by kernel_rfl) rfl; have qi := QI.out; have q : (n : Int) < 16 := (by omega); simp only [execOp, Act.eval, e0, e1]; go_simp, rfl⟩)
                | 6, _ => exact vstep_pure rfl (vwant_none rfl) (fun _ _ h => h) (fun LL aa ww cc => ⟨.bool true, by have e0 : aa.tmps.getD 38 undef = .pointer (some ⟨bf, 16 + n, none⟩) := cc.slot 5 38 (by kernel_rfl) rfl; have m := N2.out _ cc.world; simp only [execOp, Act.eval, e0]; go_simp, rfl⟩)
                | 7, _ => exact vstep_pure rfl (vwant_none rfl) (fun _ _ h => h) (fun LL aa ww cc => ⟨.bool false, by have e0 : aa.tmps.getD 39 undef = .bool true := cc.slot 6 39 (by kernel_rfl) rfl; simp only [execOp, Act.eval, e0]; go_simp, rfl⟩)
                | n + 8, h => exact absurd h (by show ¬ (n + 8 < 8); omega)
              · intro L9 w7 _ hj7
                have HRX : Hid (B2 w b4 b5 (scs .zero) (scs (sv.or (F.fst n))) w7) := Lib.hid (HR6.out.mono hj7)
                clear hj7 HR6 N1 N2
                refine (by assumption : ∀ (a : Act) (w : World), Code.wp _ _ _ a w → _) _ _ ?_
                simp only [List.zip_cons_cons, List.zip_nil_right, putsL]
                go_simp
                go_wp2
                go_roundw
                case rel => exact ⟨i + 1, _, by omega, by go_num, HRX.out, HOK2.out, HE.out⟩
                case measure => simp [intOf]; omega
    · have HE : Hid (startS F l = sv) := Lib.hid (by
        rw [HV.out, List.drop_of_length_le (by have := HLL.out; omega), show startS F [] = S4.zero from rfl, S4.or_zero])
      have HRX := HR
      go_wp2_with (first | ((with_reducible show wpList _ _ _ (Oper.mk _ (Op.load 71 _) _ _ _ _ :: _) _ _); refine wpList_loadS sS4 rfl _ rfl b5 (scs sv) rfl HRX.out.x3 rfl ?_) | ((with_reducible show wpList _ _ _ (Oper.mk _ (Op.store 71 _ _) _ _ _ _ :: _) _ _); refine wpList_storeS sS4 rfl _ _ rfl b4 (scs .zero) (scs sv) rfl rfl HRX.out.x2 rfl rfl (wcs_one _) ?_))
      intro w8 hb8 hg8
      have l8 := Lib.hid (run_loadS sS4 b4 _ hb8 rfl)
      have HRES : Hid (Below w.heap.size w w8) := Lib.hid (below_trans HRX.out.below (grown_below hg8 HRX.out.below.size fun k e => by injection e with e; have := HRX.out.l2; have := HRX.out.n23; omega))
      clear hb8 hg8
      go_wp2
      exact bodyPost_ret (v := .agg (scs (startS F l)).toArray) (by rw [HE.out]; simp [results, Tryd.results34, asAddr, Sem.run_bind, Sem.run_pure, l8.out]) rfl ⟨rfl, HRES.out⟩
end Go.Proofs.YtiebpmpjclnpeaaDoor
/- Forms as cells; one of a fact's cells set. -/
namespace Nac
open Go Go.RowKit
section
variable {P : Program} {ops : Array Oper} {Q : Exit → Act → World → Prop} {D : Nat → VD} {a0 : Act} {W0 : World} {i : Nat} {o : Oper}
/-- the guard says no -/
theorem mstep_unwanted (ho : ops[i]? = some o) (j : Nat) (want : Bool) (d : Tmp) (hg : o.guard = some (j, want)) (hj : (preds ops 3 i).contains j = true) (hdj : dstOf ops j = some d) (hD : D j = .is (.bool (!want)) ∨ D j = .is undef) (hlt : decide (d < a0.tmps.size) = true)
    (hu : D i = .is undef) : MStep P ops Q D a0 W0 i := by
  intro o' ho' a w c
  rw [ho] at ho'
  obtain rfl := Option.some.inj ho'
  have hsz := c.tsize
  have h := c.pred j d (by simpa using hj) hdj
  have hlt : d < a.tmps.size := by
    rw [hsz]
    simpa using hlt
  have h : a.tmps.getD d undef = .bool (!want) ∨ a.tmps.getD d undef = undef := by
    rcases hD with hD | hD
    · rw [hD] at h; exact .inl h
    · rw [hD] at h; exact .inr h
  have hy : Region.wanted o (yielded ops a.tmps) = false := by
    have hy : yielded ops a.tmps j = some (!want) ∨ yielded ops a.tmps j = none := by
      unfold yielded
      have hdj' : (ops[j]?).bind (·.dst) = some d := hdj
      rw [hdj']
      rw [Array.getD_eq_getD_getElem?, Array.getElem?_eq_getElem hlt] at h
      simp only [Option.getD_some] at h
      rcases h with h | h
      · left; simp [Array.getElem?_eq_getElem hlt, h]
      · right; simp [Array.getElem?_eq_getElem hlt, h, undef]
    rcases hy with hy | hy <;> cases want <;> simp [Region.wanted, hg, hy]
  rw [if_neg (by rw [hy]; simp), hu]
  rfl
end
end Nac
namespace Go.Proofs.YtiebpmpjclnpeaaDoor
open Go.RowKit Nac Nac.Gram
def frv (f : Frm) (A : Option Addr) (c : Nat) : List Value := [.int .i64 (f.name : Int), .slice A f.body.length c]
theorem frv_one (f : Frm) (A : Option Addr) (c : Nat) : ∀ v ∈ frv f A c, v.oneCell' = true := by intro v hv; simp [frv] at hv; rcases hv with rfl | rfl <;> rfl
theorem sFrm : SInfo 105 2 := ⟨by kernel_rfl, _, Tryd.underlying105, rfl⟩
theorem zFrm : ((Tryd.prog.info? 105).bind (·.zero)) = some (.agg (frv ⟨0, []⟩ none 0).toArray) := by kernel_rfl
theorem sFx : SInfo 74 160 := ⟨by kernel_rfl, _, Tryd.underlying74, rfl⟩
theorem s1Bool : (Tryd.prog.info? 4).map (·.size) = some 1 := by kernel_rfl
theorem RS.mono {w : World} {B B' : Nat} {A : Option Addr} {l : List Sgn} (h : RS w B A l) (hB : B ≤ B') : RS w B' A l := fun hne => by
  obtain ⟨g, k, hA, hg, hgs, hr⟩ := h hne
  exact ⟨g, k, hA, by omega, hgs, hr⟩
theorem RS.grown {w w' : World} {B b : Nat} {A : Option Addr} {l : List Sgn} (h : RS w B A l) (hg : w.grownBy w' (some b)) (hB : B ≤ b) : RS w' B A l := fun hne => by
  obtain ⟨g, k, hA, hgB, hgs, hr⟩ := h hne
  refine ⟨g, k, hA, hgB, Nat.lt_of_lt_of_le hgs hg.size, fun i hi j v hj => ?_⟩
  rw [← hr i hi j v hj]
  unfold World.cell?
  rw [hg.block g hgs (fun e => by injection e with e; omega)]
theorem RS.none {w : World} {B : Nat} {A : Option Addr} : RS w B A [] := fun h => absurd rfl h
theorem grownBy_below {w w' : World} {B : Nat} {row : Option Nat} (h : Below B w w') (hB : w.heap.size ≤ B) : w.grownBy w' row := ⟨h.os, h.tape, h.output, h.size, fun k hk _ => h.block k (by omega)⟩
/-! ### one cell of the facts set -/
theorem bcs_set (l : List Bool) (n : Nat) (v : Bool) : (bcs l).set n (.bool v) = bcs (l.set n v) := by unfold bcs; rw [List.map_set]
theorem fset_text {F : Fx} (h : F.Ok) {n : Nat} (hn : n < 16) (v : Bool) : (fcells F).set n (.bool v) = fcells { F with text := F.text.set n v } := by
  unfold fcells
  rw [List.set_append_left _ _ (by simp [bcs, h.t]; exact hn), bcs_set]
theorem fset_null {F : Fx} (h : F.Ok) {n : Nat} (hn : n < 16) (v : Bool) : (fcells F).set (16 + n) (.bool v) = fcells { F with null := F.null.set n v } := by
  unfold fcells
  rw [List.set_append_right _ _ (by simp [bcs, h.t]), List.set_append_left _ _ (by simp [bcs, h.t, h.n]; exact hn), show 16 + n - (bcs F.text).length = n by simp [bcs, h.t], bcs_set]
theorem sets_set (l : List S4) (n : Nat) (hn : n < l.length) (s : S4) : (sets l).take (4 * n) ++ scs s ++ (sets l).drop (4 * n + 4) = sets (l.set n s) := by
  have := flatten_set 4 (l.map scs) (fun x hx => by obtain ⟨s, _, rfl⟩ := List.mem_map.1 hx; rfl) n (by simpa using hn) (scs s) rfl
  unfold sets
  rw [this, List.map_set]
theorem fset_first {F : Fx} (h : F.Ok) {n : Nat} (hn : n < 16) (s : S4) : (fcells F).take (32 + n * 4) ++ scs s ++ (fcells F).drop (32 + n * 4 + (scs s).length) = fcells { F with first := F.first.set n s } := by
  have h1 : (bcs F.text ++ bcs F.null).length = 32 := by simp [bcs, h.t, h.n]
  have h2 : (sets F.first).length = 64 := by rw [sets_len, h.f]
  have e := sets_set F.first n (by rw [h.f]; exact hn) s
  unfold fcells
  rw [← List.append_assoc, ← List.append_assoc (bcs F.text), scs_len, List.take_append, List.take_of_length_le (by omega), h1, Nat.add_sub_cancel_left, List.take_append_of_le_length (by omega),
    show 32 + n * 4 + 4 = 32 + (n * 4 + 4) by omega, List.drop_append, List.drop_of_length_le (l := bcs F.text ++ bcs F.null) (by omega), List.nil_append, h1, Nat.add_sub_cancel_left, List.drop_append_of_le_length (by omega), ← e, Nat.mul_comm 4 n]
  simp
theorem fset_follow {F : Fx} (h : F.Ok) {n : Nat} (hn : n < 16) (s : S4) : (fcells F).take (96 + n * 4) ++ scs s ++ (fcells F).drop (96 + n * 4 + (scs s).length) = fcells { F with follow := F.follow.set n s } := by
  have h1 : (bcs F.text ++ (bcs F.null ++ sets F.first)).length = 96 := by simp [bcs, h.t, h.n, sets_len, h.f]
  have h2 : (sets F.follow).length = 64 := by rw [sets_len, h.o]
  have e := sets_set F.follow n (by rw [h.o]; exact hn) s
  have hsp : ∀ x : List Value, bcs F.text ++ (bcs F.null ++ (sets F.first ++ x)) = (bcs F.text ++ (bcs F.null ++ sets F.first)) ++ x := fun x => by simp
  unfold fcells
  rw [hsp, hsp, scs_len, List.take_append, List.take_of_length_le (by omega), h1, Nat.add_sub_cancel_left,
    show 96 + n * 4 + 4 = 96 + (n * 4 + 4) by omega, List.drop_append, List.drop_of_length_le (l := bcs F.text ++ (bcs F.null ++ sets F.first)) (by omega), List.nil_append, h1, Nat.add_sub_cancel_left, ← e, Nat.mul_comm 4 n]
  simp
theorem ok_text {F : Fx} (h : F.Ok) (n : Nat) (v : Bool) : Fx.Ok { F with text := F.text.set n v } := ⟨by simpa using h.t, h.n, h.f, h.o, h.fs, h.os⟩
theorem ok_null {F : Fx} (h : F.Ok) (n : Nat) (v : Bool) : Fx.Ok { F with null := F.null.set n v } := ⟨h.t, by simpa using h.n, h.f, h.o, h.fs, h.os⟩
theorem ok_first {F : Fx} (h : F.Ok) (n : Nat) {s : S4} (hs : s.ok) : Fx.Ok { F with first := F.first.set n s } := ⟨h.t, h.n, by simpa using h.f, h.o, ok_set h.fs n hs, h.os⟩
theorem ok_follow {F : Fx} (h : F.Ok) (n : Nat) {s : S4} (hs : s.ok) : Fx.Ok { F with follow := F.follow.set n s } := ⟨h.t, h.n, h.f, by simpa using h.o, h.fs, ok_set h.os n hs⟩
/-- a step on the facts at bf -/
def Stepped (w : World) (bf : Nat) (F : Fx) (e : Ending) (w' : World) : Prop := e = .returned (.tuple #[]) ∧ Blk w' bf (fcells F) ∧ w.grownBy w' (some bf)
end Go.Proofs.YtiebpmpjclnpeaaDoor
