/- octet's reader: Text, where it does not fail. -/
import Derived.Test.YtpbalgnfeabhgaaDoorOctEnd
namespace Go.Proofs.YtpbalgnfeabhgaaDoor
open Go.RowKit Nac Nac.Crc
def RetText (w : World) (b : Nat) (A : Option Addr) (c : Nat) (r : Rdr) (s : List UInt8) (e : Ending) (w' : World) : Prop :=
  e = .returned (.string (strB s)) ∧ RdM w' b A c { r with pos := r.pos + 1 + s.length } ∧ w.grownBy w' (some b)
set_option maxHeartbeats 4000000 in
set_option maxRecDepth 100000 in
theorem rtext_calls (w : World) (b : Nat) (A : Option Addr) (c : Nat) (r : Rdr) (h : RdM w b A c r) (h8 : r.l.length ≤ 140737488351232) (s rest : List UInt8) (hs : s.length ≤ 255) (hc : r.code = 0)
    (hr : r.l.drop r.pos = UInt8.ofNat s.length :: (s ++ rest)) :
    Calls Tryd.prog 20 #[.pointer (some ⟨b, 0, none⟩)] w (RetText w b A c r s) := by
  have c2 : w.cell? ⟨b, 2, none⟩ = some (.int .i64 r.code) := h.blk.cell rfl
  have e0 : ((r.code : Int) != 0) = false := by rw [hc]; rfl
  have e1 : (r.code : Int) = 0 := by omega
  have hlen : r.l.length - r.pos = s.length + rest.length + 1 := by
    have := congrArg List.length hr
    simpa using this
  have hlt : r.pos < r.l.length := by omega
  have hget : (r.l[r.pos]'hlt) = UInt8.ofNat s.length := by
    have := congrArg (fun l => l[0]?) hr
    simp only [List.getElem?_drop, List.getElem?_cons_zero, Nat.add_zero, List.getElem?_eq_getElem hlt] at this
    exact Option.some.inj this
  obtain ⟨g, o, hA, hg, hcell⟩ := h.rb.get hlt
  subst hA
  rw [hget] at hcell
  obtain ⟨x, hx⟩ : ∃ x, x = s.length := ⟨_, rfl⟩
  have hbx : bv (UInt8.ofNat s.length) = .int .u8 (x : Int) := by rw [hx, bv, UInt8.toNat_ofNat', Nat.mod_eq_of_lt (by omega)]
  have hcx : w.cell? ⟨g, o + r.pos, none⟩ = some (.int .u8 (x : Int)) := hcell.trans (congrArg some hbx)
  obtain ⟨lf, hlf⟩ : ∃ lf, lf = r.left := ⟨_, rfl⟩
  obtain ⟨lm, hlm⟩ : ∃ lm, lm = lf - 1 := ⟨_, rfl⟩
  have hle : r.left = s.length + rest.length + 1 := hlen
  have HM := Lib.hid h
  have K14 : Hid (lf ≠ 0) := Lib.hid <| by rw [hlf, hle]; omega
  have K18 : Hid (IntKind.i64.wrap ((lf : Int) - 1) = (lm : Int)) := Lib.hid <| by rw [IntKind.wrap_i64]; rw [hlm, hlf, hle]; omega
  have K27 : Hid (r.pos < r.l.length) := Lib.hid hlt
  have K29 : Hid (x ≤ 255) := Lib.hid <| by omega
  have K29b : Hid (IntKind.i64.wrap (x : Int) = (x : Int)) := Lib.hid <| by rw [IntKind.wrap_i64]; omega
  have K30b : Hid (x ≤ lm) := Lib.hid <| by rw [hlm, hlf, hle, hx]; omega
  have K30 : Hid (¬ (lm : Int) < (x : Int)) := Lib.hid <| by rw [hlm, hlf, hle, hx]; omega
  have hbl := h.blk.lt
  have M0 : Hid (∀ w', Below w.heap.size w w' → w'.cell? ⟨b, 0, none⟩ = some (.slice (some ⟨g, o, none⟩) r.l.length c)) := fun w' hb => (hb.cell (p := ⟨b, 0, none⟩) HM.out.blk.lt).trans (HM.out.blk.cell rfl)
  have M1 : Hid (∀ w', Below w.heap.size w w' → w'.cell? ⟨b, 1, none⟩ = some (.int .i64 (r.pos : Int))) := fun w' hb => (hb.cell (p := ⟨b, 1, none⟩) HM.out.blk.lt).trans (HM.out.blk.cell rfl)
  have M2 : Hid (∀ w', Below w.heap.size w w' → w'.cell? ⟨g, o + r.pos, none⟩ = some (.int .u8 (x : Int))) := fun w' hb => (hb.cell (p := ⟨g, o + r.pos, none⟩) (Nat.lt_trans hg hbl)).trans hcx
  have LF : Hid (∀ (L : Nat → Bool) (w' : World), Below w.heap.size w w' → ∀ {i : Nat}, L i = false → Calls Tryd.prog 18 #[.pointer (some ⟨b, 0, none⟩)] w' fun e w'' => ∃ v, e = .returned v ∧ v = .int .i64 (lf : Int) ∧ Below w.heap.size w w'') := Lib.hid fun L w' hb i _ => by
    refine (left_calls w' b _ c r (HM.out.below hb hbl) h8).mono ?_
    rintro e w'' ⟨rfl, rfl⟩
    exact ⟨_, rfl, by rw [hlf], hb.drew⟩
  have HT1 : Hid (r.take 1 = ({ r with pos := r.pos + 1 }, some [UInt8.ofNat s.length])) := Lib.hid <| by
    unfold Rdr.take
    rw [if_neg (by simpa using hc), if_neg (by rw [hle]; omega), hr]
    rfl
  have HT2 : Hid ((Rdr.mk r.l (r.pos + 1) r.code).take x = (Rdr.mk r.l (r.pos + 1 + s.length) r.code, some s)) := Lib.hid <| by
    rw [hx]
    unfold Rdr.take
    rw [if_neg (by simpa using hc), if_neg (by show ¬ r.l.length - (r.pos + 1) < s.length; omega)]
    show (_, some ((r.l.drop (r.pos + 1)).take s.length)) = _
    have : r.l.drop (r.pos + 1) = s ++ rest := by rw [← List.drop_drop, hr]; rfl
    rw [this, List.take_left']
    rfl
  have HX := Lib.hid hx
  have HBX := Lib.hid hbx
  have HJ0 : Hid (Below w.heap.size w w.drew) := Lib.hid ((Below.refl w.heap.size w).drew)
  clear hr hlen hlt hget hcell hcx hlf hlm hle h hx hbx hg hc hbl
  go_enter Tryd.func20, Tryd.ntmps20
  go_wp2_with fail
  refine region_vals [.pointer (some ⟨b, 0, none⟩), .int .i64 (lf : Int), .bool false, .bool false, .pointer (some ⟨b, 0, none⟩), .int .i64 (lf : Int), .int .i64 (lm : Int), .pointer (some ⟨b, 0, none⟩), .pointer (some ⟨b, 0, none⟩), .pointer (some ⟨b, 0, none⟩), .slice (some ⟨g, o, none⟩) r.l.length c, .pointer (some ⟨b, 0, none⟩), .pointer (some ⟨b, 0, none⟩), .pointer (some ⟨b, 1, none⟩), .int .i64 (r.pos : Int), .pointer (some ⟨g, o + r.pos, none⟩), .int .u8 (x : Int), .int .i64 (x : Int), .bool false, .bool false] [some 12, some 13, some 14, some 15, some 16, some 17, some 18, some 19, some 20, some 21, some 22, some 23, some 24, some 25, some 26, some 27, some 28, some 29, some 30, some 31] (fun _ w' => Below w.heap.size w w') (by kernel_rfl) (by kernel_rfl) (by kernel_rfl) rfl rfl HJ0.out (fun ii hii => ?_) ?_
  · match ii, hii with
    | 0, _ => exact vstep_first rfl (vwant_none rfl) (fun _ _ h => h) 0 (Or.inl rfl) (by kernel_rfl) rfl
    | 1, _ => exact vstep_call rfl (vwant_none rfl) _ _ _ rfl (enters_of Tryd.func18 (by kernel_rfl) rfl) (fun LL aa ww cc => by have e0 : aa.tmps.getD 12 undef = .pointer (some ⟨b, 0, none⟩) := cc.slot 0 12 (by kernel_rfl) rfl; simp only [List.map_toArray, List.map_cons, List.map_nil, Act.eval, e0]; exact (LF.out) LL ww cc.world cc.fresh)
    | 2, _ => exact vstep_pure rfl (vwant_none rfl) (fun _ _ h => h) (fun LL aa ww cc => ⟨.bool false, by have e0 : aa.tmps.getD 13 undef = .int .i64 (lf : Int) := cc.slot 1 13 (by kernel_rfl) rfl; have k := K14.out; have k2 : ¬ (lf : Int) = 0 := (by omega); simp only [execOp, Act.eval, e0]; go_simp, rfl⟩)
    | 3, _ => exact vstep_copy rfl (vwant_none rfl) (fun _ _ h => h) 14 (Or.inl rfl) 2 (by kernel_rfl) rfl (fun _ h => h)
    | 4, _ => exact vstep_first rfl (vwant 3 false 15 rfl (by kernel_rfl) rfl (fun _ h => h) (by kernel_rfl)) (fun _ _ h => h) 0 (Or.inl rfl) (by kernel_rfl) rfl
    | 5, _ => exact vstep_call rfl (vwant 3 false 15 rfl (by kernel_rfl) rfl (fun _ h => h) (by kernel_rfl)) _ _ _ rfl (enters_of Tryd.func18 (by kernel_rfl) rfl) (fun LL aa ww cc => by have e0 : aa.tmps.getD 16 undef = .pointer (some ⟨b, 0, none⟩) := cc.slot 4 16 (by kernel_rfl) rfl; simp only [List.map_toArray, List.map_cons, List.map_nil, Act.eval, e0]; exact (LF.out) LL ww cc.world cc.fresh)
    | 6, _ => exact vstep_pure rfl (vwant 3 false 15 rfl (by kernel_rfl) rfl (fun _ h => h) (by kernel_rfl)) (fun _ _ h => h) (fun LL aa ww cc => ⟨.int .i64 (lm : Int), by have e0 : aa.tmps.getD 17 undef = .int .i64 (lf : Int) := cc.slot 5 17 (by kernel_rfl) rfl; have k := K18.out; simp only [execOp, Act.eval, e0]; go_simp, rfl⟩)
    | 7, _ => exact vstep_first rfl (vwant 3 false 15 rfl (by kernel_rfl) rfl (fun _ h => h) (by kernel_rfl)) (fun _ _ h => h) 0 (Or.inl rfl) (by kernel_rfl) rfl
    | 8, _ => exact vstep_pure rfl (vwant 3 false 15 rfl (by kernel_rfl) rfl (fun _ h => h) (by kernel_rfl)) (fun _ _ h => h) (fun LL aa ww cc => ⟨.pointer (some ⟨b, 0, none⟩), by have e0 : aa.tmps.getD 19 undef = .pointer (some ⟨b, 0, none⟩) := cc.slot 7 19 (by kernel_rfl) rfl; simp only [execOp, Act.eval, e0]; go_simp, rfl⟩)
    | 9, _ => exact vstep_pure rfl (vwant 3 false 15 rfl (by kernel_rfl) rfl (fun _ h => h) (by kernel_rfl)) (fun _ _ h => h) (fun LL aa ww cc => ⟨.pointer (some ⟨b, 0, none⟩), by have e0 : aa.tmps.getD 20 undef = .pointer (some ⟨b, 0, none⟩) := cc.slot 8 20 (by kernel_rfl) rfl; simp only [execOp, Act.eval, e0]; go_simp, rfl⟩)
    | 10, _ => exact vstep_pure rfl (vwant 3 false 15 rfl (by kernel_rfl) rfl (fun _ h => h) (by kernel_rfl)) (fun _ _ h => h) (fun LL aa ww cc => ⟨.slice (some ⟨g, o, none⟩) r.l.length c, by have e0 : aa.tmps.getD 21 undef = .pointer (some ⟨b, 0, none⟩) := cc.slot 9 21 (by kernel_rfl) rfl; have m := M0.out _ cc.world; simp only [execOp, Act.eval, e0]; go_simp, rfl⟩)
    | 11, _ => exact vstep_first rfl (vwant 3 false 15 rfl (by kernel_rfl) rfl (fun _ h => h) (by kernel_rfl)) (fun _ _ h => h) 0 (Or.inl rfl) (by kernel_rfl) rfl
    | 12, _ => exact vstep_pure rfl (vwant 3 false 15 rfl (by kernel_rfl) rfl (fun _ h => h) (by kernel_rfl)) (fun _ _ h => h) (fun LL aa ww cc => ⟨.pointer (some ⟨b, 0, none⟩), by have e0 : aa.tmps.getD 23 undef = .pointer (some ⟨b, 0, none⟩) := cc.slot 11 23 (by kernel_rfl) rfl; simp only [execOp, Act.eval, e0]; go_simp, rfl⟩)
    | 13, _ => exact vstep_pure rfl (vwant 3 false 15 rfl (by kernel_rfl) rfl (fun _ h => h) (by kernel_rfl)) (fun _ _ h => h) (fun LL aa ww cc => ⟨.pointer (some ⟨b, 1, none⟩), by have e0 : aa.tmps.getD 24 undef = .pointer (some ⟨b, 0, none⟩) := cc.slot 12 24 (by kernel_rfl) rfl; simp only [execOp, Act.eval, e0]; go_simp, rfl⟩)
    | 14, _ => exact vstep_pure rfl (vwant 3 false 15 rfl (by kernel_rfl) rfl (fun _ h => h) (by kernel_rfl)) (fun _ _ h => h) (fun LL aa ww cc => ⟨.int .i64 (r.pos : Int), by have e0 : aa.tmps.getD 25 undef = .pointer (some ⟨b, 1, none⟩) := cc.slot 13 25 (by kernel_rfl) rfl; have m := M1.out _ cc.world; simp only [execOp, Act.eval, e0]; go_simp, rfl⟩)
    | 15, _ => exact vstep_pure rfl (vwant 3 false 15 rfl (by kernel_rfl) rfl (fun _ h => h) (by kernel_rfl)) (fun _ _ h => h) (fun LL aa ww cc => ⟨.pointer (some ⟨g, o + r.pos, none⟩), by have e0 : aa.tmps.getD 22 undef = .slice (some ⟨g, o, none⟩) r.l.length c := cc.slot 10 22 (by kernel_rfl) rfl; have e1 : aa.tmps.getD 26 undef = .int .i64 (r.pos : Int) := cc.slot 14 26 (by kernel_rfl) rfl; have k := K27.out; simp only [execOp, Act.eval, e0, e1]; go_simp, rfl⟩)
    | 16, _ => exact vstep_pure rfl (vwant 3 false 15 rfl (by kernel_rfl) rfl (fun _ h => h) (by kernel_rfl)) (fun _ _ h => h) (fun LL aa ww cc => ⟨.int .u8 (x : Int), by have e0 : aa.tmps.getD 27 undef = .pointer (some ⟨g, o + r.pos, none⟩) := cc.slot 15 27 (by kernel_rfl) rfl; have m := M2.out _ cc.world; simp only [execOp, Act.eval, e0]; go_simp, rfl⟩)
    | 17, _ => exact vstep_pure rfl (vwant 3 false 15 rfl (by kernel_rfl) rfl (fun _ h => h) (by kernel_rfl)) (fun _ _ h => h) (fun LL aa ww cc => ⟨.int .i64 (x : Int), by have e0 : aa.tmps.getD 28 undef = .int .u8 (x : Int) := cc.slot 16 28 (by kernel_rfl) rfl; have k := K29b.out; simp only [execOp, Act.eval, e0]; go_simp, rfl⟩)
    | 18, _ => exact vstep_pure rfl (vwant 3 false 15 rfl (by kernel_rfl) rfl (fun _ h => h) (by kernel_rfl)) (fun _ _ h => h) (fun LL aa ww cc => ⟨.bool false, by have e0 : aa.tmps.getD 18 undef = .int .i64 (lm : Int) := cc.slot 6 18 (by kernel_rfl) rfl; have e1 : aa.tmps.getD 29 undef = .int .i64 (x : Int) := cc.slot 17 29 (by kernel_rfl) rfl; have k := K30b.out; simp only [execOp, Act.eval, e0, e1]; go_simp, rfl⟩)
    | 19, _ => exact vstep_pure rfl (vwant_none rfl) (fun _ _ h => h) (fun LL aa ww cc => ⟨.bool false, by have e0 : aa.tmps.getD 15 undef = .bool false := cc.slot 3 15 (by kernel_rfl) rfl; have e1 : aa.tmps.getD 30 undef = .bool false := cc.slot 18 30 (by kernel_rfl) rfl; simp only [execOp, Act.eval, e0, e1]; go_simp, rfl⟩)
    | n + 20, h => exact absurd h (by show ¬ (n + 20 < 20); omega)
  · intro L0 w5 hall hJ
    have hJ' : Below w.heap.size w w5 := hJ
    have HB5 := Lib.hid hJ'
    have HM5 : Hid (RdM w5 b (some ⟨g, o, none⟩) c r) := HM.out.below hJ' HM.out.blk.lt
    clear hJ hJ' hall M0 M1 M2 LF HJ0 K14 K18 K27 K30 c2
    refine (by assumption : ∀ (a : Act) (w : World), Code.wp _ _ _ a w → _) _ _ ?_
    simp only [List.zip_cons_cons, List.zip_nil_right, putsL]
    go_simp
    go_wp2_with fail
    refine (take_calls w5 b (some ⟨g, o, none⟩) c r HM5.out h8 1 (by omega)).mono ?_
    rintro e w6 ⟨hv, hm6, hg6⟩
    rw [HT1.out] at hv hm6
    obtain ⟨A6, c6, rfl, hc6, hr6⟩ := hv
    obtain ⟨g6, o6, hA6, hgb, hcell6⟩ := hr6.get (k := 0) (by simp)
    subst hA6
    have c6' : w6.cell? ⟨g6, o6, none⟩ = some (.int .u8 (x : Int)) := hcell6.trans (congrArg some HBX.out)
    have HM6 : Hid (RdM w6 b (some ⟨g, o, none⟩) c ⟨r.l, r.pos + 1, r.code⟩) := Lib.hid hm6
    have HG6 := Lib.hid hg6
    have k29 := K29.out
    clear hm6 hg6 hcell6 hgb hc6 hr6 HM5
    go_wp2_with fail
    refine (take_calls w6 b (some ⟨g, o, none⟩) c ⟨r.l, r.pos + 1, r.code⟩ HM6.out h8 x (by omega)).mono ?_
    rintro e w7 ⟨hv, hm7, hg7⟩
    rw [HT2.out] at hv hm7
    obtain ⟨A7, c7, rfl, hc7, hr7⟩ := hv
    have HM7 := Lib.hid hm7
    have HG7 := Lib.hid hg7
    have r1 := run_conv w7 hr7 s.length c7 rfl
    clear hm7 hg7 hr7 hc7 HM6 c6'
    go_wp2
    go_ret
    refine ⟨rfl, HM7.out, ?_⟩
    have g1 : w.grownBy w5 (some b) := ⟨HB5.out.os, HB5.out.tape, HB5.out.output, HB5.out.size, fun k hk _ => HB5.out.block k hk⟩
    exact (g1.trans HG6.out).trans HG7.out
end Go.Proofs.YtpbalgnfeabhgaaDoor
