/- Bundle 4 of the texts GFx2, MonoL. -/
import Derived.Test.YtiebpmpjclnpeaaDoorGb3
import Derived.Test.YtiebpmpjclnpeaaDoorGb1
/- What derives a text. -/
namespace Nac.Gram
def deriveB (F : Fx) (l : List Sgn) : Bool := l.all fun x => if x.name < 0 then decide (x.low ≤ x.high) else F.text.getD x.name.toNat false
theorem derive_drop {F : Fx} {l : List Sgn} {i : Nat} (h : i < l.length) : deriveB F (l.drop i) = ((if l[i].name < 0 then decide (l[i].low ≤ l[i].high) else F.text.getD l[i].name.toNat false) && deriveB F (l.drop (i + 1))) := by
  rw [List.drop_eq_getElem_cons h]; rfl
end Nac.Gram
namespace Go.Proofs.YtiebpmpjclnpeaaDoor
open Go.RowKit Nac Nac.Gram
set_option maxRecDepth 100000 in
set_option maxHeartbeats 1000000 in
theorem derives_calls (w : World) (F : Fx) (bf : Nat) (A : Option Addr) (c : Nat) (l : List Sgn) (hF : F.Ok) (hf : Blk w bf (fcells F)) (hl : RS w w.heap.size A l) (hn : ∀ x ∈ l, x.name < 16) (hm : l.length ≤ 9223372036854775807) :
    Calls Tryd.prog 40 #[.pointer (some ⟨bf, 0, none⟩), .slice A l.length c] w (RetG w (.bool (deriveB F l))) := by
  have HF := Lib.hid hF
  have HBF := Lib.hid hf
  have HL := Lib.hid hl
  have HN := Lib.hid hn
  have HM := Lib.hid hm
  obtain ⟨L, hL⟩ : ∃ L, L = l.length := ⟨_, rfl⟩
  have HLL := Lib.hid hL
  rw [← hL] at hm ⊢
  clear hF hf hl hn hL
  go_enter Tryd.func40, Tryd.ntmps40
  go_wp2
  go_loopw [9] (fun s9 wr => ∃ i : Nat, i ≤ L ∧ s9 = .int .i64 (i : Int) ∧ Below w.heap.size w wr ∧ deriveB F l = deriveB F (l.drop i)) (fun s9 _ => L - (intOf s9).toNat)
  case atStart => exact ⟨0, Nat.zero_le _, rfl, Below.refl _ _, rfl⟩
  case round =>
    obtain ⟨i, hi, rfl, hr, hv⟩ := hrel
    have HR := Lib.hid hr
    have HV := Lib.hid hv
    clear hr hv
    by_cases hlt : i < L
    · have hil : i < l.length := by rw [← HLL.out]; exact hlt
      obtain ⟨g, k, hA, hgB, hgs, hrow⟩ := HL.out (by rintro rfl; simp at hil)
      subst hA
      obtain ⟨x, hx⟩ : ∃ x, x = l[i] := ⟨_, rfl⟩
      have HXI : Hid (∃ h : i < l.length, x = l[i]) := Lib.hid ⟨hil, hx⟩
      have HRG : Hid (wr.rangeAt g (k + i * 3) (sgv x)) := Lib.hid (range_below (by rw [hx]; exact hrow i hil) HR.out hgB)
      have hxn : x.name < 16 := HN.out x (by rw [hx]; exact List.getElem_mem hil)
      clear hx hrow hgB hgs hil
      go_wp2_with (first
        | ((with_reducible show wpList _ _ _ (Oper.mk _ (Op.load 88 _) _ _ _ _ :: _) _ _); refine wpList_loadM sSgn rfl _ rfl g (k + i * 3) (sgv x) rfl HRG.out rfl ?_)
        | ((with_reducible show wpList _ _ _ (Oper.mk _ (Op.alloc 88) _ _ _ _ :: _) _ _); refine wpList_allocS _ zSgn rfl rfl ?_)
        | fail)
      intro w2 hb2 hg2 hs2
      obtain ⟨b6, hb6⟩ : ∃ b, b = wr.heap.size := ⟨_, rfl⟩
      rw [← hb6] at hb2 ⊢
      have HB2 := Lib.hid hb2
      have HG2 : Hid (Below w.heap.size w w2 ∧ w.heap.size ≤ b6) := Lib.hid ⟨below_trans HR.out (grown_below hg2 HR.out.size fun k e => by cases e), by have := HR.out.size; omega⟩
      clear hs2 hb2 hg2 hb6 HRG
      go_wp2_with (first
        | ((with_reducible show wpList _ _ _ (Oper.mk _ (Op.store 88 _ _) _ _ _ _ :: _) _ _); refine wpList_storeS sSgn rfl _ _ rfl b6 (sgv ⟨0, 0, 0⟩) (sgv x) rfl rfl HB2.out rfl rfl (sgv_one _) ?_)
        | fail)
      intro w3 hb3 hg3
      have HG3 : Hid (Below w.heap.size w w3) := Lib.hid (below_trans HG2.out.1 (grown_below hg3 HG2.out.1.size fun k e => by injection e with e; have := HG2.out.2; omega))
      have HB3 := Lib.hid hb3
      have HBF3 : Hid (Blk w3 bf (fcells F)) := Lib.hid (HBF.out.below HG3.out HBF.out.lt)
      clear hb3 hg3 HB2 HG2
      obtain ⟨nm, hnm⟩ : ∃ nm, nm = x.name := ⟨_, rfl⟩
      have HNM := Lib.hid hnm
      have M1 : Hid (∀ w', Below w3.heap.size w3 w' → w'.cell? ⟨b6, 0, none⟩ = some (.int .i64 nm)) := Lib.hid fun w' hb => (HB3.out.below hb HB3.out.lt).cell (by rw [hnm]; rfl)
      obtain ⟨hxi, hxe⟩ := HXI.out
      have hvd := derive_drop (F := F) hxi
      rw [← hxe, ← hnm] at hvd
      by_cases hneg : nm < 0
      · have QN : Hid (nm < 0) := Lib.hid hneg
        obtain ⟨lo, hlo⟩ : ∃ lo, lo = x.low := ⟨_, rfl⟩
        obtain ⟨hh, hhh⟩ : ∃ hh, hh = x.high := ⟨_, rfl⟩
        have ML : Hid (∀ w', Below w3.heap.size w3 w' → w'.cell? ⟨b6, 1, none⟩ = some (.int .u8 (lo : Int))) := Lib.hid fun w' hb => (HB3.out.below hb HB3.out.lt).cell (by rw [hlo]; rfl)
        have MH : Hid (∀ w', Below w3.heap.size w3 w' → w'.cell? ⟨b6, 2, none⟩ = some (.int .u8 (hh : Int))) := Lib.hid fun w' hb => (HB3.out.below hb HB3.out.lt).cell (by rw [hhh]; rfl)
        rw [if_pos hneg, ← hlo, ← hhh] at hvd
        clear hlo hhh
        by_cases hlh : lo ≤ hh
        · have QC : Hid (¬ hh < lo) := Lib.hid (by omega)
          have HE : Hid (deriveB F l = deriveB F (l.drop (i + 1))) := Lib.hid (by rw [HV.out, hvd, decide_eq_true hlh]; rfl)
          clear hnm hneg hxn hxi hxe hvd HXI hlh
          go_wp2_with fail
          refine region_vals [.pointer (some ⟨b6, 0, none⟩), .int .i64 nm, .bool true, .bool true, .pointer (some ⟨b6, 1, none⟩), .int .u8 (lo : Int), .pointer (some ⟨b6, 2, none⟩), .int .u8 (hh : Int), .bool false, .bool false, .bool false, .pointer (some ⟨b6, 0, none⟩), .int .i64 nm, .bool false, .bool false, undef, undef, undef, undef, undef, undef, undef, undef, .bool false, .bool false] [some 13, some 14, some 15, some 16, some 17, some 18, some 19, some 20, some 21, some 22, some 23, some 24, some 25, some 26, some 27, some 28, some 29, some 30, some 31, some 32, some 33, some 34, some 35, some 36, some 37] (fun _ w' => Below w3.heap.size w3 w') (by kernel_rfl) (by kernel_rfl) (by kernel_rfl) rfl rfl (Below.refl _ _).drew (fun ii hii => ?_) ?_
          · match ii, hii with
            | 0, _ => exact vstep_pure rfl (vwant_none rfl) (fun _ _ h => h) (fun LL aa ww cc => ⟨.pointer (some ⟨b6, 0, none⟩), by have e0 : aa.tmps.getD 6 undef = .pointer (some ⟨b6, 0, none⟩) := (cc.orig 6 (by kernel_rfl)).trans rfl; simp only [execOp, Act.eval, e0]; go_simp, rfl⟩)
            | 1, _ => exact vstep_pure rfl (vwant_none rfl) (fun _ _ h => h) (fun LL aa ww cc => ⟨.int .i64 nm, by have e0 : aa.tmps.getD 13 undef = .pointer (some ⟨b6, 0, none⟩) := cc.slot 0 13 (by kernel_rfl) rfl; have m := M1.out _ cc.world; simp only [execOp, Act.eval, e0]; go_simp, rfl⟩)
            | 2, _ => exact vstep_pure rfl (vwant_none rfl) (fun _ _ h => h) (fun LL aa ww cc => ⟨.bool true, by have e0 : aa.tmps.getD 14 undef = .int .i64 nm := cc.slot 1 14 (by kernel_rfl) rfl; have q := QN.out; simp only [execOp, Act.eval, e0]; go_simp, rfl⟩)
            | 3, _ => exact vstep_copy rfl (vwant_none rfl) (fun _ _ h => h) 15 (Or.inl rfl) 2 (by kernel_rfl) rfl (fun _ h => h)
            | 4, _ => exact vstep_pure rfl (vwant 3 true 16 rfl (by kernel_rfl) rfl (fun _ h => h) (by kernel_rfl)) (fun _ _ h => h) (fun LL aa ww cc => ⟨.pointer (some ⟨b6, 1, none⟩), by have e0 : aa.tmps.getD 6 undef = .pointer (some ⟨b6, 0, none⟩) := (cc.orig 6 (by kernel_rfl)).trans rfl; simp only [execOp, Act.eval, e0]; go_simp, rfl⟩)
            | 5, _ => exact vstep_pure rfl (vwant 3 true 16 rfl (by kernel_rfl) rfl (fun _ h => h) (by kernel_rfl)) (fun _ _ h => h) (fun LL aa ww cc => ⟨.int .u8 (lo : Int), by have e0 : aa.tmps.getD 17 undef = .pointer (some ⟨b6, 1, none⟩) := cc.slot 4 17 (by kernel_rfl) rfl; have m := ML.out _ cc.world; simp only [execOp, Act.eval, e0]; go_simp, rfl⟩)
            | 6, _ => exact vstep_pure rfl (vwant 3 true 16 rfl (by kernel_rfl) rfl (fun _ h => h) (by kernel_rfl)) (fun _ _ h => h) (fun LL aa ww cc => ⟨.pointer (some ⟨b6, 2, none⟩), by have e0 : aa.tmps.getD 6 undef = .pointer (some ⟨b6, 0, none⟩) := (cc.orig 6 (by kernel_rfl)).trans rfl; simp only [execOp, Act.eval, e0]; go_simp, rfl⟩)
            | 7, _ => exact vstep_pure rfl (vwant 3 true 16 rfl (by kernel_rfl) rfl (fun _ h => h) (by kernel_rfl)) (fun _ _ h => h) (fun LL aa ww cc => ⟨.int .u8 (hh : Int), by have e0 : aa.tmps.getD 19 undef = .pointer (some ⟨b6, 2, none⟩) := cc.slot 6 19 (by kernel_rfl) rfl; have m := MH.out _ cc.world; simp only [execOp, Act.eval, e0]; go_simp, rfl⟩)
            | 8, _ => exact vstep_pure rfl (vwant 3 true 16 rfl (by kernel_rfl) rfl (fun _ h => h) (by kernel_rfl)) (fun _ _ h => h) (fun LL aa ww cc => ⟨.bool false, by have e0 : aa.tmps.getD 18 undef = .int .u8 (lo : Int) := cc.slot 5 18 (by kernel_rfl) rfl; have e1 : aa.tmps.getD 20 undef = .int .u8 (hh : Int) := cc.slot 7 20 (by kernel_rfl) rfl; have q := QC.out; simp only [execOp, Act.eval, e0, e1]; go_simp, rfl⟩)
            | 9, _ => exact vstep_pure rfl (vwant_none rfl) (fun _ _ h => h) (fun LL aa ww cc => ⟨.bool false, by have e0 : aa.tmps.getD 16 undef = .bool true := cc.slot 3 16 (by kernel_rfl) rfl; have e1 : aa.tmps.getD 21 undef = .bool false := cc.slot 8 21 (by kernel_rfl) rfl; simp only [execOp, Act.eval, e0, e1]; go_simp, rfl⟩)
            | 10, _ => exact vstep_copy rfl (vwant_none rfl) (fun _ _ h => h) 22 (Or.inl rfl) 9 (by kernel_rfl) rfl (fun _ h => h)
            | 11, _ => exact vstep_pure rfl (vwant 10 false 23 rfl (by kernel_rfl) rfl (fun _ h => h) (by kernel_rfl)) (fun _ _ h => h) (fun LL aa ww cc => ⟨.pointer (some ⟨b6, 0, none⟩), by have e0 : aa.tmps.getD 6 undef = .pointer (some ⟨b6, 0, none⟩) := (cc.orig 6 (by kernel_rfl)).trans rfl; simp only [execOp, Act.eval, e0]; go_simp, rfl⟩)
            | 12, _ => exact vstep_pure rfl (vwant 10 false 23 rfl (by kernel_rfl) rfl (fun _ h => h) (by kernel_rfl)) (fun _ _ h => h) (fun LL aa ww cc => ⟨.int .i64 nm, by have e0 : aa.tmps.getD 24 undef = .pointer (some ⟨b6, 0, none⟩) := cc.slot 11 24 (by kernel_rfl) rfl; have m := M1.out _ cc.world; simp only [execOp, Act.eval, e0]; go_simp, rfl⟩)
            | 13, _ => exact vstep_pure rfl (vwant 10 false 23 rfl (by kernel_rfl) rfl (fun _ h => h) (by kernel_rfl)) (fun _ _ h => h) (fun LL aa ww cc => ⟨.bool false, by have e0 : aa.tmps.getD 25 undef = .int .i64 nm := cc.slot 12 25 (by kernel_rfl) rfl; have q := QN.out; simp only [execOp, Act.eval, e0]; go_simp, rfl⟩)
            | 14, _ => exact vstep_copy rfl (vwant 10 false 23 rfl (by kernel_rfl) rfl (fun _ h => h) (by kernel_rfl)) (fun _ _ h => h) 26 (Or.inl rfl) 13 (by kernel_rfl) rfl (fun _ h => h)
            | 15, _ => exact vstep_unwanted rfl 14 true 27 rfl (by kernel_rfl) rfl (fun _ h => Or.inl h) (by kernel_rfl) rfl (fun _ _ h => h)
            | 16, _ => exact vstep_unwanted rfl 14 true 27 rfl (by kernel_rfl) rfl (fun _ h => Or.inl h) (by kernel_rfl) rfl (fun _ _ h => h)
            | 17, _ => exact vstep_unwanted rfl 14 true 27 rfl (by kernel_rfl) rfl (fun _ h => Or.inl h) (by kernel_rfl) rfl (fun _ _ h => h)
            | 18, _ => exact vstep_unwanted rfl 14 true 27 rfl (by kernel_rfl) rfl (fun _ h => Or.inl h) (by kernel_rfl) rfl (fun _ _ h => h)
            | 19, _ => exact vstep_unwanted rfl 14 true 27 rfl (by kernel_rfl) rfl (fun _ h => Or.inl h) (by kernel_rfl) rfl (fun _ _ h => h)
            | 20, _ => exact vstep_unwanted rfl 14 true 27 rfl (by kernel_rfl) rfl (fun _ h => Or.inl h) (by kernel_rfl) rfl (fun _ _ h => h)
            | 21, _ => exact vstep_unwanted rfl 14 true 27 rfl (by kernel_rfl) rfl (fun _ h => Or.inl h) (by kernel_rfl) rfl (fun _ _ h => h)
            | 22, _ => exact vstep_unwanted rfl 14 true 27 rfl (by kernel_rfl) rfl (fun _ h => Or.inl h) (by kernel_rfl) rfl (fun _ _ h => h)
            | 23, _ => exact vstep_pure rfl (vwant 10 false 23 rfl (by kernel_rfl) rfl (fun _ h => h) (by kernel_rfl)) (fun _ _ h => h) (fun LL aa ww cc => ⟨.bool false, by have e0 : aa.tmps.getD 27 undef = .bool false := cc.slot 14 27 (by kernel_rfl) rfl; simp only [execOp, Act.eval, e0]; go_simp, rfl⟩)
            | 24, _ => exact vstep_pure rfl (vwant_none rfl) (fun _ _ h => h) (fun LL aa ww cc => ⟨.bool false, by have e0 : aa.tmps.getD 23 undef = .bool false := cc.slot 10 23 (by kernel_rfl) rfl; have e1 : aa.tmps.getD 36 undef = .bool false := cc.slot 23 36 (by kernel_rfl) rfl; simp only [execOp, Act.eval, e0, e1]; go_simp, rfl⟩)
            | n + 25, h => exact absurd h (by show ¬ (n + 25 < 25); omega)
          · intro L9 w6 _ hj6
            have HJ6 : Hid (Below w.heap.size w w6) := Lib.hid (below_trans HG3.out (hj6.mono HG3.out.size))
            clear hj6
            refine (by assumption : ∀ (a : Act) (w : World), Code.wp _ _ _ a w → _) _ _ ?_
            simp only [List.zip_cons_cons, List.zip_nil_right, putsL]
            go_simp
            go_wp2
            go_roundw
            case rel => exact ⟨i + 1, by omega, by go_num, HJ6.out, HE.out⟩
            case measure => simp [intOf]; omega
        · have QC : Hid (hh < lo) := Lib.hid (by omega)
          have HE : Hid (deriveB F l = false) := Lib.hid (by rw [HV.out, hvd, decide_eq_false hlh]; rfl)
          clear hnm hneg hxn hxi hxe hvd HXI hlh
          go_wp2_with fail
          refine region_vals [.pointer (some ⟨b6, 0, none⟩), .int .i64 nm, .bool true, .bool true, .pointer (some ⟨b6, 1, none⟩), .int .u8 (lo : Int), .pointer (some ⟨b6, 2, none⟩), .int .u8 (hh : Int), .bool true, .bool true, .bool true, undef, undef, undef, undef, undef, undef, undef, undef, undef, undef, undef, undef, undef, .bool true] [some 13, some 14, some 15, some 16, some 17, some 18, some 19, some 20, some 21, some 22, some 23, some 24, some 25, some 26, some 27, some 28, some 29, some 30, some 31, some 32, some 33, some 34, some 35, some 36, some 37] (fun _ w' => Below w3.heap.size w3 w') (by kernel_rfl) (by kernel_rfl) (by kernel_rfl) rfl rfl (Below.refl _ _).drew (fun ii hii => ?_) ?_
          · match ii, hii with
            | 0, _ => exact vstep_pure rfl (vwant_none rfl) (fun _ _ h => h) (fun LL aa ww cc => ⟨.pointer (some ⟨b6, 0, none⟩), by have e0 : aa.tmps.getD 6 undef = .pointer (some ⟨b6, 0, none⟩) := (cc.orig 6 (by kernel_rfl)).trans rfl; simp only [execOp, Act.eval, e0]; go_simp, rfl⟩)
            | 1, _ => exact vstep_pure rfl (vwant_none rfl) (fun _ _ h => h) (fun LL aa ww cc => ⟨.int .i64 nm, by have e0 : aa.tmps.getD 13 undef = .pointer (some ⟨b6, 0, none⟩) := cc.slot 0 13 (by kernel_rfl) rfl; have m := M1.out _ cc.world; simp only [execOp, Act.eval, e0]; go_simp, rfl⟩)
            | 2, _ => exact vstep_pure rfl (vwant_none rfl) (fun _ _ h => h) (fun LL aa ww cc => ⟨.bool true, by have e0 : aa.tmps.getD 14 undef = .int .i64 nm := cc.slot 1 14 (by kernel_rfl) rfl; have q := QN.out; simp only [execOp, Act.eval, e0]; go_simp, rfl⟩)
            | 3, _ => exact vstep_copy rfl (vwant_none rfl) (fun _ _ h => h) 15 (Or.inl rfl) 2 (by kernel_rfl) rfl (fun _ h => h)
            | 4, _ => exact vstep_pure rfl (vwant 3 true 16 rfl (by kernel_rfl) rfl (fun _ h => h) (by kernel_rfl)) (fun _ _ h => h) (fun LL aa ww cc => ⟨.pointer (some ⟨b6, 1, none⟩), by have e0 : aa.tmps.getD 6 undef = .pointer (some ⟨b6, 0, none⟩) := (cc.orig 6 (by kernel_rfl)).trans rfl; simp only [execOp, Act.eval, e0]; go_simp, rfl⟩)
            | 5, _ => exact vstep_pure rfl (vwant 3 true 16 rfl (by kernel_rfl) rfl (fun _ h => h) (by kernel_rfl)) (fun _ _ h => h) (fun LL aa ww cc => ⟨.int .u8 (lo : Int), by have e0 : aa.tmps.getD 17 undef = .pointer (some ⟨b6, 1, none⟩) := cc.slot 4 17 (by kernel_rfl) rfl; have m := ML.out _ cc.world; simp only [execOp, Act.eval, e0]; go_simp, rfl⟩)
            | 6, _ => exact vstep_pure rfl (vwant 3 true 16 rfl (by kernel_rfl) rfl (fun _ h => h) (by kernel_rfl)) (fun _ _ h => h) (fun LL aa ww cc => ⟨.pointer (some ⟨b6, 2, none⟩), by have e0 : aa.tmps.getD 6 undef = .pointer (some ⟨b6, 0, none⟩) := (cc.orig 6 (by kernel_rfl)).trans rfl; simp only [execOp, Act.eval, e0]; go_simp, rfl⟩)
            | 7, _ => exact vstep_pure rfl (vwant 3 true 16 rfl (by kernel_rfl) rfl (fun _ h => h) (by kernel_rfl)) (fun _ _ h => h) (fun LL aa ww cc => ⟨.int .u8 (hh : Int), by have e0 : aa.tmps.getD 19 undef = .pointer (some ⟨b6, 2, none⟩) := cc.slot 6 19 (by kernel_rfl) rfl; have m := MH.out _ cc.world; simp only [execOp, Act.eval, e0]; go_simp, rfl⟩)
            | 8, _ => exact vstep_pure rfl (vwant 3 true 16 rfl (by kernel_rfl) rfl (fun _ h => h) (by kernel_rfl)) (fun _ _ h => h) (fun LL aa ww cc => ⟨.bool true, by have e0 : aa.tmps.getD 18 undef = .int .u8 (lo : Int) := cc.slot 5 18 (by kernel_rfl) rfl; have e1 : aa.tmps.getD 20 undef = .int .u8 (hh : Int) := cc.slot 7 20 (by kernel_rfl) rfl; have q := QC.out; simp only [execOp, Act.eval, e0, e1]; go_simp, rfl⟩)
            | 9, _ => exact vstep_pure rfl (vwant_none rfl) (fun _ _ h => h) (fun LL aa ww cc => ⟨.bool true, by have e0 : aa.tmps.getD 16 undef = .bool true := cc.slot 3 16 (by kernel_rfl) rfl; have e1 : aa.tmps.getD 21 undef = .bool true := cc.slot 8 21 (by kernel_rfl) rfl; simp only [execOp, Act.eval, e0, e1]; go_simp, rfl⟩)
            | 10, _ => exact vstep_copy rfl (vwant_none rfl) (fun _ _ h => h) 22 (Or.inl rfl) 9 (by kernel_rfl) rfl (fun _ h => h)
            | 11, _ => exact vstep_unwanted rfl 10 false 23 rfl (by kernel_rfl) rfl (fun _ h => Or.inl h) (by kernel_rfl) rfl (fun _ _ h => h)
            | 12, _ => exact vstep_unwanted rfl 10 false 23 rfl (by kernel_rfl) rfl (fun _ h => Or.inl h) (by kernel_rfl) rfl (fun _ _ h => h)
            | 13, _ => exact vstep_unwanted rfl 10 false 23 rfl (by kernel_rfl) rfl (fun _ h => Or.inl h) (by kernel_rfl) rfl (fun _ _ h => h)
            | 14, _ => exact vstep_unwanted rfl 10 false 23 rfl (by kernel_rfl) rfl (fun _ h => Or.inl h) (by kernel_rfl) rfl (fun _ _ h => h)
            | 15, _ => exact vstep_unwanted rfl 14 true 27 rfl (by kernel_rfl) rfl (fun _ h => Or.inr h) (by kernel_rfl) rfl (fun _ _ h => h)
            | 16, _ => exact vstep_unwanted rfl 14 true 27 rfl (by kernel_rfl) rfl (fun _ h => Or.inr h) (by kernel_rfl) rfl (fun _ _ h => h)
            | 17, _ => exact vstep_unwanted rfl 14 true 27 rfl (by kernel_rfl) rfl (fun _ h => Or.inr h) (by kernel_rfl) rfl (fun _ _ h => h)
            | 18, _ => exact vstep_unwanted rfl 14 true 27 rfl (by kernel_rfl) rfl (fun _ h => Or.inr h) (by kernel_rfl) rfl (fun _ _ h => h)
            | 19, _ => exact vstep_unwanted rfl 14 true 27 rfl (by kernel_rfl) rfl (fun _ h => Or.inr h) (by kernel_rfl) rfl (fun _ _ h => h)
            | 20, _ => exact vstep_unwanted rfl 14 true 27 rfl (by kernel_rfl) rfl (fun _ h => Or.inr h) (by kernel_rfl) rfl (fun _ _ h => h)
            | 21, _ => exact vstep_unwanted rfl 14 true 27 rfl (by kernel_rfl) rfl (fun _ h => Or.inr h) (by kernel_rfl) rfl (fun _ _ h => h)
            | 22, _ => exact vstep_unwanted rfl 14 true 27 rfl (by kernel_rfl) rfl (fun _ h => Or.inr h) (by kernel_rfl) rfl (fun _ _ h => h)
            | 23, _ => exact vstep_unwanted rfl 10 false 23 rfl (by kernel_rfl) rfl (fun _ h => Or.inl h) (by kernel_rfl) rfl (fun _ _ h => h)
            | 24, _ => exact vstep_pure rfl (vwant_none rfl) (fun _ _ h => h) (fun LL aa ww cc => ⟨.bool true, by have e0 : aa.tmps.getD 23 undef = .bool true := cc.slot 10 23 (by kernel_rfl) rfl; simp only [execOp, Act.eval, e0]; go_simp, rfl⟩)
            | n + 25, h => exact absurd h (by show ¬ (n + 25 < 25); omega)
          · intro L9 w6 _ hj6
            have HJ6 : Hid (Below w.heap.size w w6) := Lib.hid (below_trans HG3.out (hj6.mono HG3.out.size))
            clear hj6
            refine (by assumption : ∀ (a : Act) (w : World), Code.wp _ _ _ a w → _) _ _ ?_
            simp only [List.zip_cons_cons, List.zip_nil_right, putsL]
            go_simp
            go_wp2
            go_ret
            exact ⟨show Ending.returned (.bool false) = .returned (.bool (deriveB F l)) by rw [HE.out], HJ6.out⟩
      · obtain ⟨n, rfl⟩ := Int.eq_ofNat_of_zero_le (show 0 ≤ nm by omega)
        have hn16 : n < 16 := by omega
        have QN : Hid (¬ (n : Int) < 0) := Lib.hid hneg
        have QI : Hid (n < 16) := Lib.hid hn16
        have hc := fc_text HF.out hn16
        rw [if_neg hneg, Int.toNat_natCast] at hvd
        cases hnu : F.text.getD n false with
        | false =>
          rw [hnu] at hc hvd
          have M2 : Hid (∀ w', Below w3.heap.size w3 w' → w'.cell? ⟨bf, n, none⟩ = some (.bool false)) := Lib.hid fun w' hb => (HBF3.out.below hb HBF3.out.lt).cell hc
          have HE : Hid (deriveB F l = false) := Lib.hid (by rw [HV.out, hvd]; rfl)
          clear hnm hneg hxn hxi hxe hvd HXI hn16 hc hnu
          go_wp2_with fail
          refine region_vals [.pointer (some ⟨b6, 0, none⟩), .int .i64 (n : Int), .bool false, .bool false, undef, undef, undef, undef, undef, .bool false, .bool false, .pointer (some ⟨b6, 0, none⟩), .int .i64 (n : Int), .bool true, .bool true, .pointer (some ⟨bf, 0, none⟩), .pointer (some ⟨b6, 0, none⟩), .int .i64 (n : Int), .pointer (some ⟨bf, 0, none⟩), .pointer (some ⟨bf, 0, none⟩), .pointer (some ⟨bf, n, none⟩), .bool false, .bool true, .bool true, .bool true] [some 13, some 14, some 15, some 16, some 17, some 18, some 19, some 20, some 21, some 22, some 23, some 24, some 25, some 26, some 27, some 28, some 29, some 30, some 31, some 32, some 33, some 34, some 35, some 36, some 37] (fun _ w' => Below w3.heap.size w3 w') (by kernel_rfl) (by kernel_rfl) (by kernel_rfl) rfl rfl (Below.refl _ _).drew (fun ii hii => ?_) ?_
          · match ii, hii with
            | 0, _ => exact vstep_pure rfl (vwant_none rfl) (fun _ _ h => h) (fun LL aa ww cc => ⟨.pointer (some ⟨b6, 0, none⟩), by have e0 : aa.tmps.getD 6 undef = .pointer (some ⟨b6, 0, none⟩) := (cc.orig 6 (by kernel_rfl)).trans rfl; simp only [execOp, Act.eval, e0]; go_simp, rfl⟩)
            | 1, _ => exact vstep_pure rfl (vwant_none rfl) (fun _ _ h => h) (fun LL aa ww cc => ⟨.int .i64 (n : Int), by have e0 : aa.tmps.getD 13 undef = .pointer (some ⟨b6, 0, none⟩) := cc.slot 0 13 (by kernel_rfl) rfl; have m := M1.out _ cc.world; simp only [execOp, Act.eval, e0]; go_simp, rfl⟩)
            | 2, _ => exact vstep_pure rfl (vwant_none rfl) (fun _ _ h => h) (fun LL aa ww cc => ⟨.bool false, by have e0 : aa.tmps.getD 14 undef = .int .i64 (n : Int) := cc.slot 1 14 (by kernel_rfl) rfl; have q := QN.out; simp only [execOp, Act.eval, e0]; go_simp, rfl⟩)
            | 3, _ => exact vstep_copy rfl (vwant_none rfl) (fun _ _ h => h) 15 (Or.inl rfl) 2 (by kernel_rfl) rfl (fun _ h => h)
            | 4, _ => exact vstep_unwanted rfl 3 true 16 rfl (by kernel_rfl) rfl (fun _ h => Or.inl h) (by kernel_rfl) rfl (fun _ _ h => h)
            | 5, _ => exact vstep_unwanted rfl 3 true 16 rfl (by kernel_rfl) rfl (fun _ h => Or.inl h) (by kernel_rfl) rfl (fun _ _ h => h)
            | 6, _ => exact vstep_unwanted rfl 3 true 16 rfl (by kernel_rfl) rfl (fun _ h => Or.inl h) (by kernel_rfl) rfl (fun _ _ h => h)
            | 7, _ => exact vstep_unwanted rfl 3 true 16 rfl (by kernel_rfl) rfl (fun _ h => Or.inl h) (by kernel_rfl) rfl (fun _ _ h => h)
            | 8, _ => exact vstep_unwanted rfl 3 true 16 rfl (by kernel_rfl) rfl (fun _ h => Or.inl h) (by kernel_rfl) rfl (fun _ _ h => h)
            | 9, _ => exact vstep_pure rfl (vwant_none rfl) (fun _ _ h => h) (fun LL aa ww cc => ⟨.bool false, by have e0 : aa.tmps.getD 16 undef = .bool false := cc.slot 3 16 (by kernel_rfl) rfl; simp only [execOp, Act.eval, e0]; go_simp, rfl⟩)
            | 10, _ => exact vstep_copy rfl (vwant_none rfl) (fun _ _ h => h) 22 (Or.inl rfl) 9 (by kernel_rfl) rfl (fun _ h => h)
            | 11, _ => exact vstep_pure rfl (vwant 10 false 23 rfl (by kernel_rfl) rfl (fun _ h => h) (by kernel_rfl)) (fun _ _ h => h) (fun LL aa ww cc => ⟨.pointer (some ⟨b6, 0, none⟩), by have e0 : aa.tmps.getD 6 undef = .pointer (some ⟨b6, 0, none⟩) := (cc.orig 6 (by kernel_rfl)).trans rfl; simp only [execOp, Act.eval, e0]; go_simp, rfl⟩)
            | 12, _ => exact vstep_pure rfl (vwant 10 false 23 rfl (by kernel_rfl) rfl (fun _ h => h) (by kernel_rfl)) (fun _ _ h => h) (fun LL aa ww cc => ⟨.int .i64 (n : Int), by have e0 : aa.tmps.getD 24 undef = .pointer (some ⟨b6, 0, none⟩) := cc.slot 11 24 (by kernel_rfl) rfl; have m := M1.out _ cc.world; simp only [execOp, Act.eval, e0]; go_simp, rfl⟩)
            | 13, _ => exact vstep_pure rfl (vwant 10 false 23 rfl (by kernel_rfl) rfl (fun _ h => h) (by kernel_rfl)) (fun _ _ h => h) (fun LL aa ww cc => ⟨.bool true, by have e0 : aa.tmps.getD 25 undef = .int .i64 (n : Int) := cc.slot 12 25 (by kernel_rfl) rfl; have q := QN.out; simp only [execOp, Act.eval, e0]; go_simp, rfl⟩)
            | 14, _ => exact vstep_copy rfl (vwant 10 false 23 rfl (by kernel_rfl) rfl (fun _ h => h) (by kernel_rfl)) (fun _ _ h => h) 26 (Or.inl rfl) 13 (by kernel_rfl) rfl (fun _ h => h)
            | 15, _ => exact vstep_first rfl (vwant 14 true 27 rfl (by kernel_rfl) rfl (fun _ h => h) (by kernel_rfl)) (fun _ _ h => h) 0 (Or.inl rfl) (by kernel_rfl) rfl
            | 16, _ => exact vstep_pure rfl (vwant 14 true 27 rfl (by kernel_rfl) rfl (fun _ h => h) (by kernel_rfl)) (fun _ _ h => h) (fun LL aa ww cc => ⟨.pointer (some ⟨b6, 0, none⟩), by have e0 : aa.tmps.getD 6 undef = .pointer (some ⟨b6, 0, none⟩) := (cc.orig 6 (by kernel_rfl)).trans rfl; simp only [execOp, Act.eval, e0]; go_simp, rfl⟩)
            | 17, _ => exact vstep_pure rfl (vwant 14 true 27 rfl (by kernel_rfl) rfl (fun _ h => h) (by kernel_rfl)) (fun _ _ h => h) (fun LL aa ww cc => ⟨.int .i64 (n : Int), by have e0 : aa.tmps.getD 29 undef = .pointer (some ⟨b6, 0, none⟩) := cc.slot 16 29 (by kernel_rfl) rfl; have m := M1.out _ cc.world; simp only [execOp, Act.eval, e0]; go_simp, rfl⟩)
            | 18, _ => exact vstep_pure rfl (vwant 14 true 27 rfl (by kernel_rfl) rfl (fun _ h => h) (by kernel_rfl)) (fun _ _ h => h) (fun LL aa ww cc => ⟨.pointer (some ⟨bf, 0, none⟩), by have e0 : aa.tmps.getD 28 undef = .pointer (some ⟨bf, 0, none⟩) := cc.slot 15 28 (by kernel_rfl) rfl; simp only [execOp, Act.eval, e0]; go_simp, rfl⟩)
            | 19, _ => exact vstep_pure rfl (vwant 14 true 27 rfl (by kernel_rfl) rfl (fun _ h => h) (by kernel_rfl)) (fun _ _ h => h) (fun LL aa ww cc => ⟨.pointer (some ⟨bf, 0, none⟩), by have e0 : aa.tmps.getD 31 undef = .pointer (some ⟨bf, 0, none⟩) := cc.slot 18 31 (by kernel_rfl) rfl; simp only [execOp, Act.eval, e0]; go_simp, rfl⟩)
            | 20, _ => exact vstep_pure rfl (vwant 14 true 27 rfl (by kernel_rfl) rfl (fun _ h => h) (by kernel_rfl)) (fun _ _ h => h) (fun LL aa ww cc => ⟨.pointer (some ⟨bf, n, none⟩), by have e0 : aa.tmps.getD 32 undef = .pointer (some ⟨bf, 0, none⟩) := cc.slot 19 32 (by kernel_rfl) rfl; have e1 : aa.tmps.getD 30 undef = .int .i64 (n : Int) := cc.slot 17 30 (by kernel_rfl) rfl; have qi := QI.out; have q : (n : Int) < 16 := (by omega); simp only [execOp, Act.eval, e0, e1]; go_simp, rfl⟩)
            | 21, _ => exact vstep_pure rfl (vwant 14 true 27 rfl (by kernel_rfl) rfl (fun _ h => h) (by kernel_rfl)) (fun _ _ h => h) (fun LL aa ww cc => ⟨.bool false, by have e0 : aa.tmps.getD 33 undef = .pointer (some ⟨bf, n, none⟩) := cc.slot 20 33 (by kernel_rfl) rfl; have m := M2.out _ cc.world; simp only [execOp, Act.eval, e0]; go_simp, rfl⟩)
            | 22, _ => exact vstep_pure rfl (vwant 14 true 27 rfl (by kernel_rfl) rfl (fun _ h => h) (by kernel_rfl)) (fun _ _ h => h) (fun LL aa ww cc => ⟨.bool true, by have e0 : aa.tmps.getD 34 undef = .bool false := cc.slot 21 34 (by kernel_rfl) rfl; simp only [execOp, Act.eval, e0]; go_simp, rfl⟩)
            | 23, _ => exact vstep_pure rfl (vwant 10 false 23 rfl (by kernel_rfl) rfl (fun _ h => h) (by kernel_rfl)) (fun _ _ h => h) (fun LL aa ww cc => ⟨.bool true, by have e0 : aa.tmps.getD 27 undef = .bool true := cc.slot 14 27 (by kernel_rfl) rfl; have e1 : aa.tmps.getD 35 undef = .bool true := cc.slot 22 35 (by kernel_rfl) rfl; simp only [execOp, Act.eval, e0, e1]; go_simp, rfl⟩)
            | 24, _ => exact vstep_pure rfl (vwant_none rfl) (fun _ _ h => h) (fun LL aa ww cc => ⟨.bool true, by have e0 : aa.tmps.getD 23 undef = .bool false := cc.slot 10 23 (by kernel_rfl) rfl; have e1 : aa.tmps.getD 36 undef = .bool true := cc.slot 23 36 (by kernel_rfl) rfl; simp only [execOp, Act.eval, e0, e1]; go_simp, rfl⟩)
            | n + 25, h => exact absurd h (by show ¬ (n + 25 < 25); omega)
          · intro L9 w6 _ hj6
            have HJ6 : Hid (Below w.heap.size w w6) := Lib.hid (below_trans HG3.out (hj6.mono HG3.out.size))
            clear hj6
            refine (by assumption : ∀ (a : Act) (w : World), Code.wp _ _ _ a w → _) _ _ ?_
            simp only [List.zip_cons_cons, List.zip_nil_right, putsL]
            go_simp
            go_wp2
            go_ret
            exact ⟨show Ending.returned (.bool false) = .returned (.bool (deriveB F l)) by rw [HE.out], HJ6.out⟩
        | true =>
          rw [hnu] at hc hvd
          have M2 : Hid (∀ w', Below w3.heap.size w3 w' → w'.cell? ⟨bf, n, none⟩ = some (.bool true)) := Lib.hid fun w' hb => (HBF3.out.below hb HBF3.out.lt).cell hc
          have HE : Hid (deriveB F l = deriveB F (l.drop (i + 1))) := Lib.hid (by rw [HV.out, hvd]; rfl)
          clear hnm hneg hxn hxi hxe hvd HXI hn16 hc hnu
          go_wp2_with fail
          refine region_vals [.pointer (some ⟨b6, 0, none⟩), .int .i64 (n : Int), .bool false, .bool false, undef, undef, undef, undef, undef, .bool false, .bool false, .pointer (some ⟨b6, 0, none⟩), .int .i64 (n : Int), .bool true, .bool true, .pointer (some ⟨bf, 0, none⟩), .pointer (some ⟨b6, 0, none⟩), .int .i64 (n : Int), .pointer (some ⟨bf, 0, none⟩), .pointer (some ⟨bf, 0, none⟩), .pointer (some ⟨bf, n, none⟩), .bool true, .bool false, .bool false, .bool false] [some 13, some 14, some 15, some 16, some 17, some 18, some 19, some 20, some 21, some 22, some 23, some 24, some 25, some 26, some 27, some 28, some 29, some 30, some 31, some 32, some 33, some 34, some 35, some 36, some 37] (fun _ w' => Below w3.heap.size w3 w') (by kernel_rfl) (by kernel_rfl) (by kernel_rfl) rfl rfl (Below.refl _ _).drew (fun ii hii => ?_) ?_
          · match ii, hii with
            | 0, _ => exact vstep_pure rfl (vwant_none rfl) (fun _ _ h => h) (fun LL aa ww cc => ⟨.pointer (some ⟨b6, 0, none⟩), by have e0 : aa.tmps.getD 6 undef = .pointer (some ⟨b6, 0, none⟩) := (cc.orig 6 (by kernel_rfl)).trans rfl; simp only [execOp, Act.eval, e0]; go_simp, rfl⟩)
            | 1, _ => exact vstep_pure rfl (vwant_none rfl) (fun _ _ h => h) (fun LL aa ww cc => ⟨.int .i64 (n : Int), by have e0 : aa.tmps.getD 13 undef = .pointer (some ⟨b6, 0, none⟩) := cc.slot 0 13 (by kernel_rfl) rfl; have m := M1.out _ cc.world; simp only [execOp, Act.eval, e0]; go_simp, rfl⟩)
            | 2, _ => exact vstep_pure rfl (vwant_none rfl) (fun _ _ h => h) (fun LL aa ww cc => ⟨.bool false, by have e0 : aa.tmps.getD 14 undef = .int .i64 (n : Int) := cc.slot 1 14 (by kernel_rfl) rfl; have q := QN.out; simp only [execOp, Act.eval, e0]; go_simp, rfl⟩)
            | 3, _ => exact vstep_copy rfl (vwant_none rfl) (fun _ _ h => h) 15 (Or.inl rfl) 2 (by kernel_rfl) rfl (fun _ h => h)
            | 4, _ => exact vstep_unwanted rfl 3 true 16 rfl (by kernel_rfl) rfl (fun _ h => Or.inl h) (by kernel_rfl) rfl (fun _ _ h => h)
            | 5, _ => exact vstep_unwanted rfl 3 true 16 rfl (by kernel_rfl) rfl (fun _ h => Or.inl h) (by kernel_rfl) rfl (fun _ _ h => h)
            | 6, _ => exact vstep_unwanted rfl 3 true 16 rfl (by kernel_rfl) rfl (fun _ h => Or.inl h) (by kernel_rfl) rfl (fun _ _ h => h)
            | 7, _ => exact vstep_unwanted rfl 3 true 16 rfl (by kernel_rfl) rfl (fun _ h => Or.inl h) (by kernel_rfl) rfl (fun _ _ h => h)
            | 8, _ => exact vstep_unwanted rfl 3 true 16 rfl (by kernel_rfl) rfl (fun _ h => Or.inl h) (by kernel_rfl) rfl (fun _ _ h => h)
            | 9, _ => exact vstep_pure rfl (vwant_none rfl) (fun _ _ h => h) (fun LL aa ww cc => ⟨.bool false, by have e0 : aa.tmps.getD 16 undef = .bool false := cc.slot 3 16 (by kernel_rfl) rfl; simp only [execOp, Act.eval, e0]; go_simp, rfl⟩)
            | 10, _ => exact vstep_copy rfl (vwant_none rfl) (fun _ _ h => h) 22 (Or.inl rfl) 9 (by kernel_rfl) rfl (fun _ h => h)
            | 11, _ => exact vstep_pure rfl (vwant 10 false 23 rfl (by kernel_rfl) rfl (fun _ h => h) (by kernel_rfl)) (fun _ _ h => h) (fun LL aa ww cc => ⟨.pointer (some ⟨b6, 0, none⟩), by have e0 : aa.tmps.getD 6 undef = .pointer (some ⟨b6, 0, none⟩) := (cc.orig 6 (by kernel_rfl)).trans rfl; simp only [execOp, Act.eval, e0]; go_simp, rfl⟩)
            | 12, _ => exact vstep_pure rfl (vwant 10 false 23 rfl (by kernel_rfl) rfl (fun _ h => h) (by kernel_rfl)) (fun _ _ h => h) (fun LL aa ww cc => ⟨.int .i64 (n : Int), by have e0 : aa.tmps.getD 24 undef = .pointer (some ⟨b6, 0, none⟩) := cc.slot 11 24 (by kernel_rfl) rfl; have m := M1.out _ cc.world; simp only [execOp, Act.eval, e0]; go_simp, rfl⟩)
            | 13, _ => exact vstep_pure rfl (vwant 10 false 23 rfl (by kernel_rfl) rfl (fun _ h => h) (by kernel_rfl)) (fun _ _ h => h) (fun LL aa ww cc => ⟨.bool true, by have e0 : aa.tmps.getD 25 undef = .int .i64 (n : Int) := cc.slot 12 25 (by kernel_rfl) rfl; have q := QN.out; simp only [execOp, Act.eval, e0]; go_simp, rfl⟩)
            | 14, _ => exact vstep_copy rfl (vwant 10 false 23 rfl (by kernel_rfl) rfl (fun _ h => h) (by kernel_rfl)) (fun _ _ h => h) 26 (Or.inl rfl) 13 (by kernel_rfl) rfl (fun _ h => h)
            | 15, _ => exact vstep_first rfl (vwant 14 true 27 rfl (by kernel_rfl) rfl (fun _ h => h) (by kernel_rfl)) (fun _ _ h => h) 0 (Or.inl rfl) (by kernel_rfl) rfl
            | 16, _ => exact vstep_pure rfl (vwant 14 true 27 rfl (by kernel_rfl) rfl (fun _ h => h) (by kernel_rfl)) (fun _ _ h => h) (fun LL aa ww cc => ⟨.pointer (some ⟨b6, 0, none⟩), by have e0 : aa.tmps.getD 6 undef = .pointer (some ⟨b6, 0, none⟩) := (cc.orig 6 (by kernel_rfl)).trans rfl; simp only [execOp, Act.eval, e0]; go_simp, rfl⟩)
            | 17, _ => exact vstep_pure rfl (vwant 14 true 27 rfl (by kernel_rfl) rfl (fun _ h => h) (by kernel_rfl)) (fun _ _ h => h) (fun LL aa ww cc => ⟨.int .i64 (n : Int), by have e0 : aa.tmps.getD 29 undef = .pointer (some ⟨b6, 0, none⟩) := cc.slot 16 29 (by kernel_rfl) rfl; have m := M1.out _ cc.world; simp only [execOp, Act.eval, e0]; go_simp, rfl⟩)
            | 18, _ => exact vstep_pure rfl (vwant 14 true 27 rfl (by kernel_rfl) rfl (fun _ h => h) (by kernel_rfl)) (fun _ _ h => h) (fun LL aa ww cc => ⟨.pointer (some ⟨bf, 0, none⟩), by have e0 : aa.tmps.getD 28 undef = .pointer (some ⟨bf, 0, none⟩) := cc.slot 15 28 (by kernel_rfl) rfl; simp only [execOp, Act.eval, e0]; go_simp, rfl⟩)
            | 19, _ => exact vstep_pure rfl (vwant 14 true 27 rfl (by kernel_rfl) rfl (fun _ h => h) (by kernel_rfl)) (fun _ _ h => h) (fun LL aa ww cc => ⟨.pointer (some ⟨bf, 0, none⟩), by have e0 : aa.tmps.getD 31 undef = .pointer (some ⟨bf, 0, none⟩) := cc.slot 18 31 (by kernel_rfl) rfl; simp only [execOp, Act.eval, e0]; go_simp, rfl⟩)
            | 20, _ => exact vstep_pure rfl (vwant 14 true 27 rfl (by kernel_rfl) rfl (fun _ h => h) (by kernel_rfl)) (fun _ _ h => h) (fun LL aa ww cc => ⟨.pointer (some ⟨bf, n, none⟩), by have e0 : aa.tmps.getD 32 undef = .pointer (some ⟨bf, 0, none⟩) := cc.slot 19 32 (by kernel_rfl) rfl; have e1 : aa.tmps.getD 30 undef = .int .i64 (n : Int) := cc.slot 17 30 (by kernel_rfl) rfl; have qi := QI.out; have q : (n : Int) < 16 := (by omega); simp only [execOp, Act.eval, e0, e1]; go_simp, rfl⟩)
            | 21, _ => exact vstep_pure rfl (vwant 14 true 27 rfl (by kernel_rfl) rfl (fun _ h => h) (by kernel_rfl)) (fun _ _ h => h) (fun LL aa ww cc => ⟨.bool true, by have e0 : aa.tmps.getD 33 undef = .pointer (some ⟨bf, n, none⟩) := cc.slot 20 33 (by kernel_rfl) rfl; have m := M2.out _ cc.world; simp only [execOp, Act.eval, e0]; go_simp, rfl⟩)
            | 22, _ => exact vstep_pure rfl (vwant 14 true 27 rfl (by kernel_rfl) rfl (fun _ h => h) (by kernel_rfl)) (fun _ _ h => h) (fun LL aa ww cc => ⟨.bool false, by have e0 : aa.tmps.getD 34 undef = .bool true := cc.slot 21 34 (by kernel_rfl) rfl; simp only [execOp, Act.eval, e0]; go_simp, rfl⟩)
            | 23, _ => exact vstep_pure rfl (vwant 10 false 23 rfl (by kernel_rfl) rfl (fun _ h => h) (by kernel_rfl)) (fun _ _ h => h) (fun LL aa ww cc => ⟨.bool false, by have e0 : aa.tmps.getD 27 undef = .bool true := cc.slot 14 27 (by kernel_rfl) rfl; have e1 : aa.tmps.getD 35 undef = .bool false := cc.slot 22 35 (by kernel_rfl) rfl; simp only [execOp, Act.eval, e0, e1]; go_simp, rfl⟩)
            | 24, _ => exact vstep_pure rfl (vwant_none rfl) (fun _ _ h => h) (fun LL aa ww cc => ⟨.bool false, by have e0 : aa.tmps.getD 23 undef = .bool false := cc.slot 10 23 (by kernel_rfl) rfl; have e1 : aa.tmps.getD 36 undef = .bool false := cc.slot 23 36 (by kernel_rfl) rfl; simp only [execOp, Act.eval, e0, e1]; go_simp, rfl⟩)
            | n + 25, h => exact absurd h (by show ¬ (n + 25 < 25); omega)
          · intro L9 w6 _ hj6
            have HJ6 : Hid (Below w.heap.size w w6) := Lib.hid (below_trans HG3.out (hj6.mono HG3.out.size))
            clear hj6
            refine (by assumption : ∀ (a : Act) (w : World), Code.wp _ _ _ a w → _) _ _ ?_
            simp only [List.zip_cons_cons, List.zip_nil_right, putsL]
            go_simp
            go_wp2
            go_roundw
            case rel => exact ⟨i + 1, by omega, by go_num, HJ6.out, HE.out⟩
            case measure => simp [intOf]; omega
    · have HE : Hid (deriveB F l = true) := Lib.hid (by
        rw [HV.out, List.drop_of_length_le (by have := HLL.out; omega)]; rfl)
      go_wp2
      go_ret
      exact ⟨show Ending.returned (.bool true) = .returned (.bool (deriveB F l)) by rw [HE.out], HR.out⟩
end Go.Proofs.YtiebpmpjclnpeaaDoor
/- A region that draws its order, whose last operation (behind all others) may write: the others only let memory grow. Over whatever program. -/
namespace Nac
open Go Go.RowKit
section
variable {P : Program} {ops : Array Oper} {Q : Exit → Act → World → Prop} {D : Nat → VD} {a0 : Act} {W0 : World}
/-- all operations but 'last' have come ahead of it -/
def lastB (ops : Array Oper) (last : Nat) : Bool := (List.range ops.size).all fun i => i == last || (preds ops 9 last).contains i
theorem mono_anyL (last : Nat) (hlast : last < ops.size) (hla : lastB ops last = true) (hd : distinctB ops a0.tmps.size = true) (hbk : backB ops = true)
    (step : ∀ i, i < ops.size → i ≠ last → MStep P ops Q D a0 W0 i)
    (fin : ∀ o a w, ops[last]? = some o → Below W0.heap.size W0 w → a.defers = a0.defers → a.tmps.size = a0.tmps.size → (∀ i d, i ≠ last → dstOf ops i = some d → (D i).ok (a.tmps.getD d undef) w) → (∀ t, (∀ i, i ≠ last → dstOf ops i ≠ some t) → a.tmps.getD t undef = a0.tmps.getD t undef) →
      Region.wanted o (yielded ops a.tmps) = true ∧ o.wp P a w (fun a' w' => Q .normal a' w') Q) :
    ∀ (fuel : Nat) (listed : Array Bool) (a : Act) (w : World), falses listed ≤ fuel → listed.getD last false = false → MInv ops D a0 W0 listed a w → wpAny P .any ops Q fuel listed a w := by
  intro fuel
  induction fuel with
  | zero =>
    intro listed a w hf hl hI
    have := falses_zero listed (by omega) last (by rw [hI.size]; exact hlast)
    rw [hl] at this
    cases this
  | succ fuel ih =>
    intro listed a w hf hl hI
    refine ⟨fun hr => absurd hr (ready_ex hbk hI.size last hlast hl), fun i hi => ?_⟩
    obtain ⟨h1, h2, o, ho, hready⟩ := ready_of hi hI.size
    have hfl : falses (listed.setIfInBounds i true) ≤ fuel := by
      have := falses_set listed i (by rw [hI.size]; exact h1) h2
      omega
    have hs : i < listed.size := by rw [hI.size]; exact h1
    by_cases hil : i = last
    · subst hil
      have hpc := preds_closed hI.closed 9 i (fun o' ho' => by rw [ho] at ho'; obtain rfl := Option.some.inj ho'; exact hready)
      have hall : ∀ k, k < ops.size → k ≠ i → listed.getD k false = true := by
        intro k hk hne
        unfold lastB at hla
        rw [List.all_eq_true] at hla
        have h3 := hla k (by simpa using hk)
        simp only [Bool.or_eq_true, beq_iff_eq, List.contains_iff_mem] at h3
        rcases h3 with h3 | h3
        · exact absurd h3 hne
        · exact hpc k h3
      have hin : ∀ k d, dstOf ops k = some d → k < ops.size := by
        intro k d hk
        rcases Nat.lt_or_ge k ops.size with h | h
        · exact h
        · simp [dstOf, Array.getElem?_eq_none h] at hk
      obtain ⟨hw, hwp⟩ := fin o a w ho hI.below hI.defers hI.tsize (fun k d hk hkd => hI.done k d (hall k (hin k d hkd) hk) hkd)
        (fun t ht => hI.rest t fun k hk hkd => by
          by_cases hki : k = i
          · subst hki; rw [h2] at hk; cases hk
          · exact ht k hki hkd)
      unfold wpOp
      rw [ho]
      simp only
      rw [if_pos hw]
      refine Or.inl (Oper.wp_mono ?_ hwp)
      intro a' w' hq
      have hdone : ∀ k, k < ops.size → (listed.setIfInBounds i true).getD k false = true := by
        intro k hk
        rw [getD_setIf _ _ _ hs]
        split
        · rfl
        · rename_i hne
          exact hall k hk (fun e => hne e.symm)
      have hnil : Region.ready .any ops (listed.setIfInBounds i true) = [] := by
        apply List.eq_nil_iff_forall_not_mem.2
        intro j hj
        obtain ⟨g1, g2, _⟩ := ready_of hj (by simpa using hI.size)
        rw [hdone j g1] at g2
        cases g2
      cases fuel with
      | zero => exact ⟨hnil, hq⟩
      | succ n => exact ⟨fun _ => hq, fun j hj => by rw [hnil] at hj; cases hj⟩
    · have hctx : MCtx ops D a0 W0 i a w := by
        have hpc := preds_closed hI.closed 3 i (fun o' ho' => by rw [ho] at ho'; obtain rfl := Option.some.inj ho'; exact hready)
        refine ⟨hI.below, hI.tsize, fun k d hk hkd => hI.done k d (hpc k hk) hkd, fun t ht => hI.rest t fun k hl hkd => ?_⟩
        unfold origB at ht
        rw [List.all_eq_true] at ht
        have hk : k < ops.size := by
          rcases Nat.lt_or_ge k ops.size with h | h
          · exact h
          · simp [dstOf, Array.getElem?_eq_none h] at hkd
        have h3 := ht k (by simpa using hk)
        rw [hkd] at h3
        simp only [bne_self_eq_false, Bool.false_or, List.contains_iff_mem] at h3
        have := preds_closed hI.closed 3 k (fun o' ho' e he hb' => hI.closed k o' ho' hl e he hb') i h3
        rw [h2] at this
        cases this
      have hst := step i h1 hil o ho a w hctx
      have hl' : (listed.setIfInBounds i true).getD last false = false := by
        rw [getD_setIf _ _ _ hs, if_neg hil]
        exact hl
      unfold wpOp
      rw [ho]
      simp only
      split
      · rename_i hw
        rw [if_pos hw] at hst
        refine Or.inl (Oper.wp_mono ?_ hst)
        rintro a' w' ⟨v, rfl, hv, hb⟩
        exact ih _ _ _ hfl hl' (mono_put hI h1 ho hd hready hv hb)
      · rename_i hw
        rw [if_neg hw] at hst
        exact ih _ _ _ hfl hl' (mono_put hI h1 ho hd hready hst (Below.refl _ _))
/-- THE LAW -/
theorem region_monoL {id : Nat} {a0 : Act} {w0 : World} (D : Nat → VD) (last : Nat) (hlast : decide (last < ops.size) = true) (hla : lastB ops last = true) (hm : P.follows .mixedOrders = true) (hd : distinctB ops a0.tmps.size = true) (hbk : backB ops = true)
    (step : ∀ i, i < ops.size → i ≠ last → MStep P ops Q D a0 w0.drew i)
    (fin : ∀ o a w, ops[last]? = some o → Below w0.drew.heap.size w0.drew w → a.defers = a0.defers → a.tmps.size = a0.tmps.size → (∀ i d, i ≠ last → dstOf ops i = some d → (D i).ok (a.tmps.getD d undef) w) → (∀ t, (∀ i, i ≠ last → dstOf ops i ≠ some t) → a.tmps.getD t undef = a0.tmps.getD t undef) →
      Region.wanted o (yielded ops a.tmps) = true ∧ o.wp P a w (fun a' w' => Q .normal a' w') Q) :
    (Code.region id ops true).wp P Q a0 w0 := by
  refine wp_region_any hm ?_
  have hg : ∀ i, (Array.replicate ops.size false).getD i false = false := by
    intro i
    rw [Array.getD_eq_getD_getElem?, Array.getElem?_replicate]
    split <;> rfl
  refine mono_anyL (D := D) (a0 := a0) (W0 := w0.drew) last (of_decide_eq_true hlast) hla hd hbk step fin _ _ _ _ ?_ (hg last) ⟨by simp, Below.refl _ _, rfl, rfl, fun i o _ h => (by rw [hg] at h; cases h), fun i d h => (by rw [hg] at h; cases h), fun _ _ => rfl⟩
  unfold falses
  simp
end
end Nac
