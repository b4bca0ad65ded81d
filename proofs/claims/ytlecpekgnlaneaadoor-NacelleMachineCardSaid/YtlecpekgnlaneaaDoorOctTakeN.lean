/- octet's reader: take. -/
import Derived.Test.YtlecpekgnlaneaaDoorOctRN
import Derived.Test.YtlecpekgnlaneaaDoorSliceB
namespace Go.Proofs.YtlecpekgnlaneaaDoor
open Go.RowKit Nac
def TakeV (x : Option (List UInt8)) (b : Nat) (e : Ending) (w' : World) : Prop :=
  match x with
  | none => e = .returned (.tuple #[.slice none 0 0, .bool false])
  | some bs => ∃ A' c', e = .returned (.tuple #[.slice A' bs.length c', .bool true]) ∧ bs.length ≤ c' ∧ RB w' b A' bs
def RetTake (w : World) (b : Nat) (A : Option Addr) (c : Nat) (r : Rdr) (n : Nat) (e : Ending) (w' : World) : Prop := TakeV (r.take n).2 b e w' ∧ RdM w' b A c (r.take n).1 ∧ w.grownBy w' (some b)
set_option maxHeartbeats 2000000 in
theorem take_calls (w : World) (b : Nat) (A : Option Addr) (c : Nat) (r : Rdr) (h : RdM w b A c r) (h8 : r.l.length ≤ 140737488351232) (n : Nat) (hn : n ≤ 140737488351232) :
    Calls Tryd.prog 38 #[.pointer (some ⟨b, 0, none⟩), .int .i64 n] w (RetTake w b A c r n) := by
  have c2 : w.cell? ⟨b, 2, none⟩ = some (.int .i64 r.code) := h.blk.cell rfl
  by_cases hc : r.code = 0
  · have e0 : ((r.code : Int) != 0) = false := by rw [hc]; rfl
    have e1 : (r.code : Int) = 0 := by omega
    by_cases hl : r.left < n
    · have ht : r.take n = (r.fail 2, none) := by unfold Rdr.take; rw [if_neg (by simpa using hc), if_pos hl]
      have HT := Lib.hid ht
      have HM := Lib.hid h
      clear ht h hc
      go_enter Tryd.func38, Tryd.ntmps38
      go_wp2_with fail
      refine (left_calls w b A c r HM.out h8).mono ?_
      rintro e w1 ⟨rfl, rfl⟩
      go_wp2_with fail
      refine (fail_calls w.drew b A c r ⟨HM.out.blk, HM.out.rb, HM.out.cap, HM.out.pos⟩ 2).mono ?_
      rintro e w2 ⟨rfl, hm2, hg2⟩
      have HM2 := Lib.hid hm2
      have HG2 := Lib.hid hg2
      clear hm2 hg2
      go_wp2
      go_ret2
      unfold RetTake
      rw [HT.out]
      exact ⟨rfl, HM2.out, grown_of_drew HG2.out⟩
    · have ht : r.take n = ({ r with pos := r.pos + n }, some ((r.l.drop r.pos).take n)) := by unfold Rdr.take; rw [if_neg (by simpa using hc), if_neg hl]
      have HT := Lib.hid ht
      have HM := Lib.hid h
      have hp := h.pos
      obtain ⟨hi, hhi⟩ : ∃ hi, hi = r.pos + n := ⟨_, rfl⟩
      have hhl : hi ≤ r.l.length := by unfold Rdr.left at hl; omega
      obtain ⟨A2, hA2⟩ : ∃ A2, A2 = (if c = r.pos then A else A.map (·.add (r.pos * 1))) := ⟨_, rfl⟩
      obtain ⟨cx, hcx⟩ : ∃ cx, cx = c - r.pos := ⟨_, rfl⟩
      have hrc := h.rb.cut r.pos hi c (by omega) hhl h.cap
      rw [← hA2] at hrc
      have hbs : (r.l.take hi).drop r.pos = (r.l.drop r.pos).take n := by rw [List.drop_take, hhi, Nat.add_sub_cancel_left]
      rw [hbs] at hrc
      have hbl : ((r.l.drop r.pos).take n).length = n := by simp; omega
      have SL : Hid (∀ (a : Act) (o : Oper) (w : World) (x lO hO : Operand), o.op = .slice 22 x (some lO) (some hO) none → a.eval x = .slice A r.l.length c → a.eval lO = .int .i64 (r.pos : Int) → a.eval hO = .int .i64 (hi : Int) → (execOp a.eval o).run Tryd.prog w = .ok (.value (.slice A2 n cx)) w) := Lib.hid <| fun a o w x lO hO hop hx hlo hho => by
        have := run_cut w A r.l.length c h.cap (some (.int .i64 (r.pos : Int))) (some (.int .i64 (hi : Int))) r.pos hi (.inr rfl) (.inr rfl) (by omega) hhl
        rw [← hA2, ← hcx, show hi - r.pos = n by omega] at this
        simp only [execOp, hop, hx, Option.map_some, Option.map_none, hlo, hho]
        rw [Sem.run_bind, this]
        rfl
      have M0 : Hid (∀ w', Below w.heap.size w.drew w' → w'.cell? ⟨b, 0, none⟩ = some (.slice A r.l.length c)) := fun w' hb => (hb.cell (p := ⟨b, 0, none⟩) HM.out.blk.lt).trans (HM.out.blk.cell rfl)
      have M1 : Hid (∀ w', Below w.heap.size w.drew w' → w'.cell? ⟨b, 1, none⟩ = some (.int .i64 (r.pos : Int))) := fun w' hb => (hb.cell (p := ⟨b, 1, none⟩) HM.out.blk.lt).trans (HM.out.blk.cell rfl)
      have K1 : Hid (IntKind.i64.wrap ((r.pos : Int) + (n : Int)) = (hi : Int)) := Lib.hid <| by rw [IntKind.wrap_i64]; omega
      have HRC := Lib.hid hrc
      have HBL := Lib.hid hbl
      have HHI := Lib.hid hhi
      have hcl : n ≤ cx := by rw [hcx]; have := h.cap; omega
      have k1' : (r.pos : Int) + (n : Int) = (hi : Int) := by omega
      have K1' := Lib.hid k1'
      have hi9 : (hi : Int) ≤ 9223372036854775807 := by omega
      have hnl : ¬ ((r.left : Nat) : Int) < (n : Int) := by omega
      have HJ0 : Hid (Below w.heap.size w.drew w.drew.drew) := (Below.refl w.heap.size w.drew).drew
      clear ht h hc hrc hbl hbs hhi hA2 hcx k1'
      go_enter Tryd.func38, Tryd.ntmps38
      go_wp2_with fail
      refine (left_calls w b A c r HM.out h8).mono ?_
      rintro e w1 ⟨rfl, rfl⟩
      go_wp2_with fail
      obtain ⟨wd, hwd⟩ : ∃ wd, wd = w.drew := ⟨_, rfl⟩
      have HWD := Lib.hid hwd
      rw [← hwd] at M0 M1 HJ0 ⊢
      clear hwd
      refine region_vals [.pointer (some ⟨b, 0, none⟩), .pointer (some ⟨b, 0, none⟩), .pointer (some ⟨b, 0, none⟩), .slice A r.l.length c, .pointer (some ⟨b, 0, none⟩), .pointer (some ⟨b, 0, none⟩), .pointer (some ⟨b, 1, none⟩), .int .i64 (r.pos : Int), .pointer (some ⟨b, 0, none⟩), .pointer (some ⟨b, 0, none⟩), .pointer (some ⟨b, 1, none⟩), .int .i64 (r.pos : Int), .int .i64 (n : Int), .int .i64 (hi : Int), .slice A2 n cx, .slice A2 n cx] [some 17, some 18, some 19, some 20, some 21, some 22, some 23, some 24, some 25, some 26, some 27, some 28, some 29, some 30, some 31, some 4] (fun _ w' => Below w.heap.size wd w') (by kernel_rfl) (by kernel_rfl) (by kernel_rfl) rfl rfl HJ0.out (fun ii hii => ?_) ?_
      · match ii, hii with
        | 0, _ => exact vstep_first rfl (vwant_none rfl) (fun _ _ h => h) 0 (Or.inl rfl) (by kernel_rfl) rfl
        | 1, _ => exact vstep_pure rfl (vwant_none rfl) (fun _ _ h => h) (fun LL aa ww cc => ⟨.pointer (some ⟨b, 0, none⟩), by have e0 : aa.tmps.getD 17 undef = .pointer (some ⟨b, 0, none⟩) := cc.slot 0 17 (by kernel_rfl) rfl; simp only [execOp, Act.eval, e0]; go_simp, rfl⟩)
        | 2, _ => exact vstep_pure rfl (vwant_none rfl) (fun _ _ h => h) (fun LL aa ww cc => ⟨.pointer (some ⟨b, 0, none⟩), by have e0 : aa.tmps.getD 18 undef = .pointer (some ⟨b, 0, none⟩) := cc.slot 1 18 (by kernel_rfl) rfl; simp only [execOp, Act.eval, e0]; go_simp, rfl⟩)
        | 3, _ => exact vstep_pure rfl (vwant_none rfl) (fun _ _ h => h) (fun LL aa ww cc => ⟨.slice A r.l.length c, by have e0 : aa.tmps.getD 19 undef = .pointer (some ⟨b, 0, none⟩) := cc.slot 2 19 (by kernel_rfl) rfl; have m := M0.out _ cc.world; simp only [execOp, Act.eval, e0]; go_simp, rfl⟩)
        | 4, _ => exact vstep_first rfl (vwant_none rfl) (fun _ _ h => h) 0 (Or.inl rfl) (by kernel_rfl) rfl
        | 5, _ => exact vstep_pure rfl (vwant_none rfl) (fun _ _ h => h) (fun LL aa ww cc => ⟨.pointer (some ⟨b, 0, none⟩), by have e0 : aa.tmps.getD 21 undef = .pointer (some ⟨b, 0, none⟩) := cc.slot 4 21 (by kernel_rfl) rfl; simp only [execOp, Act.eval, e0]; go_simp, rfl⟩)
        | 6, _ => exact vstep_pure rfl (vwant_none rfl) (fun _ _ h => h) (fun LL aa ww cc => ⟨.pointer (some ⟨b, 1, none⟩), by have e0 : aa.tmps.getD 22 undef = .pointer (some ⟨b, 0, none⟩) := cc.slot 5 22 (by kernel_rfl) rfl; simp only [execOp, Act.eval, e0]; go_simp, rfl⟩)
        | 7, _ => exact vstep_pure rfl (vwant_none rfl) (fun _ _ h => h) (fun LL aa ww cc => ⟨.int .i64 (r.pos : Int), by have e0 : aa.tmps.getD 23 undef = .pointer (some ⟨b, 1, none⟩) := cc.slot 6 23 (by kernel_rfl) rfl; have m := M1.out _ cc.world; simp only [execOp, Act.eval, e0]; go_simp, rfl⟩)
        | 8, _ => exact vstep_first rfl (vwant_none rfl) (fun _ _ h => h) 0 (Or.inl rfl) (by kernel_rfl) rfl
        | 9, _ => exact vstep_pure rfl (vwant_none rfl) (fun _ _ h => h) (fun LL aa ww cc => ⟨.pointer (some ⟨b, 0, none⟩), by have e0 : aa.tmps.getD 25 undef = .pointer (some ⟨b, 0, none⟩) := cc.slot 8 25 (by kernel_rfl) rfl; simp only [execOp, Act.eval, e0]; go_simp, rfl⟩)
        | 10, _ => exact vstep_pure rfl (vwant_none rfl) (fun _ _ h => h) (fun LL aa ww cc => ⟨.pointer (some ⟨b, 1, none⟩), by have e0 : aa.tmps.getD 26 undef = .pointer (some ⟨b, 0, none⟩) := cc.slot 9 26 (by kernel_rfl) rfl; simp only [execOp, Act.eval, e0]; go_simp, rfl⟩)
        | 11, _ => exact vstep_pure rfl (vwant_none rfl) (fun _ _ h => h) (fun LL aa ww cc => ⟨.int .i64 (r.pos : Int), by have e0 : aa.tmps.getD 27 undef = .pointer (some ⟨b, 1, none⟩) := cc.slot 10 27 (by kernel_rfl) rfl; have m := M1.out _ cc.world; simp only [execOp, Act.eval, e0]; go_simp, rfl⟩)
        | 12, _ => exact vstep_first rfl (vwant_none rfl) (fun _ _ h => h) 1 (Or.inl rfl) (by kernel_rfl) rfl
        | 13, _ => exact vstep_pure rfl (vwant_none rfl) (fun _ _ h => h) (fun LL aa ww cc => ⟨.int .i64 (hi : Int), by have e0 : aa.tmps.getD 28 undef = .int .i64 (r.pos : Int) := cc.slot 11 28 (by kernel_rfl) rfl; have e1 : aa.tmps.getD 29 undef = .int .i64 (n : Int) := cc.slot 12 29 (by kernel_rfl) rfl; have k := K1.out; simp only [execOp, Act.eval, e0, e1]; go_simp, rfl⟩)
        | 14, _ => exact vstep_pure rfl (vwant_none rfl) (fun _ _ h => h) (fun LL aa ww cc => ⟨.slice A2 n cx, by have e0 : aa.tmps.getD 20 undef = .slice A r.l.length c := cc.slot 3 20 (by kernel_rfl) rfl; have e1 : aa.tmps.getD 24 undef = .int .i64 (r.pos : Int) := cc.slot 7 24 (by kernel_rfl) rfl; have e2 : aa.tmps.getD 30 undef = .int .i64 (hi : Int) := cc.slot 13 30 (by kernel_rfl) rfl; exact SL.out aa _ ww _ _ _ rfl e0 e1 e2, rfl⟩)
        | 15, _ => exact vstep_copy rfl (vwant_none rfl) (fun _ _ h => h) 31 (Or.inr rfl) 14 (by kernel_rfl) rfl (fun _ h => h)
        | n + 16, h => exact absurd h (by show ¬ (n + 16 < 16); omega)
      · intro L0 w5 hall hJ
        have hJ' : Below w.heap.size wd w5 := hJ
        have hbw : Below w.heap.size w w5 := by rw [HWD.out] at hJ'; exact (Below.refl w.heap.size w).drew.trans hJ'
        have HB5 := Lib.hid hbw
        have n1 := M1.out w5 hJ'
        have hx5 : Blk w5 b [.slice A r.l.length c, .int .i64 r.pos, .int .i64 r.code] := HM.out.blk.below hbw HM.out.blk.lt
        have f1 := hx5.free 1
        have HX5 := Lib.hid hx5
        clear hJ hJ' hall hbw M0 M1 SL HJ0 hx5 c2 K1
        have k2 := K1'.out
        refine (by assumption : ∀ (a : Act) (w : World), Code.wp _ _ _ a w → _) _ _ ?_
        simp only [List.zip_cons_cons, List.zip_nil_right, putsL]
        go_simp
        go_wp2
        go_ret2
        unfold RetTake
        rw [HT.out]
        have hg : w.grownBy (w5.setCell ⟨b, 1, none⟩ (.int .i64 (hi : Int))) (some b) := by
          have g1 : w.grownBy w5 (some b) := ⟨HB5.out.os, HB5.out.tape, HB5.out.output, HB5.out.size, fun k hk _ => HB5.out.block k hk⟩
          exact g1.trans (grown_setCell w5 ⟨b, 1, none⟩ _)
        have hbb : Below b w (w5.setCell ⟨b, 1, none⟩ (.int .i64 (hi : Int))) := (Below.refl b w).grown hg (Nat.le_of_lt HM.out.blk.lt) (fun k e => by injection e with e; omega)
        refine ⟨⟨A2, cx, by rw [HBL.out]; rfl, by rw [HBL.out]; exact hcl, HRC.out.below hbb⟩, ⟨?_, HM.out.rb.below hbb, HM.out.cap, ?_⟩, hg⟩
        · have := HX5.out.setCell 1 (.int .i64 (hi : Int))
          rw [HHI.out] at this ⊢
          exact this
        · show r.pos + n ≤ r.l.length
          rw [← HHI.out]; exact hhl
  · have e0 : ((r.code : Int) != 0) = true := by rw [bne_iff_ne]; omega
    have e1 : ¬ (r.code : Int) = 0 := by omega
    have ht : r.take n = (r, none) := by unfold Rdr.take; rw [if_pos (by simpa using hc)]
    have HT := Lib.hid ht
    have HM := Lib.hid h
    clear ht h hc
    go_enter Tryd.func38, Tryd.ntmps38
    go_wp2
    go_ret2
    unfold RetTake
    rw [HT.out]
    exact ⟨rfl, HM.out, World.grownBy.refl w _⟩
end Go.Proofs.YtlecpekgnlaneaaDoor
