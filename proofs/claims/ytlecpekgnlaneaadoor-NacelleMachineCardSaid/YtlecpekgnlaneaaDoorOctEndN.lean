/- octet's reader: Num, End; same. -/
import Derived.Test.YtlecpekgnlaneaaDoorOctTakeN
import Derived.Test.YtlecpekgnlaneaaDoorOctNumN
import Derived.Test.YtlecpekgnlaneaaDoorConv
import Derived.Test.YtlecpekgnlaneaaDoorBoxF
import Derived.Test.YtlecpekgnlaneaaDoorMonoV
namespace Go.Proofs.YtlecpekgnlaneaaDoor
open Go.RowKit Nac Nac.Crc
def RetNum (w : World) (b : Nat) (A : Option Addr) (c : Nat) (x : Rdr × Nat) (e : Ending) (w' : World) : Prop := e = .returned (.int .u64 (x.2 : Int)) ∧ RdM w' b A c x.1 ∧ w.grownBy w' (some b)
set_option maxHeartbeats 1000000 in
theorem num_calls (w : World) (b : Nat) (A : Option Addr) (c : Nat) (r : Rdr) (h : RdM w b A c r) (h8 : r.l.length ≤ 140737488351232) (size : Int) :
    Calls Tryd.prog 23 #[.pointer (some ⟨b, 0, none⟩), .int .i64 size] w (RetNum w b A c (r.num size)) := by
  by_cases hs : size < 1 ∨ 8 < size
  · have hn : r.num size = (r.fail 1, 0) := if_pos hs
    have HN := Lib.hid hn
    have HM := Lib.hid h
    clear hn h
    have hs' : size < 1 ∨ (1 ≤ size ∧ 8 < size) := by omega
    clear hs
    rcases hs' with hs | ⟨hs, hs2⟩
    all_goals
      go_enter Tryd.func23, Tryd.ntmps23
      go_wp2_with fail
      refine (fail_calls w b A c r HM.out 1).mono ?_
      rintro e w2 ⟨rfl, hm2, hg2⟩
      have HM2 := Lib.hid hm2
      have HG2 := Lib.hid hg2
      clear hm2 hg2
      go_wp2
      go_ret
      unfold RetNum
      rw [HN.out]
      exact ⟨rfl, HM2.out, HG2.out⟩
  · have hn : r.num size = ((r.take size.toNat).1, le ((r.take size.toNat).2.getD [])) := if_neg hs
    have HN := Lib.hid hn
    have HM := Lib.hid h
    clear hn h
    obtain ⟨n, rfl⟩ : ∃ n : Nat, size = (n : Int) := ⟨size.toNat, by omega⟩
    have hn1 : 1 ≤ n := by omega
    have hn8 : n ≤ 8 := by omega
    clear hs
    go_enter Tryd.func23, Tryd.ntmps23
    go_wp2_with fail
    refine (take_calls w b A c r HM.out h8 n (by omega)).mono ?_
    rintro e w2 ⟨hv, hm2, hg2⟩
    have HM2 := Lib.hid hm2
    have HG2 := Lib.hid hg2
    clear hm2 hg2
    cases hx : (r.take n).2 with
    | none =>
      rw [hx] at hv
      have hv' : e = .returned (.tuple #[.slice none 0 0, .bool false]) := hv
      subst hv'
      have HZ : Hid ((r.num n).2 = 0) := Lib.hid <| by
        rw [HN.out]; show le ((r.take n).2.getD []) = 0; rw [hx]; rfl
      have HN1 : Hid ((r.num n).1 = (r.take n).1) := Lib.hid <| by rw [HN.out]; rfl
      clear hv hx HN
      go_wp2_with fail
      refine (number_calls w2 0 none 0 [] (RB.nil _ _ _) (by simp)).mono ?_
      rintro e w3 ⟨rfl, rfl⟩
      go_wp2
      go_ret
      unfold RetNum
      rw [HZ.out, HN1.out]
      exact ⟨rfl, HM2.out, HG2.out⟩
    | some bs =>
      rw [hx] at hv
      obtain ⟨A', c', rfl, hbc, hrb⟩ := hv
      have hbl : bs.length ≤ 8 := by
        unfold Rdr.take at hx
        split at hx
        · cases hx
        split at hx
        · cases hx
        · injection hx with hx; subst hx; simp; omega
      have HZ : Hid ((r.num n).2 = le bs) := Lib.hid <| by
        rw [HN.out]; show le ((r.take n).2.getD []) = _; rw [hx]; rfl
      have HN1 : Hid ((r.num n).1 = (r.take n).1) := Lib.hid <| by rw [HN.out]; rfl
      have HRB := Lib.hid hrb
      clear hx HN hrb
      go_wp2_with fail
      refine (number_calls w2 b A' c' bs HRB.out hbl).mono ?_
      rintro e w3 ⟨rfl, rfl⟩
      go_wp2
      go_ret
      unfold RetNum
      rw [HZ.out, HN1.out]
      exact ⟨rfl, HM2.out, HG2.out⟩
def errVD (c i : Nat) : VD := .pr (ErrV (some (c, i))) fun v w w' h hb => by
  obtain ⟨g, h1, h2⟩ := h
  exact ⟨g, h1, h2.below hb h2.lt⟩
theorem RdM.drew {w : World} {b c : Nat} {A : Option Addr} {r : Rdr} (h : RdM w b A c r) : RdM w.drew b A c r := ⟨h.blk, h.rb, h.cap, h.pos⟩
set_option maxHeartbeats 1000000 in
theorem end_calls (w : World) (b : Nat) (A : Option Addr) (c : Nat) (r : Rdr) (h : RdM w b A c r) (h8 : r.l.length ≤ 140737488351232) :
    Calls Tryd.prog 26 #[.pointer (some ⟨b, 0, none⟩)] w (RetErr w r.fin) := by
  have c2 : w.cell? ⟨b, 2, none⟩ = some (.int .i64 r.code) := h.blk.cell rfl
  have c1 : w.cell? ⟨b, 1, none⟩ = some (.int .i64 r.pos) := h.blk.cell rfl
  by_cases hc : r.code = 0
  · have e0 : ((r.code : Int) != 0) = false := by rw [hc]; rfl
    have e1 : (r.code : Int) = 0 := by omega
    by_cases hl : 0 < r.left
    · have hf : r.fin = some (7, r.pos) := by unfold Rdr.fin; rw [if_neg (by simpa using hc), if_pos hl]
      have HF := Lib.hid hf
      have HM := Lib.hid h
      have hl2 : (0 : Int) < (r.left : Int) := by omega
      clear hf h hc
      go_enter Tryd.func26, Tryd.ntmps26
      go_wp2_with fail
      refine (left_calls w b A c r HM.out h8).mono ?_
      rintro e w1 ⟨rfl, rfl⟩
      go_wp2_with fail
      refine (fault_new w.drew 7 r.pos (by decide)).mono ?_
      rintro e w2 ⟨⟨v, rfl, hv⟩, hb⟩
      have HV := Lib.hid hv
      have HB := Lib.hid hb
      clear hv hb
      go_wp2
      go_ret
      rw [HF.out]
      exact ⟨⟨v, rfl, HV.out⟩, (Below.refl w.heap.size w).drew.trans HB.out⟩
    · have hf : r.fin = none := by unfold Rdr.fin; rw [if_neg (by simpa using hc), if_neg hl]
      have HF := Lib.hid hf
      have HM := Lib.hid h
      have hl2 : ¬ (0 : Int) < (r.left : Int) := by omega
      clear hf h hc
      go_enter Tryd.func26, Tryd.ntmps26
      go_wp2_with fail
      refine (left_calls w b A c r HM.out h8).mono ?_
      rintro e w1 ⟨rfl, rfl⟩
      go_wp2
      go_ret
      rw [HF.out]
      exact ⟨⟨_, rfl, rfl⟩, (Below.refl w.heap.size w).drew⟩
  · have e0 : ((r.code : Int) != 0) = true := by rw [bne_iff_ne]; omega
    have e1 : ¬ (r.code : Int) = 0 := by omega
    have hf : r.fin = some (r.code, r.pos) := by unfold Rdr.fin; rw [if_pos (by simpa using hc)]
    have hc1 : 1 ≤ r.code := by omega
    have HF := Lib.hid hf
    have hbk := h.blk.lt
    have M2 : Hid (∀ w', Below w.drew.heap.size w.drew w' → w'.cell? ⟨b, 2, none⟩ = some (.int .i64 (r.code : Int))) := fun w' hb => (hb.cell (p := ⟨b, 2, none⟩) hbk).trans c2
    have M1 : Hid (∀ w', Below w.drew.heap.size w.drew w' → w'.cell? ⟨b, 1, none⟩ = some (.int .i64 (r.pos : Int))) := fun w' hb => (hb.cell (p := ⟨b, 1, none⟩) hbk).trans c1
    have SF : Hid (∀ w', Below w.drew.heap.size w.drew w' → Calls Tryd.prog 14 #[.int .i64 (r.code : Int), .int .i64 (r.pos : Int)] w' fun e w'' => ∃ v, e = .returned v ∧ (errVD r.code r.pos).ok v w'' ∧ Below w'.heap.size w' w'') :=
      fun w' _ => (fault_new w' r.code r.pos hc1).mono fun e w'' ⟨⟨v, he, hv⟩, hb⟩ => ⟨v, he, hv, hb⟩
    clear hf h hc
    go_enter Tryd.func26, Tryd.ntmps26
    go_wp2_with fail
    clear c1 c2
    refine region_monos (fun i => ([.is (.pointer (some ⟨b, 0, none⟩)), .is (.pointer (some ⟨b, 0, none⟩)), .is (.pointer (some ⟨b, 2, none⟩)), .is (.int .i64 (r.code : Int)), .is (.pointer (some ⟨b, 0, none⟩)), .is (.pointer (some ⟨b, 0, none⟩)), .is (.pointer (some ⟨b, 1, none⟩)), .is (.int .i64 (r.pos : Int)), (errVD r.code r.pos), (errVD r.code r.pos)] : List VD).getD i (.is undef)) [some 8, some 9, some 10, some 11, some 12, some 13, some 14, some 15, some 16, some 2] (by kernel_rfl) (by kernel_rfl) (by kernel_rfl) rfl (fun ii hii => ?_) ?_
    · match ii, hii with
      | 0, _ => exact mstep_first rfl (mwant_none rfl) 0 (Or.inl rfl) (by kernel_rfl) (fun _ _ => rfl)
      | 1, _ => exact mstep_pure rfl (mwant_none rfl) (fun aa ww cc => ⟨.pointer (some ⟨b, 0, none⟩), by have e0 : aa.tmps.getD 8 undef = .pointer (some ⟨b, 0, none⟩) := cc.slot 0 8 (by kernel_rfl) rfl; simp only [execOp, Act.eval, e0]; go_simp, rfl⟩)
      | 2, _ => exact mstep_pure rfl (mwant_none rfl) (fun aa ww cc => ⟨.pointer (some ⟨b, 2, none⟩), by have e0 : aa.tmps.getD 9 undef = .pointer (some ⟨b, 0, none⟩) := cc.slot 1 9 (by kernel_rfl) rfl; simp only [execOp, Act.eval, e0]; go_simp, rfl⟩)
      | 3, _ => exact mstep_pure rfl (mwant_none rfl) (fun aa ww cc => ⟨.int .i64 (r.code : Int), by have e0 : aa.tmps.getD 10 undef = .pointer (some ⟨b, 2, none⟩) := cc.slot 2 10 (by kernel_rfl) rfl; have m := M2.out _ cc.below; simp only [execOp, Act.eval, e0]; go_simp, rfl⟩)
      | 4, _ => exact mstep_first rfl (mwant_none rfl) 0 (Or.inl rfl) (by kernel_rfl) (fun _ _ => rfl)
      | 5, _ => exact mstep_pure rfl (mwant_none rfl) (fun aa ww cc => ⟨.pointer (some ⟨b, 0, none⟩), by have e0 : aa.tmps.getD 12 undef = .pointer (some ⟨b, 0, none⟩) := cc.slot 4 12 (by kernel_rfl) rfl; simp only [execOp, Act.eval, e0]; go_simp, rfl⟩)
      | 6, _ => exact mstep_pure rfl (mwant_none rfl) (fun aa ww cc => ⟨.pointer (some ⟨b, 1, none⟩), by have e0 : aa.tmps.getD 13 undef = .pointer (some ⟨b, 0, none⟩) := cc.slot 5 13 (by kernel_rfl) rfl; simp only [execOp, Act.eval, e0]; go_simp, rfl⟩)
      | 7, _ => exact mstep_pure rfl (mwant_none rfl) (fun aa ww cc => ⟨.int .i64 (r.pos : Int), by have e0 : aa.tmps.getD 14 undef = .pointer (some ⟨b, 1, none⟩) := cc.slot 6 14 (by kernel_rfl) rfl; have m := M1.out _ cc.below; simp only [execOp, Act.eval, e0]; go_simp, rfl⟩)
      | 8, _ => exact mstep_call rfl (mwant_none rfl) _ _ _ rfl (enters_of Tryd.func14 (by kernel_rfl) rfl) (fun aa ww cc => by have e0 : aa.tmps.getD 11 undef = .int .i64 (r.code : Int) := cc.slot 3 11 (by kernel_rfl) rfl; have e1 : aa.tmps.getD 15 undef = .int .i64 (r.pos : Int) := cc.slot 7 15 (by kernel_rfl) rfl; simp only [List.map_toArray, List.map_cons, List.map_nil, Act.eval, e0, e1]; exact (SF.out) ww cc.below)
      | 9, _ => exact mstep_copy rfl (mwant_none rfl) 16 (Or.inr rfl) 8 (by kernel_rfl) rfl rfl
      | n + 10, h => exact absurd h (by show ¬ (n + 10 < 10); omega)
    · intro VV w5 hlen hb5 hok
      match VV, hlen with
      | [v0, v1, v2, v3, v4, v5, v6, v7, v8, v9], _ =>
        obtain rfl : v0 = .pointer (some ⟨b, 0, none⟩) := hok 0 8 rfl
        obtain rfl : v1 = .pointer (some ⟨b, 0, none⟩) := hok 1 9 rfl
        obtain rfl : v2 = .pointer (some ⟨b, 2, none⟩) := hok 2 10 rfl
        obtain rfl : v3 = .int .i64 (r.code : Int) := hok 3 11 rfl
        obtain rfl : v4 = .pointer (some ⟨b, 0, none⟩) := hok 4 12 rfl
        obtain rfl : v5 = .pointer (some ⟨b, 0, none⟩) := hok 5 13 rfl
        obtain rfl : v6 = .pointer (some ⟨b, 1, none⟩) := hok 6 14 rfl
        obtain rfl : v7 = .int .i64 (r.pos : Int) := hok 7 15 rfl
        have p8 := hok 8 16 rfl
        have p9 := hok 9 2 rfl
        have HV : Hid (ErrV (some (r.code, r.pos)) v9 w5) := p9
        have HB5 : Hid (Below w.heap.size w w5) := hb5
        clear hok hb5 p8 p9 M1 M2 SF
        refine (by assumption : ∀ (a : Act) (w : World), Code.wp _ _ _ a w → _) _ _ ?_
        simp only [List.zip_cons_cons, List.zip_nil_right, putsL]
        go_simp
        go_wp2
        go_ret
        rw [HF.out]
        exact ⟨⟨v9, rfl, HV.out⟩, HB5.out⟩
end Go.Proofs.YtlecpekgnlaneaaDoor
