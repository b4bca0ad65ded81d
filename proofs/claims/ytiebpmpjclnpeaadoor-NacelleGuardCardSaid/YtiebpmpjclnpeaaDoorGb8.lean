/- Bundle 8 of the texts GChoose, BoxF, CrcPlain, OctNum, Filt1, REnd1. -/
import Derived.Test.YtiebpmpjclnpeaaDoorGb7
import Derived.Test.YtiebpmpjclnpeaaDoorGb1
import Derived.Test.YtiebpmpjclnpeaaDoorProg
import Derived.WalkKit
import Derived.WalkLawsBesides
import Derived.WalkSpells
import Derived.Deep.Draws
import Derived.Lib.Hide
import Derived.Test.YtiebpmpjclnpeaaDoorGb3
import Derived.Laws.MakeOwn
/- choose: the body of which the next byte is a first byte. -/
namespace Go.Proofs.YtiebpmpjclnpeaaDoor
open Go.RowKit Nac Nac.Gram
def byts (l : List UInt8) : List Nat := l.map UInt8.toNat
def RetChoose (w : World) (F : Fx) (M : List FormAt) (nm : Nat) (s : List Nat) (e : Ending) (w' : World) : Prop :=
  ((∃ p ∈ M, e = .returned (.tuple #[.slice p.2.1 p.1.body.length p.2.2, .bool true]) ∧ chooseF F (fms M) nm s = some p.1.body) ∨ (e = .returned (.tuple #[.slice none 0 0, .bool false]) ∧ chooseF F (fms M) nm s = none)) ∧ Below w.heap.size w w'
def pickP (F : Fx) (nm ch : Nat) (f : Frm) : Bool := f.name == nm && (startS F f.body).has ch
theorem choose_pick (F : Fx) (G : List Frm) (nm ch : Nat) (t : List Nat) : chooseF F G nm (ch :: t) = (G.find? (pickP F nm ch)).map (·.body) := rfl
theorem find_drop {M : List FormAt} {k : Nat} (h : k < M.length) (q : Frm → Bool) : (fms (M.drop k)).find? q = if q M[k].1 = true then some M[k].1 else (fms (M.drop (k + 1))).find? q := by
  rw [List.drop_eq_getElem_cons h]
  unfold fms
  rw [List.map_cons, List.find?_cons]
  cases q M[k].1 <;> rfl
set_option maxRecDepth 100000 in
set_option maxHeartbeats 4000000 in
theorem choose_calls (w : World) (F : Fx) (bf : Nat) (names : Int) (A A3 : Option Addr) (c c3 : Nat) (M : List FormAt) (nmx nm : Nat) (l : List UInt8) (hF : F.Ok) (hf : Blk w bf (fcells F)) (hG : Shaped (fms M) nmx) (hM : MOk M) (hr : RG w w.heap.size A M) (hl : RB w w.heap.size A3 l) (hlm : l.length ≤ 9223372036854775807) :
    Calls Tryd.prog 25 #[.pointer (some ⟨bf, 0, none⟩), .agg (grv names A M.length c).toArray, .int .i64 (nm : Int), .slice A3 l.length c3] w (RetChoose w F M nm (byts l)) := by
  have HFO := Lib.hid hF
  have HBF := Lib.hid hf
  have HGS := Lib.hid hG
  have HMO := Lib.hid hM
  have HR := Lib.hid hr
  have HL := Lib.hid hl
  obtain ⟨n, hnl⟩ : ∃ n, n = M.length := ⟨_, rfl⟩
  have HNL := Lib.hid hnl
  rw [← hnl]
  have hm : n ≤ 9223372036854775807 := by rw [hnl]; exact hM.len
  obtain ⟨L3, hL3⟩ : ∃ L3, L3 = l.length := ⟨_, rfl⟩
  have HL3 := Lib.hid hL3
  rw [← hL3] at hlm ⊢
  clear hF hf hG hM hr hnl hl hL3
  go_enter Tryd.func25, Tryd.ntmps25
  go_wp2_with (first | ((with_reducible show wpList _ _ _ (Oper.mk (some 5) (Op.box 27 _) _ _ _ _ :: _) _ _); refine wpList_boxS (T := 27) rfl _ rfl (grv names A n c) rfl ?_) | fail)
  intro w1 hb1 hg1 hs1
  obtain ⟨b5, hb5e⟩ : ∃ b, b = w.heap.size := ⟨_, rfl⟩
  rw [← hb5e] at hb1 ⊢
  have HB1 := Lib.hid hb1
  have HW1 : Hid (Below w.heap.size w w1) := Lib.hid (grown_below hg1 (Nat.le_refl _) (fun k e => by cases e))
  have hc1 : w1.cell? ⟨b5, 1, none⟩ = some (.slice A n c) := hb1.cell rfl
  clear hb1 hg1 hs1 hb5e
  by_cases h0 : L3 = 0
  · have HZ : Hid (l = []) := Lib.hid (List.eq_nil_of_length_eq_zero (by rw [← HL3.out]; exact h0))
    subst h0
    go_wp2
    go_ret2
    exact ⟨.inr ⟨rfl, by rw [HZ.out]; rfl⟩, HW1.out⟩
  · obtain ⟨x3, t3, hlx⟩ : ∃ x t, l = x :: t := by
      cases l with
      | nil => exact absurd HL3.out h0
      | cons x t => exact ⟨x, t, rfl⟩
    obtain ⟨g3, o3, hA3, hg3s, hcb⟩ := HL.out (by rw [hlx]; simp)
    subst hA3
    obtain ⟨ch, hch⟩ : ∃ ch, ch = x3.toNat := ⟨_, rfl⟩
    have HCH : Hid (ch < 256) := Lib.hid (by rw [hch]; exact x3.toNat_lt)
    have HLX : Hid (byts l = ch :: byts t3) := Lib.hid (by rw [hlx, hch]; rfl)
    have HC0 : Hid (w.cell? ⟨g3, o3, none⟩ = some (.int .u8 (ch : Int)) ∧ g3 < w.heap.size) := Lib.hid ⟨by
      subst hlx
      have := hcb 0 (by simp)
      simpa [hch] using this, hg3s⟩
    have QL : Hid (0 < L3) := Lib.hid (by omega)
    clear hch hcb hg3s hlx
    have hne0 : ((L3 : Int) == 0) = false := by simpa using h0
    go_wp2
    clear hc1
    go_loopw [18] (fun s18 wr => ∃ (k : Nat), k ≤ n ∧ s18 = .int .i64 (k : Int) ∧ Below w.heap.size w wr ∧ (fms M).find? (pickP F nm ch) = (fms (M.drop k)).find? (pickP F nm ch)) (fun s18 _ => n - (intOf s18).toNat)
    case atStart => exact ⟨0, Nat.zero_le _, rfl, HW1.out, rfl⟩
    case round =>
      obtain ⟨k, hk, rfl, hbw, hfd⟩ := hrel
      have HW := Lib.hid hbw
      have HFD := Lib.hid hfd
      clear hbw hfd HB1 HW1
      have HBFr : Hid (Blk wr bf (fcells F)) := Lib.hid (HBF.out.below HW.out HBF.out.lt)
      by_cases hlt : k < n
      · have hkl : k < M.length := by rw [← HNL.out]; exact hlt
        have HKL := Lib.hid hkl
        obtain ⟨g, kk, hA, hgB, hgs, hrow⟩ := HR.out.rows (by rintro rfl; simp at hkl)
        subst hA
        obtain ⟨p, hp⟩ : ∃ p, p = M[k] := ⟨_, rfl⟩
        have HPM : Hid (p ∈ M) := Lib.hid (by rw [hp]; exact List.getElem_mem hkl)
        have HPF : Hid (p.1 ∈ fms M) := Lib.hid (List.mem_map.2 ⟨p, HPM.out, rfl⟩)
        have HROW : Hid (wr.rangeAt g (kk + k * 2) (frv p.1 p.2.1 p.2.2)) := Lib.hid (by rw [hp]; exact range_below (hrow k hkl) HW.out hgB)
        have HPI : Hid (∃ h : k < M.length, p = M[k]) := Lib.hid ⟨hkl, hp⟩
        clear hp hkl hgB hgs hrow
        go_wp2_with (first
          | ((with_reducible show wpList _ _ _ (Oper.mk _ (Op.load 105 _) _ _ _ _ :: _) _ _); refine wpList_loadM sFrm rfl _ rfl g (kk + k * 2) (frv p.1 p.2.1 p.2.2) rfl HROW.out rfl ?_)
          | ((with_reducible show wpList _ _ _ (Oper.mk _ (Op.alloc 105) _ _ _ _ :: _) _ _); refine wpList_allocS _ zFrm rfl rfl ?_)
          | fail)
        intro w2 hb2 hg2 hs2
        obtain ⟨b11, hb11e⟩ : ∃ b, b = wr.heap.size := ⟨_, rfl⟩
        rw [← hb11e] at hb2 ⊢
        have HB2 := Lib.hid hb2
        have HG2 : Hid (Below wr.heap.size wr w2 ∧ wr.heap.size ≤ b11) := Lib.hid ⟨grown_below hg2 (Nat.le_refl _) (fun k e => by cases e), by omega⟩
        clear hb2 hg2 hs2 hb11e HROW
        go_wp2_with (first
          | ((with_reducible show wpList _ _ _ (Oper.mk _ (Op.store 105 _ _) _ _ _ _ :: _) _ _); refine wpList_storeS sFrm rfl _ _ rfl b11 _ (frv p.1 p.2.1 p.2.2) rfl rfl HB2.out rfl rfl (frv_one _ _ _) ?_)
          | fail)
        intro w3 hb3 hg3
        have hGW : Below wr.heap.size wr w3 := below_trans HG2.out.1 (grown_below hg3 HG2.out.1.size fun k e => by injection e with e; have := HG2.out.2; omega)
        have HB10 := Lib.hid hb3
        have HBF3 : Hid (Blk w3 bf (fcells F)) := Lib.hid (HBFr.out.below hGW HBFr.out.lt)
        have HW3 : Hid (Below w.heap.size w w3) := Lib.hid (below_trans HW.out (hGW.mono HW.out.size))
        have HRS3 : Hid (RS w3 w.heap.size p.2.1 p.1.body) := Lib.hid ((HR.out.body p HPM.out).below HW3.out (Nat.le_refl _))
        clear hb3 hg3 HB2 HG2 hGW HBFr HW
        obtain ⟨pn, hpn⟩ : ∃ pn, pn = p.1.name := ⟨_, rfl⟩
        have N1 : Hid (∀ w', Below w3.drew.heap.size w3.drew w' → w'.cell? ⟨b11, 0, none⟩ = some (.int .i64 (pn : Int))) := Lib.hid fun w' hb => (HB10.out.drew.below hb HB10.out.lt).cell (by rw [hpn]; rfl)
        obtain ⟨hpl, hpe⟩ := HPI.out
        have hfs2 := find_drop hpl (pickP F nm ch)
        rw [← hpe] at hfs2
        have HFS := Lib.hid hfs2
        clear hfs2 hpl hpe
        by_cases hne : pn = nm
        · have HPN : Hid (p.1.name = nm) := Lib.hid (by rw [← hpn, hne])
          have QE : Hid (((nm : Int) == nm) = true) := Lib.hid (by simp)
          rw [hne] at hpn N1
          clear hne
          obtain ⟨A2, hA2⟩ : ∃ A2, A2 = p.2.1 := ⟨_, rfl⟩
          obtain ⟨c2, hc2⟩ : ∃ c2, c2 = p.2.2 := ⟨_, rfl⟩
          obtain ⟨L2, hL2⟩ : ∃ L2, L2 = p.1.body.length := ⟨_, rfl⟩
          have HA2 : Hid (A2 = p.2.1 ∧ c2 = p.2.2 ∧ L2 = p.1.body.length) := Lib.hid ⟨hA2, hc2, hL2⟩
          have NB : Hid (∀ w', Below w3.drew.heap.size w3.drew w' → w'.cell? ⟨b11, 1, none⟩ = some (.slice A2 L2 c2)) := Lib.hid fun w' hb => (HB10.out.drew.below hb HB10.out.lt).cell (by rw [hA2, hc2, hL2]; rfl)
          have NC : Hid (∀ w', Below w3.drew.heap.size w3.drew w' → w'.cell? ⟨g3, o3, none⟩ = some (.int .u8 (ch : Int))) := Lib.hid fun w' hb => by
            rw [hb.cell (p := ⟨g3, o3, none⟩) (Nat.lt_of_lt_of_le HC0.out.2 HW3.out.size), show w3.drew.cell? ⟨g3, o3, none⟩ = w3.cell? ⟨g3, o3, none⟩ from rfl, HW3.out.cell (p := ⟨g3, o3, none⟩) HC0.out.2]
            exact HC0.out.1
          obtain ⟨sn, hsn⟩ : ∃ sn, sn = startS F p.1.body := ⟨_, rfl⟩
          have HSN := Lib.hid hsn
          have hfb := HGS.out.byte p.1 HPF.out
          have hfs : ∀ x ∈ p.1.body, x.name < 16 := fun x hx => by have := HGS.out.sign p.1 HPF.out x hx; have := HGS.out.n16; omega
          have hfl : p.1.body.length ≤ 9223372036854775807 := Nat.le_trans (HMO.out.cap p HPM.out).1 (HMO.out.cap p HPM.out).2
          have HSO : Hid sn.ok := Lib.hid (by rw [hsn]; exact startS_ok HFO.out fun x hx => (hfb x hx).2)
          have HRSX : Hid (∀ w', Below w3.drew.heap.size w3.drew w' → RS w' w'.heap.size p.2.1 p.1.body) := Lib.hid fun w' hb => ((HRS3.out.below (below_trans (drew_below _ _) hb) HW3.out.size).mono (Nat.le_trans HW3.out.size hb.size))
          have CS : Hid (∀ w', Below w3.drew.heap.size w3.drew w' → Calls Tryd.prog 34 #[.pointer (some ⟨bf, 0, none⟩), .slice A2 L2 c2] w' fun e w'' => ∃ v, e = .returned v ∧ (VD.is (.agg (scs sn).toArray)).ok v w'' ∧ Below w'.heap.size w' w'') := Lib.hid fun w' hb => by
            rw [hsn, hL2, hA2]
            exact (start_calls w' F bf _ c2 p.1.body HFO.out (HBF3.out.drew.below hb HBF3.out.lt) (HRSX.out w' hb) hfs hfb hfl).mono fun _ _ h => h.ex
          cases hhb : sn.has ch with
          | true =>
            have CH : Hid (∀ w', Below w3.drew.heap.size w3.drew w' → Calls Tryd.prog 35 #[.agg (scs sn).toArray, .int .u8 (ch : Int)] w' fun e w'' => ∃ v, e = .returned v ∧ (VD.is (.bool true)).ok v w'' ∧ Below w'.heap.size w' w'') := Lib.hid fun w' hb => by
              rw [← hhb]
              exact (has_calls w' sn ch HSO.out HCH.out).mono fun _ _ h => h.ex
            have HE : Hid (chooseF F (fms M) nm (byts l) = some p.1.body) := Lib.hid (by
              rw [HLX.out, choose_pick, HFD.out, HFS.out, if_pos (by unfold pickP; rw [HPN.out, ← hsn, hhb]; simp)]; rfl)
            clear hpn hsn hhb hA2 hc2 hL2 hfb hfs hfl HRSX
            go_wp2_with fail
            refine region_monos (fun ix9 => ([.is (.pointer (some ⟨b11, 0, none⟩)), .is (.int .i64 (nm : Int)), .is (.int .i64 (nm : Int)), .is (.bool true), .is (.bool true), .is (.pointer (some ⟨bf, 0, none⟩)), .is (.pointer (some ⟨b11, 1, none⟩)), .is (.slice A2 L2 c2), .is (.agg (scs sn).toArray), .is (.slice (some ⟨g3, o3, none⟩) L3 c3), .is (.pointer (some ⟨g3, o3, none⟩)), .is (.int .u8 (ch : Int)), .is (.bool true), .is (.bool true)] : List VD).getD ix9 (.is undef)) [some 22, some 23, some 24, some 25, some 26, some 27, some 28, some 29, some 30, some 31, some 32, some 33, some 34, some 35] (by kernel_rfl) (by kernel_rfl) (by kernel_rfl) rfl (fun ii hii => ?_) ?_
            · match ii, hii with
              | 0, _ => exact mstep_pure rfl (mwant_none rfl) (fun aa ww cc => ⟨.pointer (some ⟨b11, 0, none⟩), by have e0 : aa.tmps.getD 11 undef = .pointer (some ⟨b11, 0, none⟩) := (cc.orig 11 (by kernel_rfl)).trans rfl; simp only [execOp, Act.eval, e0]; go_simp, rfl⟩)
              | 1, _ => exact mstep_pure rfl (mwant_none rfl) (fun aa ww cc => ⟨.int .i64 (nm : Int), by have e0 : aa.tmps.getD 22 undef = .pointer (some ⟨b11, 0, none⟩) := cc.slot 0 22 (by kernel_rfl) rfl; have m := N1.out _ cc.below; simp only [execOp, Act.eval, e0]; go_simp, rfl⟩)
              | 2, _ => exact mstep_first rfl (mwant_none rfl) 2 (Or.inl rfl) (by kernel_rfl) (fun _ _ => rfl)
              | 3, _ => exact mstep_pure rfl (mwant_none rfl) (fun aa ww cc => ⟨.bool true, by have e0 : aa.tmps.getD 23 undef = .int .i64 (nm : Int) := cc.slot 1 23 (by kernel_rfl) rfl; have e1 : aa.tmps.getD 24 undef = .int .i64 (nm : Int) := cc.slot 2 24 (by kernel_rfl) rfl; have q := QE.out; simp only [execOp, Act.eval, e0, e1]; go_simp, rfl⟩)
              | 4, _ => exact mstep_copy rfl (mwant_none rfl) 25 (Or.inl rfl) 3 (by kernel_rfl) rfl rfl
              | 5, _ => exact mstep_first rfl (mwant 4 true 26 rfl (by kernel_rfl) rfl rfl (by kernel_rfl)) 0 (Or.inl rfl) (by kernel_rfl) (fun _ _ => rfl)
              | 6, _ => exact mstep_pure rfl (mwant 4 true 26 rfl (by kernel_rfl) rfl rfl (by kernel_rfl)) (fun aa ww cc => ⟨.pointer (some ⟨b11, 1, none⟩), by have e0 : aa.tmps.getD 11 undef = .pointer (some ⟨b11, 0, none⟩) := (cc.orig 11 (by kernel_rfl)).trans rfl; simp only [execOp, Act.eval, e0]; go_simp, rfl⟩)
              | 7, _ => exact mstep_pure rfl (mwant 4 true 26 rfl (by kernel_rfl) rfl rfl (by kernel_rfl)) (fun aa ww cc => ⟨.slice A2 L2 c2, by have e0 : aa.tmps.getD 28 undef = .pointer (some ⟨b11, 1, none⟩) := cc.slot 6 28 (by kernel_rfl) rfl; have m := NB.out _ cc.below; simp only [execOp, Act.eval, e0]; go_simp, rfl⟩)
              | 8, _ => exact mstep_call rfl (mwant 4 true 26 rfl (by kernel_rfl) rfl rfl (by kernel_rfl)) _ _ _ rfl (enters_of Tryd.func34 (by kernel_rfl) rfl) (fun aa ww cc => by have e0 : aa.tmps.getD 27 undef = .pointer (some ⟨bf, 0, none⟩) := cc.slot 5 27 (by kernel_rfl) rfl; have e1 : aa.tmps.getD 29 undef = .slice A2 L2 c2 := cc.slot 7 29 (by kernel_rfl) rfl; simp only [List.map_toArray, List.map_cons, List.map_nil, Act.eval, e0, e1]; exact (CS.out) ww cc.below)
              | 9, _ => exact mstep_first rfl (mwant 4 true 26 rfl (by kernel_rfl) rfl rfl (by kernel_rfl)) 3 (Or.inl rfl) (by kernel_rfl) (fun _ _ => rfl)
              | 10, _ => exact mstep_pure rfl (mwant 4 true 26 rfl (by kernel_rfl) rfl rfl (by kernel_rfl)) (fun aa ww cc => ⟨.pointer (some ⟨g3, o3, none⟩), by have e0 : aa.tmps.getD 31 undef = .slice (some ⟨g3, o3, none⟩) L3 c3 := cc.slot 9 31 (by kernel_rfl) rfl; have q := QL.out; simp only [execOp, Act.eval, e0]; go_simp, rfl⟩)
              | 11, _ => exact mstep_pure rfl (mwant 4 true 26 rfl (by kernel_rfl) rfl rfl (by kernel_rfl)) (fun aa ww cc => ⟨.int .u8 (ch : Int), by have e0 : aa.tmps.getD 32 undef = .pointer (some ⟨g3, o3, none⟩) := cc.slot 10 32 (by kernel_rfl) rfl; have m := NC.out _ cc.below; simp only [execOp, Act.eval, e0]; go_simp, rfl⟩)
              | 12, _ => exact mstep_call rfl (mwant 4 true 26 rfl (by kernel_rfl) rfl rfl (by kernel_rfl)) _ _ _ rfl (enters_of Tryd.func35 (by kernel_rfl) rfl) (fun aa ww cc => by have e0 : aa.tmps.getD 30 undef = .agg (scs sn).toArray := cc.slot 8 30 (by kernel_rfl) rfl; have e1 : aa.tmps.getD 33 undef = .int .u8 (ch : Int) := cc.slot 11 33 (by kernel_rfl) rfl; simp only [List.map_toArray, List.map_cons, List.map_nil, Act.eval, e0, e1]; exact (CH.out) ww cc.below)
              | 13, _ => exact mstep_pure rfl (mwant_none rfl) (fun aa ww cc => ⟨.bool true, by have e0 : aa.tmps.getD 26 undef = .bool true := cc.slot 4 26 (by kernel_rfl) rfl; have e1 : aa.tmps.getD 34 undef = .bool true := cc.slot 12 34 (by kernel_rfl) rfl; simp only [execOp, Act.eval, e0, e1]; go_simp, rfl⟩)
              | n + 14, h => exact absurd h (by show ¬ (n + 14 < 14); omega)
            · intro VV w5 hlen hb5 hok
              match VV, hlen with
              | [v0, v1, v2, v3, v4, v5, v6, v7, v8, v9, v10, v11, v12, v13], _ =>
                obtain rfl : v0 = .pointer (some ⟨b11, 0, none⟩) := hok 0 22 rfl
                obtain rfl : v1 = .int .i64 (nm : Int) := hok 1 23 rfl
                obtain rfl : v2 = .int .i64 (nm : Int) := hok 2 24 rfl
                obtain rfl : v3 = .bool true := hok 3 25 rfl
                obtain rfl : v4 = .bool true := hok 4 26 rfl
                obtain rfl : v5 = .pointer (some ⟨bf, 0, none⟩) := hok 5 27 rfl
                obtain rfl : v6 = .pointer (some ⟨b11, 1, none⟩) := hok 6 28 rfl
                obtain rfl : v7 = .slice A2 L2 c2 := hok 7 29 rfl
                obtain rfl : v8 = .agg (scs sn).toArray := hok 8 30 rfl
                obtain rfl : v9 = .slice (some ⟨g3, o3, none⟩) L3 c3 := hok 9 31 rfl
                obtain rfl : v10 = .pointer (some ⟨g3, o3, none⟩) := hok 10 32 rfl
                obtain rfl : v11 = .int .u8 (ch : Int) := hok 11 33 rfl
                obtain rfl : v12 = .bool true := hok 12 34 rfl
                obtain rfl : v13 = .bool true := hok 13 35 rfl
                have HW5 : Hid (Below w.heap.size w w5) := Lib.hid (below_trans HW3.out (hb5.mono HW3.out.size))
                have hc5 : w5.cell? ⟨b11, 1, none⟩ = some (.slice A2 L2 c2) := (HB10.out.below hb5 HB10.out.lt).cell (by rw [HA2.out.1, HA2.out.2.1, HA2.out.2.2]; rfl)
                clear hb5 hok N1 NB NC CS CH HB10 HBF3 HRS3
                simp only [List.zip_cons_cons, List.zip_nil_right, putsL]
                go_simp
                go_wp2
                go_ret2
                exact ⟨.inl ⟨p, HPM.out, (show Ending.returned (.tuple #[.slice A2 L2 c2, .bool true]) = .returned (.tuple #[.slice p.2.1 p.1.body.length p.2.2, .bool true]) by rw [← HA2.out.1, ← HA2.out.2.1, ← HA2.out.2.2]), HE.out⟩, HW5.out⟩
          | false =>
            have CH : Hid (∀ w', Below w3.drew.heap.size w3.drew w' → Calls Tryd.prog 35 #[.agg (scs sn).toArray, .int .u8 (ch : Int)] w' fun e w'' => ∃ v, e = .returned v ∧ (VD.is (.bool false)).ok v w'' ∧ Below w'.heap.size w' w'') := Lib.hid fun w' hb => by
              rw [← hhb]
              exact (has_calls w' sn ch HSO.out HCH.out).mono fun _ _ h => h.ex
            have HE : Hid ((fms M).find? (pickP F nm ch) = (fms (M.drop (k + 1))).find? (pickP F nm ch)) := Lib.hid (by
              rw [HFD.out, HFS.out, if_neg (by unfold pickP; rw [← hsn, hhb]; simp)])
            clear hpn hsn hhb hA2 hc2 hL2 hfb hfs hfl HRSX
            go_wp2_with fail
            refine region_monos (fun ix9 => ([.is (.pointer (some ⟨b11, 0, none⟩)), .is (.int .i64 (nm : Int)), .is (.int .i64 (nm : Int)), .is (.bool true), .is (.bool true), .is (.pointer (some ⟨bf, 0, none⟩)), .is (.pointer (some ⟨b11, 1, none⟩)), .is (.slice A2 L2 c2), .is (.agg (scs sn).toArray), .is (.slice (some ⟨g3, o3, none⟩) L3 c3), .is (.pointer (some ⟨g3, o3, none⟩)), .is (.int .u8 (ch : Int)), .is (.bool false), .is (.bool false)] : List VD).getD ix9 (.is undef)) [some 22, some 23, some 24, some 25, some 26, some 27, some 28, some 29, some 30, some 31, some 32, some 33, some 34, some 35] (by kernel_rfl) (by kernel_rfl) (by kernel_rfl) rfl (fun ii hii => ?_) ?_
            · match ii, hii with
              | 0, _ => exact mstep_pure rfl (mwant_none rfl) (fun aa ww cc => ⟨.pointer (some ⟨b11, 0, none⟩), by have e0 : aa.tmps.getD 11 undef = .pointer (some ⟨b11, 0, none⟩) := (cc.orig 11 (by kernel_rfl)).trans rfl; simp only [execOp, Act.eval, e0]; go_simp, rfl⟩)
              | 1, _ => exact mstep_pure rfl (mwant_none rfl) (fun aa ww cc => ⟨.int .i64 (nm : Int), by have e0 : aa.tmps.getD 22 undef = .pointer (some ⟨b11, 0, none⟩) := cc.slot 0 22 (by kernel_rfl) rfl; have m := N1.out _ cc.below; simp only [execOp, Act.eval, e0]; go_simp, rfl⟩)
              | 2, _ => exact mstep_first rfl (mwant_none rfl) 2 (Or.inl rfl) (by kernel_rfl) (fun _ _ => rfl)
              | 3, _ => exact mstep_pure rfl (mwant_none rfl) (fun aa ww cc => ⟨.bool true, by have e0 : aa.tmps.getD 23 undef = .int .i64 (nm : Int) := cc.slot 1 23 (by kernel_rfl) rfl; have e1 : aa.tmps.getD 24 undef = .int .i64 (nm : Int) := cc.slot 2 24 (by kernel_rfl) rfl; have q := QE.out; simp only [execOp, Act.eval, e0, e1]; go_simp, rfl⟩)
              | 4, _ => exact mstep_copy rfl (mwant_none rfl) 25 (Or.inl rfl) 3 (by kernel_rfl) rfl rfl
              | 5, _ => exact mstep_first rfl (mwant 4 true 26 rfl (by kernel_rfl) rfl rfl (by kernel_rfl)) 0 (Or.inl rfl) (by kernel_rfl) (fun _ _ => rfl)
              | 6, _ => exact mstep_pure rfl (mwant 4 true 26 rfl (by kernel_rfl) rfl rfl (by kernel_rfl)) (fun aa ww cc => ⟨.pointer (some ⟨b11, 1, none⟩), by have e0 : aa.tmps.getD 11 undef = .pointer (some ⟨b11, 0, none⟩) := (cc.orig 11 (by kernel_rfl)).trans rfl; simp only [execOp, Act.eval, e0]; go_simp, rfl⟩)
              | 7, _ => exact mstep_pure rfl (mwant 4 true 26 rfl (by kernel_rfl) rfl rfl (by kernel_rfl)) (fun aa ww cc => ⟨.slice A2 L2 c2, by have e0 : aa.tmps.getD 28 undef = .pointer (some ⟨b11, 1, none⟩) := cc.slot 6 28 (by kernel_rfl) rfl; have m := NB.out _ cc.below; simp only [execOp, Act.eval, e0]; go_simp, rfl⟩)
              | 8, _ => exact mstep_call rfl (mwant 4 true 26 rfl (by kernel_rfl) rfl rfl (by kernel_rfl)) _ _ _ rfl (enters_of Tryd.func34 (by kernel_rfl) rfl) (fun aa ww cc => by have e0 : aa.tmps.getD 27 undef = .pointer (some ⟨bf, 0, none⟩) := cc.slot 5 27 (by kernel_rfl) rfl; have e1 : aa.tmps.getD 29 undef = .slice A2 L2 c2 := cc.slot 7 29 (by kernel_rfl) rfl; simp only [List.map_toArray, List.map_cons, List.map_nil, Act.eval, e0, e1]; exact (CS.out) ww cc.below)
              | 9, _ => exact mstep_first rfl (mwant 4 true 26 rfl (by kernel_rfl) rfl rfl (by kernel_rfl)) 3 (Or.inl rfl) (by kernel_rfl) (fun _ _ => rfl)
              | 10, _ => exact mstep_pure rfl (mwant 4 true 26 rfl (by kernel_rfl) rfl rfl (by kernel_rfl)) (fun aa ww cc => ⟨.pointer (some ⟨g3, o3, none⟩), by have e0 : aa.tmps.getD 31 undef = .slice (some ⟨g3, o3, none⟩) L3 c3 := cc.slot 9 31 (by kernel_rfl) rfl; have q := QL.out; simp only [execOp, Act.eval, e0]; go_simp, rfl⟩)
              | 11, _ => exact mstep_pure rfl (mwant 4 true 26 rfl (by kernel_rfl) rfl rfl (by kernel_rfl)) (fun aa ww cc => ⟨.int .u8 (ch : Int), by have e0 : aa.tmps.getD 32 undef = .pointer (some ⟨g3, o3, none⟩) := cc.slot 10 32 (by kernel_rfl) rfl; have m := NC.out _ cc.below; simp only [execOp, Act.eval, e0]; go_simp, rfl⟩)
              | 12, _ => exact mstep_call rfl (mwant 4 true 26 rfl (by kernel_rfl) rfl rfl (by kernel_rfl)) _ _ _ rfl (enters_of Tryd.func35 (by kernel_rfl) rfl) (fun aa ww cc => by have e0 : aa.tmps.getD 30 undef = .agg (scs sn).toArray := cc.slot 8 30 (by kernel_rfl) rfl; have e1 : aa.tmps.getD 33 undef = .int .u8 (ch : Int) := cc.slot 11 33 (by kernel_rfl) rfl; simp only [List.map_toArray, List.map_cons, List.map_nil, Act.eval, e0, e1]; exact (CH.out) ww cc.below)
              | 13, _ => exact mstep_pure rfl (mwant_none rfl) (fun aa ww cc => ⟨.bool false, by have e0 : aa.tmps.getD 26 undef = .bool true := cc.slot 4 26 (by kernel_rfl) rfl; have e1 : aa.tmps.getD 34 undef = .bool false := cc.slot 12 34 (by kernel_rfl) rfl; simp only [execOp, Act.eval, e0, e1]; go_simp, rfl⟩)
              | n + 14, h => exact absurd h (by show ¬ (n + 14 < 14); omega)
            · intro VV w5 hlen hb5 hok
              match VV, hlen with
              | [v0, v1, v2, v3, v4, v5, v6, v7, v8, v9, v10, v11, v12, v13], _ =>
                obtain rfl : v0 = .pointer (some ⟨b11, 0, none⟩) := hok 0 22 rfl
                obtain rfl : v1 = .int .i64 (nm : Int) := hok 1 23 rfl
                obtain rfl : v2 = .int .i64 (nm : Int) := hok 2 24 rfl
                obtain rfl : v3 = .bool true := hok 3 25 rfl
                obtain rfl : v4 = .bool true := hok 4 26 rfl
                obtain rfl : v5 = .pointer (some ⟨bf, 0, none⟩) := hok 5 27 rfl
                obtain rfl : v6 = .pointer (some ⟨b11, 1, none⟩) := hok 6 28 rfl
                obtain rfl : v7 = .slice A2 L2 c2 := hok 7 29 rfl
                obtain rfl : v8 = .agg (scs sn).toArray := hok 8 30 rfl
                obtain rfl : v9 = .slice (some ⟨g3, o3, none⟩) L3 c3 := hok 9 31 rfl
                obtain rfl : v10 = .pointer (some ⟨g3, o3, none⟩) := hok 10 32 rfl
                obtain rfl : v11 = .int .u8 (ch : Int) := hok 11 33 rfl
                obtain rfl : v12 = .bool false := hok 12 34 rfl
                obtain rfl : v13 = .bool false := hok 13 35 rfl
                have HW5 : Hid (Below w.heap.size w w5) := Lib.hid (below_trans HW3.out (hb5.mono HW3.out.size))
                clear hb5 hok N1 NB NC CS CH HB10 HBF3 HRS3
                simp only [List.zip_cons_cons, List.zip_nil_right, putsL]
                go_simp
                go_wp2
                go_roundw
                case rel => exact ⟨k + 1, by omega, by go_num, HW5.out, HE.out⟩
                case measure => simp [intOf]; omega
        · have QE : Hid (((pn : Int) == nm) = false) := Lib.hid (by simpa using fun e : (pn : Int) = nm => hne (by omega))
          have HE : Hid ((fms M).find? (pickP F nm ch) = (fms (M.drop (k + 1))).find? (pickP F nm ch)) := Lib.hid (by
            rw [HFD.out, HFS.out, if_neg (by unfold pickP; rw [← hpn]; simp [hne])])
          clear hpn hne
          go_wp2_with fail
          refine region_monos (fun ix9 => ([.is (.pointer (some ⟨b11, 0, none⟩)), .is (.int .i64 (pn : Int)), .is (.int .i64 (nm : Int)), .is (.bool false), .is (.bool false), .is (undef), .is (undef), .is (undef), .is (undef), .is (undef), .is (undef), .is (undef), .is (undef), .is (.bool false)] : List VD).getD ix9 (.is undef)) [some 22, some 23, some 24, some 25, some 26, some 27, some 28, some 29, some 30, some 31, some 32, some 33, some 34, some 35] (by kernel_rfl) (by kernel_rfl) (by kernel_rfl) rfl (fun ii hii => ?_) ?_
          · match ii, hii with
            | 0, _ => exact mstep_pure rfl (mwant_none rfl) (fun aa ww cc => ⟨.pointer (some ⟨b11, 0, none⟩), by have e0 : aa.tmps.getD 11 undef = .pointer (some ⟨b11, 0, none⟩) := (cc.orig 11 (by kernel_rfl)).trans rfl; simp only [execOp, Act.eval, e0]; go_simp, rfl⟩)
            | 1, _ => exact mstep_pure rfl (mwant_none rfl) (fun aa ww cc => ⟨.int .i64 (pn : Int), by have e0 : aa.tmps.getD 22 undef = .pointer (some ⟨b11, 0, none⟩) := cc.slot 0 22 (by kernel_rfl) rfl; have m := N1.out _ cc.below; simp only [execOp, Act.eval, e0]; go_simp, rfl⟩)
            | 2, _ => exact mstep_first rfl (mwant_none rfl) 2 (Or.inl rfl) (by kernel_rfl) (fun _ _ => rfl)
            | 3, _ => exact mstep_pure rfl (mwant_none rfl) (fun aa ww cc => ⟨.bool false, by have e0 : aa.tmps.getD 23 undef = .int .i64 (pn : Int) := cc.slot 1 23 (by kernel_rfl) rfl; have e1 : aa.tmps.getD 24 undef = .int .i64 (nm : Int) := cc.slot 2 24 (by kernel_rfl) rfl; have q := QE.out; simp only [execOp, Act.eval, e0, e1]; go_simp, rfl⟩)
            | 4, _ => exact mstep_copy rfl (mwant_none rfl) 25 (Or.inl rfl) 3 (by kernel_rfl) rfl rfl
            | 5, _ => exact mstep_unwanted rfl 4 true 26 rfl (by kernel_rfl) rfl (Or.inl rfl) (by kernel_rfl) rfl
            | 6, _ => exact mstep_unwanted rfl 4 true 26 rfl (by kernel_rfl) rfl (Or.inl rfl) (by kernel_rfl) rfl
            | 7, _ => exact mstep_unwanted rfl 4 true 26 rfl (by kernel_rfl) rfl (Or.inl rfl) (by kernel_rfl) rfl
            | 8, _ => exact mstep_unwanted rfl 4 true 26 rfl (by kernel_rfl) rfl (Or.inl rfl) (by kernel_rfl) rfl
            | 9, _ => exact mstep_unwanted rfl 4 true 26 rfl (by kernel_rfl) rfl (Or.inl rfl) (by kernel_rfl) rfl
            | 10, _ => exact mstep_unwanted rfl 4 true 26 rfl (by kernel_rfl) rfl (Or.inl rfl) (by kernel_rfl) rfl
            | 11, _ => exact mstep_unwanted rfl 4 true 26 rfl (by kernel_rfl) rfl (Or.inl rfl) (by kernel_rfl) rfl
            | 12, _ => exact mstep_unwanted rfl 4 true 26 rfl (by kernel_rfl) rfl (Or.inl rfl) (by kernel_rfl) rfl
            | 13, _ => exact mstep_pure rfl (mwant_none rfl) (fun aa ww cc => ⟨.bool false, by have e0 : aa.tmps.getD 26 undef = .bool false := cc.slot 4 26 (by kernel_rfl) rfl; simp only [execOp, Act.eval, e0]; go_simp, rfl⟩)
            | n + 14, h => exact absurd h (by show ¬ (n + 14 < 14); omega)
          · intro VV w5 hlen hb5 hok
            match VV, hlen with
            | [v0, v1, v2, v3, v4, v5, v6, v7, v8, v9, v10, v11, v12, v13], _ =>
              obtain rfl : v0 = .pointer (some ⟨b11, 0, none⟩) := hok 0 22 rfl
              obtain rfl : v1 = .int .i64 (pn : Int) := hok 1 23 rfl
              obtain rfl : v2 = .int .i64 (nm : Int) := hok 2 24 rfl
              obtain rfl : v3 = .bool false := hok 3 25 rfl
              obtain rfl : v4 = .bool false := hok 4 26 rfl
              obtain rfl : v5 = undef := hok 5 27 rfl
              obtain rfl : v6 = undef := hok 6 28 rfl
              obtain rfl : v7 = undef := hok 7 29 rfl
              obtain rfl : v8 = undef := hok 8 30 rfl
              obtain rfl : v9 = undef := hok 9 31 rfl
              obtain rfl : v10 = undef := hok 10 32 rfl
              obtain rfl : v11 = undef := hok 11 33 rfl
              obtain rfl : v12 = undef := hok 12 34 rfl
              obtain rfl : v13 = .bool false := hok 13 35 rfl
              have HW5 : Hid (Below w.heap.size w w5) := Lib.hid (below_trans HW3.out (hb5.mono HW3.out.size))
              clear hb5 hok N1 HB10 HBF3 HRS3
              simp only [List.zip_cons_cons, List.zip_nil_right, putsL]
              go_simp
              go_wp2
              go_roundw
              case rel => exact ⟨k + 1, by omega, by go_num, HW5.out, HE.out⟩
              case measure => simp [intOf]; omega
      · have HE : Hid (chooseF F (fms M) nm (byts l) = none) := Lib.hid (by
          rw [HLX.out, choose_pick, HFD.out, List.drop_of_length_le (by have := HNL.out; omega)]; rfl)
        go_wp2
        go_ret2
        exact ⟨.inr ⟨rfl, HE.out⟩, HW.out⟩
end Go.Proofs.YtiebpmpjclnpeaaDoor
/- Boxes known whole; faults. -/
namespace Nac
open Go Go.RowKit
/-- an int -/
structure I64 (z : Int) : Prop where
  lo : -9223372036854775808 ≤ z
  hi : z ≤ 9223372036854775807
theorem I64.of {z : Int} (h : (Lit.int .i64 z).wf) : I64 z := by
  have : -9223372036854775808 ≤ z ∧ z ≤ 9223372036854775807 := by simpa [Lit.wf, IntKind.min, IntKind.max, IntKind.signed, IntKind.bits] using h
  exact ⟨this.1, this.2⟩
theorem below_drewN {B : Nat} {a w : World} (h : Below B a w) (n : Nat) : Below B a (w.drewN n) := ⟨h.os, h.tape, h.output, h.size, h.block⟩
/-- some one-cell and two-cell boxes, known whole -/
def Box (w : World) (b : Nat) (cs : List Value) : Prop := ∃ t, w.heap[b]? = some (.cells cs.toArray t (0, 0))
section
variable {w w' : World} {b : Nat} {cs : List Value}
theorem Box.lt (h : Box w b cs) : b < w.heap.size := by
  obtain ⟨t, h⟩ := h
  exact (Array.getElem?_eq_some_iff.1 h).1
theorem Box.cell (h : Box w b cs) {j : Nat} {v : Value} (hj : cs[j]? = some v) : w.cell? ⟨b, j, none⟩ = some v := by
  obtain ⟨t, h⟩ := h
  rw [cell_of_row w b j _ t (0, 0) h]
  simpa using hj
theorem Box.below {B : Nat} (h : Box w b cs) (hb : Below B w w') (hB : b < B) : Box w' b cs := by
  obtain ⟨t, h⟩ := h
  exact ⟨t, (hb.block b hB).trans h⟩
theorem Box.new (w : World) (cs : List Value) (t : TypeId) : Box (w.alloc (.cells cs.toArray t)) w.heap.size cs := ⟨t, heap_alloc_new w _⟩
end
end Nac
namespace Go.Proofs.YtiebpmpjclnpeaaDoor
open Go.RowKit Nac
/-- what a check comes to: nil, or a fault -/
def ErrV (R : Option (Nat × Nat)) (v : Value) (w : World) : Prop :=
  match R with
  | none => v = .nilIface
  | some (c, i) => ∃ g, v = .iface 96 (.pointer (some ⟨g, 0, none⟩)) ∧ Box w g [.int .i64 c, .int .i64 i, .nilIface]
def RetErr (w : World) (R : Option (Nat × Nat)) (e : Ending) (w' : World) : Prop := (∃ v, e = .returned v ∧ ErrV R v w') ∧ Below w.heap.size w w'
theorem fault_new (w : World) (c i : Nat) (hc : 1 ≤ c) :
    Calls Tryd.prog 20 #[.int .i64 c, .int .i64 i] w (RetErr w (some (c, i))) := by
  go_enter Tryd.func20, Tryd.ntmps20
  go_wp2
  go_ret
  exact ⟨⟨_, rfl, w.heap.size, rfl, Box.new w _ _⟩, (Below.refl _ _).alloc (Nat.le_refl _) _⟩
end Go.Proofs.YtiebpmpjclnpeaaDoor
namespace Nac.Crc
abbrev W32 := BitVec 32
def poly : W32 := 0x82f63b78#32
/-- one shift of the register -/
def step (r : W32) : W32 := (r >>> 1) ^^^ (if r.getLsbD 0 then poly else 0#32)
def steps : Nat → W32 → W32
  | 0, r => r
  | n + 1, r => steps n (step r)

theorem step_xor (a b : W32) : step (a ^^^ b) = step a ^^^ step b := by
  unfold step
  rw [BitVec.ushiftRight_xor_distrib, BitVec.getLsbD_xor]
  cases ha : a.getLsbD 0 <;> cases hb : b.getLsbD 0 <;> simp
  · ac_rfl
  · ac_rfl
  · have : (a >>> 1 ^^^ poly) ^^^ (b >>> 1 ^^^ poly) = (a >>> 1 ^^^ b >>> 1) ^^^ (poly ^^^ poly) := by ac_rfl
    rw [this, BitVec.xor_self, BitVec.xor_zero]
theorem step_zero : step 0#32 = 0#32 := by decide
theorem steps_xor (n : Nat) : ∀ a b : W32, steps n (a ^^^ b) = steps n a ^^^ steps n b := by
  induction n with
  | zero => intro a b; rfl
  | succ n ih => intro a b; simp only [steps, step_xor, ih]
theorem steps_zero (n : Nat) : steps n 0#32 = 0#32 := by
  induction n with
  | zero => rfl
  | succ n ih => simp only [steps, step_zero, ih]
theorem steps_add (n m : Nat) : ∀ r, steps (n + m) r = steps m (steps n r) := by
  induction n with
  | zero => intro r; simp [steps]
  | succ n ih => intro r; rw [show n + 1 + m = (n + m) + 1 by omega]; simp only [steps, ih]

/-- a register that loses no one bit is halved -/
theorem steps_shift (n : Nat) : ∀ r : W32, (∀ i, i < n → r.getLsbD i = false) → steps n r = r >>> n := by
  induction n with
  | zero => intro r _; simp [steps]
  | succ n ih =>
    intro r h
    have h0 : step r = r >>> 1 := by unfold step; rw [h 0 (by omega)]; simp
    have := ih (r >>> 1) (fun i hi => by rw [BitVec.getLsbD_ushiftRight]; exact h _ (by omega))
    simp only [steps, h0, this]
    rw [← BitVec.shiftRight_add, Nat.add_comm]

theorem step_inj0 (r : W32) (h : step r = 0#32) : r = 0#32 := by
  unfold step at h
  cases hr : r.getLsbD 0
  · rw [hr] at h
    simp at h
    apply BitVec.eq_of_getLsbD_eq
    intro i hi
    cases i with
    | zero => rw [hr]; simp
    | succ i =>
      have := congrArg (fun x : W32 => x.getLsbD i) h
      simp only [BitVec.getLsbD_ushiftRight] at this
      rw [Nat.add_comm i 1, this]; simp
  · rw [hr] at h
    have := congrArg (fun x : W32 => x.getLsbD 31) h
    simp [poly] at this
theorem steps_inj0 (n : Nat) : ∀ r : W32, steps n r = 0#32 → r = 0#32 := by
  induction n with
  | zero => intro r h; exact h
  | succ n ih => intro r h; exact step_inj0 r (ih _ h)

/-- the table of four shifts -/
def table : List Nat := [0, 274646895, 549293790, 820201905, 1098587580, 1361435347, 1640403810, 1905808397, 2197175160, 2460548119, 2722870694, 2987750089, 3280807620, 3553878443, 3811616794, 4084100981]
theorem table_eq : ∀ k : Fin 16, BitVec.ofNat 32 (table.getD k.val 0) = steps 4 (BitVec.ofNat 32 k.val) := by decide
theorem table_lt : ∀ k : Fin 16, table.getD k.val 0 < 4294967296 := by decide

theorem split16 (r : W32) : r = (r &&& ~~~ 15#32) ^^^ (r &&& 15#32) := by
  apply BitVec.eq_of_getLsbD_eq
  intro i hi
  simp only [BitVec.getLsbD_xor, BitVec.getLsbD_and, BitVec.getLsbD_not]
  cases r.getLsbD i <;> cases (15#32).getLsbD i <;> simp [hi]
theorem shift_low (r : W32) : (r &&& ~~~ 15#32) >>> 4 = r >>> 4 := by
  apply BitVec.eq_of_getLsbD_eq
  intro i hi
  simp only [BitVec.getLsbD_ushiftRight, BitVec.getLsbD_and, BitVec.getLsbD_not]
  have h15 : (15#32).getLsbD (4 + i) = false := by
    apply Nat.testBit_lt_two_pow
    exact Nat.lt_of_lt_of_le (show 15 < 2 ^ 4 by decide) (Nat.pow_le_pow_right (by decide) (by omega))
  rw [h15]
  by_cases h : 4 + i < 32
  · simp [h]
  · rw [BitVec.getLsbD_of_ge r _ (by omega)]; simp
theorem low_bits (r : W32) (i : Nat) (hi : i < 4) : (r &&& ~~~ 15#32).getLsbD i = false := by
  have h : (~~~ 15#32).getLsbD i = false := by
    have : i = 0 ∨ i = 1 ∨ i = 2 ∨ i = 3 := by omega
    rcases this with rfl | rfl | rfl | rfl <;> decide
  rw [BitVec.getLsbD_and, h, Bool.and_false]

theorem and15_lt (r : W32) : (r &&& 15#32).toNat < 16 := by
  rw [BitVec.toNat_and]
  exact Nat.lt_of_le_of_lt Nat.and_le_right (by decide)

/-- four shifts, by the table -/
def nib (r : W32) : W32 := (r >>> 4) ^^^ BitVec.ofNat 32 (table.getD (r &&& 15#32).toNat 0)
theorem nib_eq (r : W32) : nib r = steps 4 r := by
  have h1 : steps 4 r = steps 4 (r &&& ~~~ 15#32) ^^^ steps 4 (r &&& 15#32) := by
    rw [← steps_xor, ← split16]
  rw [h1, steps_shift 4 _ (low_bits r), shift_low]
  unfold nib
  congr 1
  have h := table_eq ⟨(r &&& 15#32).toNat, and15_lt r⟩
  simp only [BitVec.ofNat_toNat] at h
  simpa using h

def wide (x : UInt8) : W32 := BitVec.ofNat 32 x.toNat
/-- a byte into the register -/
def feed (r : W32) (x : UInt8) : W32 := steps 8 (r ^^^ wide x)
theorem feed_nib (r : W32) (x : UInt8) : nib (nib (r ^^^ wide x)) = feed r x := by
  rw [nib_eq, nib_eq, ← steps_add]; rfl

def reg (r : W32) (l : List UInt8) : W32 := l.foldl feed r
theorem reg_nil (r : W32) : reg r [] = r := rfl
theorem reg_cons (r : W32) (x : UInt8) (l : List UInt8) : reg r (x :: l) = reg (feed r x) l := rfl
theorem reg_append (r : W32) (l m : List UInt8) : reg r (l ++ m) = reg (reg r l) m := by simp [reg]
theorem reg_snoc (r : W32) (l : List UInt8) (x : UInt8) : reg r (l ++ [x]) = feed (reg r l) x := by simp [reg]

def on (sum : W32) (l : List UInt8) : W32 := ~~~ reg (~~~ sum) l
def of (l : List UInt8) : W32 := on 0#32 l
theorem on_append (s : W32) (l m : List UInt8) : on s (l ++ m) = on (on s l) m := by
  unfold on; rw [reg_append]; simp

/-- bit by bit, as the reference feeds a bit -/
def feedBit (r : W32) (bit : Bool) : W32 := (r >>> 1) ^^^ (if r.getLsbD 0 ^^ bit then poly else 0#32)
theorem feedBit_eq (r : W32) (bit : Bool) : feedBit r bit = step (r ^^^ (if bit then 1#32 else 0#32)) := by
  unfold feedBit step
  rw [BitVec.ushiftRight_xor_distrib, BitVec.getLsbD_xor]
  cases bit <;> simp
def feedBits (r : W32) (x : UInt8) : Nat → W32
  | 0 => r
  | k + 1 => feedBit (feedBits r x k) (x.toNat.testBit k)
theorem feedBits_lin (r : W32) (x : UInt8) (k : Nat) : feedBits r x k = steps k r ^^^ feedBits 0#32 x k := by
  induction k with
  | zero => simp [feedBits, steps]
  | succ k ih =>
    simp only [feedBits]
    rw [ih, feedBit_eq, feedBit_eq, BitVec.xor_assoc, step_xor]
    congr 1
    rw [steps_add k 1]; rfl
theorem feedBits_zero : ∀ n : Fin 256, feedBits 0#32 (UInt8.ofNat n.val) 8 = steps 8 (BitVec.ofNat 32 n.val) := by decide +kernel
theorem feedBits_eq (r : W32) (x : UInt8) : feedBits r x 8 = feed r x := by
  rw [feedBits_lin]
  have h := feedBits_zero ⟨x.toNat, x.toNat_lt⟩
  simp only [UInt8.ofNat_toNat] at h
  rw [h]
  unfold feed wide
  rw [steps_xor]

/-! linearity in the bytes -/
theorem wide_xor (x y : UInt8) : wide (x ^^^ y) = wide x ^^^ wide y := by
  unfold wide
  apply BitVec.eq_of_toNat_eq
  have := x.toNat_lt
  have := y.toNat_lt
  rw [BitVec.toNat_xor, BitVec.toNat_ofNat, BitVec.toNat_ofNat, BitVec.toNat_ofNat, UInt8.toNat_xor, Nat.mod_eq_of_lt, Nat.mod_eq_of_lt, Nat.mod_eq_of_lt] <;> first | omega | skip
  have : x.toNat ^^^ y.toNat < 2 ^ 8 := Nat.xor_lt_two_pow (by omega) (by omega)
  omega
theorem feed_xor (r s : W32) (x y : UInt8) : feed (r ^^^ s) (x ^^^ y) = feed r x ^^^ feed s y := by
  unfold feed
  rw [← steps_xor, wide_xor]
  congr 1
  ac_rfl
theorem reg_xor (l : List UInt8) : ∀ (m : List UInt8) (r s : W32), l.length = m.length → reg (r ^^^ s) (List.zipWith (· ^^^ ·) l m) = reg r l ^^^ reg s m := by
  induction l with
  | nil => intro m r s h; cases m with | nil => rfl | cons => simp at h
  | cons x l ih =>
    intro m r s h
    cases m with
    | nil => simp at h
    | cons y m => simp only [List.zipWith_cons_cons, reg_cons, feed_xor]; exact ih m _ _ (by simpa using h)

/-! numbers in bytes, the least significant one first -/
def le : List UInt8 → Nat
  | [] => 0
  | x :: l => x.toNat + 256 * le l
def lbs : Nat → Nat → List UInt8
  | _, 0 => []
  | n, k + 1 => UInt8.ofNat n :: lbs (n / 256) k
theorem lbs_length (k : Nat) : ∀ n, (lbs n k).length = k := by
  induction k with
  | zero => intro n; rfl
  | succ k ih => intro n; simp [lbs, ih]
theorem le_lbs (k : Nat) : ∀ n, le (lbs n k) = n % 256 ^ k := by
  induction k with
  | zero => intro n; simp [lbs, le, Nat.mod_one]
  | succ k ih =>
    intro n
    simp only [lbs, le, ih]
    rw [Nat.pow_succ, Nat.mul_comm (256 ^ k) 256, Nat.mod_mul]
    simp
theorem le_lt (l : List UInt8) : le l < 256 ^ l.length := by
  induction l with
  | nil => simp [le]
  | cons x l ih =>
    have := x.toNat_lt
    simp only [le, List.length_cons, Nat.pow_succ]
    omega
theorem lbs_le (l : List UInt8) : lbs (le l) l.length = l := by
  induction l with
  | nil => rfl
  | cons x l ih =>
    have hx := x.toNat_lt
    simp only [le, List.length_cons, lbs]
    have h1 : (x.toNat + 256 * le l) / 256 = le l := by omega
    rw [h1, ih]
    congr 1
    apply UInt8.toNat_inj.1
    rw [UInt8.toNat_ofNat']
    omega

theorem wide_steps (x : UInt8) (k : Nat) (hk : k ≤ 24) : steps k (wide x <<< k) = wide x := by
  rw [steps_shift]
  · apply BitVec.eq_of_getLsbD_eq
    intro i hi
    simp only [BitVec.getLsbD_ushiftRight, BitVec.getLsbD_shiftLeft]
    by_cases h : k + i < 32
    · simp [h, show ¬ (k + i < k) by omega]
    · simp only [h, decide_false, Bool.false_and]
      unfold wide
      rw [BitVec.getLsbD_ofNat]
      have hx := x.toNat_lt
      rw [Nat.testBit_lt_two_pow (Nat.lt_of_lt_of_le hx (Nat.pow_le_pow_right (n := 2) (by decide) (show 8 ≤ i by omega)))]
      simp
  · intro i hi
    simp [BitVec.getLsbD_shiftLeft, hi]
attribute [local irreducible] steps
/-- four bytes into the register, at once -/
def word (a b c d : UInt8) : W32 := wide a ^^^ wide b <<< 8 ^^^ wide c <<< 16 ^^^ wide d <<< 24
theorem reg_four (r : W32) (a b c d : UInt8) : reg r [a, b, c, d] = steps 32 (r ^^^ word a b c d) := by
  have hf (r : W32) (x : UInt8) : feed r x = steps 8 (r ^^^ wide x) := rfl
  rw [reg_cons, reg_cons, reg_cons, reg_cons, reg_nil, hf, hf, hf, hf]
  have hb := wide_steps b 8 (by decide)
  have hc := wide_steps c 16 (by decide)
  have hd := wide_steps d 24 (by decide)
  have e1 : steps 8 (r ^^^ wide a) ^^^ wide b = steps 8 (r ^^^ wide a ^^^ wide b <<< 8) := by rw [steps_xor 8 (r ^^^ wide a), hb]
  rw [e1, ← steps_add]
  have e2 : steps 16 (r ^^^ wide a ^^^ wide b <<< 8) ^^^ wide c = steps 16 (r ^^^ wide a ^^^ wide b <<< 8 ^^^ wide c <<< 16) := by rw [steps_xor 16 (r ^^^ wide a ^^^ wide b <<< 8), hc]
  rw [e2, ← steps_add]
  have e3 : steps 24 (r ^^^ wide a ^^^ wide b <<< 8 ^^^ wide c <<< 16) ^^^ wide d = steps 24 (r ^^^ wide a ^^^ wide b <<< 8 ^^^ wide c <<< 16 ^^^ wide d <<< 24) := by
    rw [steps_xor 24 (r ^^^ wide a ^^^ wide b <<< 8 ^^^ wide c <<< 16), hd]
  rw [e3, ← steps_add]
  unfold word
  simp only [BitVec.xor_assoc]
theorem xor_add (k x n : Nat) (h : x < 2 ^ k) : x ^^^ (2 ^ k * n) = x + 2 ^ k * n := by
  apply Nat.eq_of_testBit_eq
  intro i
  rw [Nat.testBit_xor, Nat.add_comm, Nat.testBit_two_pow_mul_add n h, Nat.testBit_two_pow_mul]
  by_cases hi : i < k
  · simp [hi, show ¬ k ≤ i by omega]
  · rw [Nat.testBit_lt_two_pow (Nat.lt_of_lt_of_le h (Nat.pow_le_pow_right (by decide) (show k ≤ i by omega)))]
    simp [hi, show k ≤ i by omega]
theorem word_le (a b c d : UInt8) : word a b c d = BitVec.ofNat 32 (le [a, b, c, d]) := by
  have ha := a.toNat_lt
  have hb := b.toNat_lt
  have hc := c.toNat_lt
  have hd := d.toNat_lt
  unfold word wide
  simp only [le]
  apply BitVec.eq_of_toNat_eq
  simp only [BitVec.toNat_xor, BitVec.toNat_shiftLeft, BitVec.toNat_ofNat]
  have m (x : UInt8) : x.toNat % 2 ^ 32 = x.toNat := Nat.mod_eq_of_lt (by have := x.toNat_lt; omega)
  simp only [m]
  have s1 : b.toNat <<< 8 % 2 ^ 32 = b.toNat * 256 := by rw [Nat.shiftLeft_eq]; omega
  have s2 : c.toNat <<< 16 % 2 ^ 32 = c.toNat * 65536 := by rw [Nat.shiftLeft_eq]; omega
  have s3 : d.toNat <<< 24 % 2 ^ 32 = d.toNat * 16777216 := by rw [Nat.shiftLeft_eq]; omega
  rw [s1, s2, s3]
  have x1 := xor_add 8 a.toNat b.toNat (by omega)
  have x2 := xor_add 16 (a.toNat + 2 ^ 8 * b.toNat) c.toNat (by omega)
  have x3 := xor_add 24 (a.toNat + 2 ^ 8 * b.toNat + 2 ^ 16 * c.toNat) d.toNat (by omega)
  rw [Nat.mul_comm b.toNat, show 256 = 2 ^ 8 from rfl, x1, Nat.mul_comm c.toNat, show 65536 = 2 ^ 16 from rfl, x2, Nat.mul_comm d.toNat, show 16777216 = 2 ^ 24 from rfl, x3]
  omega

/-- do the last four bytes check the others? -/
def good (l : List UInt8) : Bool := le (l.drop (l.length - 4)) == (of (l.take (l.length - 4))).toNat
def ones : W32 := 0xffffffff#32
theorem len4 (t : List UInt8) (h : t.length = 4) : ∃ a b c d, t = [a, b, c, d] := by
  match t, h with
  | [a, b, c, d], _ => exact ⟨a, b, c, d, rfl⟩
theorem good_iff (l : List UInt8) (h : 4 ≤ l.length) : good l = true ↔ reg ones l = steps 32 ones := by
  have hl : l = l.take (l.length - 4) ++ l.drop (l.length - 4) := (List.take_append_drop _ _).symm
  obtain ⟨a, b, c, d, ht⟩ := len4 (l.drop (l.length - 4)) (by simp; omega)
  have hr : reg ones l = steps 32 (reg ones (l.take (l.length - 4)) ^^^ word a b c d) := by
    rw [← reg_four, ← ht, ← reg_append, ← hl]
  have hof : of (l.take (l.length - 4)) = ~~~ reg ones (l.take (l.length - 4)) := rfl
  unfold good
  rw [hr, hof, ht, beq_iff_eq]
  generalize reg ones (l.take (l.length - 4)) = R
  have hlt : le [a, b, c, d] < 4294967296 := by have h := le_lt [a, b, c, d]; simp only [List.length_cons, List.length_nil, Nat.reduceAdd, Nat.reducePow] at h; exact h
  constructor
  · intro e
    congr 1
    rw [word_le, e, BitVec.ofNat_toNat]
    simp only [BitVec.setWidth_eq]
    rw [show ones = BitVec.allOnes 32 from rfl]
    apply BitVec.eq_of_getLsbD_eq
    intro i hi
    simp only [BitVec.getLsbD_xor, BitVec.getLsbD_not, BitVec.getLsbD_allOnes, hi]
    cases R.getLsbD i <;> rfl
  · intro e
    have e0 : R ^^^ word a b c d ^^^ ones = 0#32 := steps_inj0 32 _ (by rw [steps_xor, e, BitVec.xor_self])
    have e1 : word a b c d = ~~~ R := by
      have : word a b c d = R ^^^ ones ^^^ (R ^^^ word a b c d ^^^ ones) := by
        apply BitVec.eq_of_getLsbD_eq
        intro i hi
        simp only [BitVec.getLsbD_xor]
        cases R.getLsbD i <;> cases (word a b c d).getLsbD i <;> cases ones.getLsbD i <;> rfl
      rw [this, e0, BitVec.xor_zero, show ones = BitVec.allOnes 32 from rfl, BitVec.xor_allOnes]
    rw [← e1, word_le, BitVec.toNat_ofNat, Nat.mod_eq_of_lt (by omega)]

/-! up to 32 neighbouring bits -/
theorem reg_zeros (n : Nat) : reg 0#32 (List.replicate n 0) = 0#32 := by
  induction n with
  | zero => rfl
  | succ n ih =>
    rw [List.replicate_succ, reg_cons]
    have : feed 0#32 0 = 0#32 := by
      show steps 8 (0#32 ^^^ wide 0) = 0#32
      rw [show (0#32 ^^^ wide 0) = 0#32 from by decide, steps_zero]
    rw [this, ih]
theorem reg_zeros_inj (n : Nat) : ∀ r : W32, reg r (List.replicate n 0) = 0#32 → r = 0#32 := by
  induction n with
  | zero => intro r h; exact h
  | succ n ih =>
    intro r h
    rw [List.replicate_succ, reg_cons] at h
    have h1 : steps 8 (r ^^^ wide 0) = 0#32 := ih _ h
    have h2 := steps_inj0 8 _ h1
    rwa [show wide 0 = 0#32 from by decide, BitVec.xor_zero] at h2

/-- byte i of bits that begin at bit j of the first one -/
def burst (bits j i : Nat) : UInt8 := UInt8.ofNat (bits * 2 ^ j / 256 ^ i)
theorem burst_word (bits j : Nat) (hb : bits < 4294967296) :
    word (burst bits j 0) (burst bits j 1) (burst bits j 2) (burst bits j 3) = BitVec.ofNat 32 bits <<< j := by
  rw [word_le]
  apply BitVec.eq_of_toNat_eq
  rw [BitVec.toNat_shiftLeft, BitVec.toNat_ofNat, BitVec.toNat_ofNat, Nat.shiftLeft_eq]
  simp only [le, burst, UInt8.toNat_ofNat']
  generalize hV : bits * 2 ^ j = V
  rw [Nat.mod_eq_of_lt hb, hV]
  omega
theorem reg_burst (bits j : Nat) (hb : bits < 4294967296) (hj : j < 8) :
    reg 0#32 [burst bits j 0, burst bits j 1, burst bits j 2, burst bits j 3, burst bits j 4] = steps (40 - j) (BitVec.ofNat 32 bits) := by
  have e : [burst bits j 0, burst bits j 1, burst bits j 2, burst bits j 3, burst bits j 4] = [burst bits j 0, burst bits j 1, burst bits j 2, burst bits j 3] ++ [burst bits j 4] := rfl
  rw [e, reg_append, reg_four, burst_word bits j hb, BitVec.zero_xor]
  show steps 8 (steps 32 _ ^^^ wide _) = _
  rw [steps_xor, ← steps_add]
  -- the bits that stay, and those that go over into the fifth byte
  have h4 : wide (burst bits j 4) = BitVec.ofNat 32 bits >>> (32 - j) := by
    unfold wide burst
    apply BitVec.eq_of_toNat_eq
    rw [BitVec.toNat_ushiftRight, BitVec.toNat_ofNat, BitVec.toNat_ofNat, UInt8.toNat_ofNat', Nat.shiftRight_eq_div_pow, Nat.mod_eq_of_lt (a := bits) hb]
    have h32 : (256 : Nat) ^ 4 = 2 ^ j * 2 ^ (32 - j) := by rw [← Nat.pow_add, show j + (32 - j) = 32 by omega]
    rw [h32, Nat.mul_comm bits, Nat.mul_div_mul_left _ _ (Nat.two_pow_pos j)]
    have h2 : bits / 2 ^ (32 - j) < 256 := by
      rw [Nat.div_lt_iff_lt_mul (Nat.two_pow_pos _)]
      have : (2 : Nat) ^ 24 ≤ 2 ^ (32 - j) := Nat.pow_le_pow_right (by decide) (by omega)
      omega
    rw [Nat.mod_eq_of_lt h2, Nat.mod_eq_of_lt (by omega)]
  have hlow : steps j (BitVec.ofNat 32 bits <<< j) = (BitVec.ofNat 32 bits <<< j) >>> j :=
    steps_shift j _ (fun i hi => by rw [BitVec.getLsbD_shiftLeft]; simp [hi])
  have hhigh : steps (32 - j) ((BitVec.ofNat 32 bits >>> (32 - j)) <<< (32 - j)) = BitVec.ofNat 32 bits >>> (32 - j) := by
    rw [steps_shift (32 - j) _ (fun i hi => by rw [BitVec.getLsbD_shiftLeft]; simp [hi])]
    apply BitVec.eq_of_getLsbD_eq
    intro i hi
    simp only [BitVec.getLsbD_ushiftRight, BitVec.getLsbD_shiftLeft]
    by_cases h : 32 - j + i < 32
    · simp [h, show ¬ (32 - j + i < 32 - j) by omega]
    · rw [BitVec.getLsbD_of_ge (BitVec.ofNat 32 bits) (32 - j + i) (by omega)]
      simp [h]
  have hsplit : BitVec.ofNat 32 bits = (BitVec.ofNat 32 bits <<< j) >>> j ^^^ (BitVec.ofNat 32 bits >>> (32 - j)) <<< (32 - j) := by
    apply BitVec.eq_of_getLsbD_eq
    intro i hi
    simp only [BitVec.getLsbD_xor, BitVec.getLsbD_ushiftRight, BitVec.getLsbD_shiftLeft]
    by_cases h : i < 32 - j
    · simp [h, show j + i < 32 by omega, show ¬ (j + i < j) by omega]
    · simp [h, show ¬ (j + i < 32) by omega, show 32 - j + (i - (32 - j)) = i by omega, hi]
  conv => rhs; rw [hsplit, steps_xor, ← hlow, ← steps_add]
  rw [show j + (40 - j) = 32 + 8 by omega, h4]
  congr 1
  rw [show 40 - j = (32 - j) + 8 by omega, steps_add, hhigh]

/-- ONE BURST INTO SEALED BYTES: they check no more. 'd': what is turned over. -/
theorem burst_found (s d : List UInt8) (h4 : 4 ≤ s.length) (hd : s.length = d.length) (hs : good s = true) (at_ : Nat) (bits j : Nat) (hj : j < 8) (hb : bits < 4294967296)
    (hne : bits ≠ 0) (tail : Nat) (he : d = List.replicate at_ 0 ++ [burst bits j 0, burst bits j 1, burst bits j 2, burst bits j 3, burst bits j 4] ++ List.replicate tail 0) :
    good (List.zipWith (· ^^^ ·) s d) = false := by
  rw [← Bool.not_eq_true, good_iff _ (by simp; omega)]
  intro hg
  have hs' := (good_iff s h4).1 hs
  have hx := reg_xor s d ones 0#32 hd
  rw [BitVec.xor_zero, hg, hs'] at hx
  have h0 : reg 0#32 d = 0#32 := by
    have : reg 0#32 d = steps 32 ones ^^^ (steps 32 ones ^^^ reg 0#32 d) := by rw [← BitVec.xor_assoc, BitVec.xor_self, BitVec.zero_xor]
    rw [this, ← hx, BitVec.xor_self]
  rw [he, reg_append, reg_append, reg_zeros, reg_burst bits j hb hj] at h0
  have h1 := steps_inj0 _ _ (reg_zeros_inj tail _ h0)
  have h2 := congrArg BitVec.toNat h1
  rw [BitVec.toNat_ofNat, Nat.mod_eq_of_lt (by omega)] at h2
  exact hne (by simpa using h2)
theorem burst_found4 (s d : List UInt8) (h4 : 4 ≤ s.length) (hd : s.length = d.length) (hs : good s = true) (at_ : Nat) (bits : Nat) (hb : bits < 4294967296)
    (hne : bits ≠ 0) (he : d = List.replicate at_ 0 ++ [burst bits 0 0, burst bits 0 1, burst bits 0 2, burst bits 0 3]) :
    good (List.zipWith (· ^^^ ·) s d) = false := by
  rw [← Bool.not_eq_true, good_iff _ (by simp; omega)]
  intro hg
  have hs' := (good_iff s h4).1 hs
  have hx := reg_xor s d ones 0#32 hd
  rw [BitVec.xor_zero, hg, hs'] at hx
  have h0 : reg 0#32 d = 0#32 := by
    have : reg 0#32 d = steps 32 ones ^^^ (steps 32 ones ^^^ reg 0#32 d) := by rw [← BitVec.xor_assoc, BitVec.xor_self, BitVec.zero_xor]
    rw [this, ← hx, BitVec.xor_self]
  rw [he, reg_append, reg_zeros, reg_four, burst_word bits 0 hb, BitVec.zero_xor, BitVec.shiftLeft_zero] at h0
  have h1 := steps_inj0 _ _ h0
  have h2 := congrArg BitVec.toNat h1
  rw [BitVec.toNat_ofNat, Nat.mod_eq_of_lt (by omega)] at h2
  exact hne (by simpa using h2)
theorem good_seal (b : List UInt8) : good (b ++ lbs (of b).toNat 4) = true := by
  unfold good
  have hl : (b ++ lbs (of b).toNat 4).length - 4 = b.length := by simp [lbs_length]
  rw [hl, List.drop_left, List.take_left, le_lbs, beq_iff_eq, Nat.mod_eq_of_lt]
  exact (of b).isLt
end Nac.Crc
/- octet.number and octet.Get: what they return, for whatever bytes. -/
namespace Go.Proofs.YtiebpmpjclnpeaaDoor
open Go.RowKit Nac Nac.Crc
theorem le_take_succ (l : List UInt8) (k : Nat) (hk : k < l.length) : le (l.take (k + 1)) = le (l.take k) + 256 ^ k * l[k].toNat := by
  induction l generalizing k with
  | nil => simp at hk
  | cons x l ih =>
    cases k with
    | zero => simp [le]
    | succ k =>
      simp only [List.take_succ_cons, le, List.getElem_cons_succ]
      rw [ih k (by simpa using hk), Nat.pow_succ, Nat.mul_add, ← Nat.mul_assoc, Nat.mul_comm 256 (256 ^ k), ← Nat.add_assoc]
theorem pow256_lt : ∀ k : Fin 8, 256 ^ k.val * 256 ≤ 18446744073709551616 := by decide
theorem or_step (l : List UInt8) (k : Nat) (hk : k < l.length) (h8 : l.length ≤ 8) :
    bits .or .u64 (le (l.take k) : Int) (IntKind.u64.wrap (IntKind.u64.wrap (l[k].toNat : Int) * 2 ^ (8 * k))) = (le (l.take (k + 1)) : Int) := by
  have hx := l[k].toNat_lt
  have hl : le (l.take k) < 256 ^ k := by have := le_lt (l.take k); rwa [List.length_take, Nat.min_eq_left (by omega)] at this
  have hp := pow256_lt ⟨k, by omega⟩
  simp only at hp
  have e2 : (2 : Int) ^ (8 * k) = ((256 ^ k : Nat) : Int) := by rw [Int.pow_mul]; simp
  have hm : 256 ^ k * l[k].toNat < 18446744073709551616 := by
    have : 256 ^ k * l[k].toNat ≤ 256 ^ k * 255 := Nat.mul_le_mul_left _ (by omega)
    omega
  have hw : IntKind.u64.wrap (IntKind.u64.wrap (l[k].toNat : Int) * 2 ^ (8 * k)) = ((256 ^ k * l[k].toNat : Nat) : Int) := by
    rw [IntKind.wrap_u64 (l[k].toNat : Int), Int.emod_eq_of_lt (by omega) (by omega), e2, ← Int.natCast_mul, IntKind.wrap_u64, Nat.mul_comm]
    generalize 256 ^ k * l[k].toNat = m at hm ⊢
    omega
  rw [hw, bits_or_u64_nat _ _ (by omega) hm, le_take_succ l k hk]
  congr 1
  have e256 : (256 : Nat) ^ k = 2 ^ (8 * k) := by rw [Nat.pow_mul]
  rw [e256] at hl ⊢
  have := Nat.two_pow_add_eq_or_of_lt hl l[k].toNat
  rw [Nat.or_comm, ← this, Nat.add_comm]
set_option maxHeartbeats 400000 in
theorem number_calls (w : World) (B : Nat) (A : Option Addr) (c : Nat) (l : List UInt8) (h : RB w B A l) (h8 : l.length ≤ 8) :
    Calls Tryd.prog 47 #[.slice A l.length c] w fun e w' => e = .returned (.int .u64 (le l : Int)) ∧ w = w' := by
  go_enter Tryd.func47, Tryd.ntmps47
  go_wp2
  go_loop [3, 4, 5, 8] (fun n i0 x i => ∃ k : Nat, k ≤ l.length ∧ i = .int .i64 k ∧ n = .int .u64 (le (l.take k) : Int)) (fun _ _ _ i => l.length - (intOf i).toNat)
  case atStart => exact ⟨0, Nat.zero_le _, rfl, by simp [le]⟩
  case round =>
    obtain ⟨k, hk, rfl, rfl⟩ := hrel
    by_cases hlt : k < l.length
    · obtain ⟨b, o, rfl, _, hc⟩ := h.get hlt
      have H := Lib.hid (or_step l k hlt h8)
      go_wp2
      go_round
      case rel => exact ⟨k + 1, by omega, by go_num, by rw [H.out]⟩
      case measure => simp [intOf]; omega
    · go_wp2
      go_ret
      exact ⟨by rw [List.take_of_length_le (by omega)]; rfl, rfl⟩
set_option maxHeartbeats 400000 in
theorem get_calls (w : World) (B : Nat) (A : Option Addr) (c : Nat) (l : List UInt8) (h : RB w B A l) (h1 : 1 ≤ l.length) (h8 : l.length ≤ 8) :
    Calls Tryd.prog 37 #[.slice A l.length c] w fun e w' => e = .returned (.tuple #[.int .u64 (le l : Int), .int .i64 0]) ∧ w = w' := by
  have hn := number_calls w B A c l h h8
  have H := Lib.hid hn
  clear hn
  go_enter Tryd.func37, Tryd.ntmps37
  go_wp2_with (go_at_call 47; refine H.out.mono ?_; rintro e w' ⟨rfl, rfl⟩)
  go_ret2
  exact ⟨rfl, rfl⟩
theorem get_calls_n (w : World) (B : Nat) (A : Option Addr) (n c : Nat) (l : List UInt8) (hn : n = l.length) (h : RB w B A l) (h1 : 1 ≤ l.length) (h8 : l.length ≤ 8) :
    Calls Tryd.prog 37 #[.slice A n c] w fun e w' => e = .returned (.tuple #[.int .u64 (le l : Int), .int .i64 0]) ∧ w = w' := by
  subst hn; exact get_calls w B A c l h h1 h8
end Go.Proofs.YtiebpmpjclnpeaaDoor
/- filter: May, valid, satisfied, Begin, Frame, Take. -/
namespace Go.Proofs.YtiebpmpjclnpeaaDoor
open Go.RowKit Nac Nac.Gram Nac.Crc
/-- a field as it comes -/
structure Fld where
  at_ : Int
  size : Int
  low : Nat
  high : Nat
def fdv (f : Fld) : List Value := [.int .i64 f.at_, .int .i64 f.size, .int .u64 (f.low : Int), .int .u64 (f.high : Int)]
theorem fdv_one (f : Fld) : ∀ v ∈ fdv f, v.oneCell' = true := by intro v hv; simp [fdv] at hv; rcases hv with rfl | rfl | rfl | rfl <;> rfl
structure Fld.Ok (f : Fld) : Prop where
  a : 0 ≤ f.at_
  s1 : 1 ≤ f.size
  s8 : f.size ≤ 8
  e : f.at_ + f.size ≤ 64
  l : f.low ≤ f.high
/-- a cap: rate, burst, left -/
structure Cp where
  rate : Int
  burst : Int
  left : Int
def cpv (c : Cp) : List Value := [.int .i64 c.rate, .int .i64 c.burst, .int .i64 c.left]
theorem cpv_one (c : Cp) : ∀ v ∈ cpv c, v.oneCell' = true := by intro v hv; simp [cpv] at hv; rcases hv with rfl | rfl | rfl <;> rfl
structure Cp.Ok (c : Cp) : Prop where
  r0 : 0 ≤ c.rate
  r64 : c.rate ≤ 64
  br : c.rate ≤ c.burst
  b64 : c.burst ≤ 64
  l0 : 0 ≤ c.left
  lb : c.left ≤ c.burst
theorem sFld : SInfo 79 4 := ⟨by kernel_rfl, _, Tryd.underlying79, rfl⟩
theorem zFld : ((Tryd.prog.info? 79).bind (·.zero)) = some (.agg (fdv ⟨0, 0, 0, 0⟩).toArray) := by kernel_rfl
theorem sCap : SInfo 36 3 := ⟨by kernel_rfl, _, Tryd.underlying36, rfl⟩
def RetB (w : World) (p : Prop) (e : Ending) (w' : World) : Prop := ∃ b : Bool, e = .returned (.bool b) ∧ (b = true ↔ p) ∧ Below w.heap.size w w'
set_option maxHeartbeats 4000000 in
theorem may_calls (w : World) (c : Cp) : Calls Tryd.prog 16 #[.agg (cpv c).toArray] w (RetB w c.Ok) := by
  obtain ⟨r, b, l⟩ := c
  go_enter Tryd.func16, Tryd.ntmps16
  go_wp2_with (first | ((with_reducible show wpList _ _ _ (Oper.mk (some 1) (Op.box 36 _) _ _ _ _ :: _) _ _); refine wpList_boxS (T := 36) rfl _ rfl (cpv ⟨r, b, l⟩) rfl ?_) | fail)
  intro w1 hb1 hg1 hs1
  obtain ⟨b1, hb1e⟩ : ∃ b, b = w.heap.size := ⟨_, rfl⟩
  rw [← hb1e] at hb1 ⊢
  have HW1 : Hid (Below w.heap.size w w1) := Lib.hid (grown_below hg1 (Nat.le_refl _) (fun k e => by cases e))
  have hc0 : w1.cell? ⟨b1, 0, none⟩ = some (.int .i64 r) := hb1.cell rfl
  have hc1 : w1.cell? ⟨b1, 1, none⟩ = some (.int .i64 b) := hb1.cell rfl
  have hc2 : w1.cell? ⟨b1, 2, none⟩ = some (.int .i64 l) := hb1.cell rfl
  clear hb1 hg1 hs1 hb1e
  by_cases h1 : r < 0
  · go_wp2
    go_ret
    exact ⟨false, rfl, ⟨fun e => (by cases e), fun h => absurd h.r0 (by show ¬ (0 : Int) ≤ r; omega)⟩, HW1.out⟩
  by_cases h2 : 64 < r
  · go_wp2
    go_ret
    exact ⟨false, rfl, ⟨fun e => (by cases e), fun h => absurd h.r64 (by show ¬ r ≤ 64; omega)⟩, HW1.out⟩
  by_cases h3 : b < r
  · go_wp2
    go_ret
    exact ⟨false, rfl, ⟨fun e => (by cases e), fun h => absurd h.br (by show ¬ r ≤ b; omega)⟩, HW1.out⟩
  by_cases h4 : 64 < b
  · go_wp2
    go_ret
    exact ⟨false, rfl, ⟨fun e => (by cases e), fun h => absurd h.b64 (by show ¬ b ≤ 64; omega)⟩, HW1.out⟩
  by_cases h5 : 0 ≤ l
  · by_cases h6 : l ≤ b
    · have HOK : Hid (Cp.Ok ⟨r, b, l⟩) := Lib.hid ⟨by show (0 : Int) ≤ r; omega, by show r ≤ 64; omega, by show r ≤ b; omega, by show b ≤ 64; omega, h5, h6⟩
      go_wp2
      go_ret
      exact ⟨true, rfl, ⟨fun _ => HOK.out, fun _ => rfl⟩, HW1.out⟩
    · have HN : Hid (¬ l ≤ b) := Lib.hid h6
      go_wp2
      go_ret
      exact ⟨false, rfl, ⟨fun e => (by cases e), fun h => absurd h.lb (Int.not_le.2 HN.out)⟩, HW1.out⟩
  · have HN : Hid (¬ 0 ≤ l) := Lib.hid h5
    go_wp2
    go_ret
    exact ⟨false, rfl, ⟨fun e => (by cases e), fun h => absurd h.l0 (Int.not_le.2 HN.out)⟩, HW1.out⟩
set_option maxHeartbeats 4000000 in
theorem valid_calls (w : World) (f : Fld) : Calls Tryd.prog 21 #[.agg (fdv f).toArray] w (RetB w f.Ok) := by
  obtain ⟨a, s, l, h⟩ := f
  go_enter Tryd.func21, Tryd.ntmps21
  go_wp2_with (first | ((with_reducible show wpList _ _ _ (Oper.mk (some 1) (Op.box 79 _) _ _ _ _ :: _) _ _); refine wpList_boxS (T := 79) rfl _ rfl (fdv ⟨a, s, l, h⟩) rfl ?_) | fail)
  intro w1 hb1 hg1 hs1
  obtain ⟨b1, hb1e⟩ : ∃ b, b = w.heap.size := ⟨_, rfl⟩
  rw [← hb1e] at hb1 ⊢
  have HW1 : Hid (Below w.heap.size w w1) := Lib.hid (grown_below hg1 (Nat.le_refl _) (fun k e => by cases e))
  have hc0 : w1.cell? ⟨b1, 0, none⟩ = some (.int .i64 a) := hb1.cell rfl
  have hc1 : w1.cell? ⟨b1, 1, none⟩ = some (.int .i64 s) := hb1.cell rfl
  have hc2 : w1.cell? ⟨b1, 2, none⟩ = some (.int .u64 (l : Int)) := hb1.cell rfl
  have hc3 : w1.cell? ⟨b1, 3, none⟩ = some (.int .u64 (h : Int)) := hb1.cell rfl
  clear hb1 hg1 hs1 hb1e
  by_cases h1 : s < 1
  · go_wp2
    go_ret
    exact ⟨false, rfl, ⟨fun e => (by cases e), fun h => absurd h.s1 (by show ¬ (1 : Int) ≤ s; omega)⟩, HW1.out⟩
  by_cases h2 : 8 < s
  · go_wp2
    go_ret
    exact ⟨false, rfl, ⟨fun e => (by cases e), fun h => absurd h.s8 (by show ¬ s ≤ 8; omega)⟩, HW1.out⟩
  by_cases h3 : 0 ≤ a
  · obtain ⟨d, hd⟩ : ∃ d, d = 64 - s := ⟨_, rfl⟩
    have HD := Lib.hid hd
    have q : IntKind.i64.wrap (64 - s) = d := by rw [IntKind.wrap_i64]; omega
    by_cases h4 : a ≤ d
    · by_cases h5 : l ≤ h
      · have HOK : Hid (Fld.Ok ⟨a, s, l, h⟩) := Lib.hid ⟨h3, by show 1 ≤ s; omega, by show s ≤ 8; omega, by show a + s ≤ 64; omega, h5⟩
        clear hd
        go_wp2
        go_ret
        exact ⟨true, rfl, ⟨fun _ => HOK.out, fun _ => rfl⟩, HW1.out⟩
      · have HN : Hid (¬ l ≤ h) := Lib.hid h5
        clear hd
        go_wp2
        go_ret
        exact ⟨false, rfl, ⟨fun e => (by cases e), fun h => absurd h.l HN.out⟩, HW1.out⟩
    · have HN : Hid (¬ a ≤ d) := Lib.hid h4
      clear hd
      go_wp2
      go_ret
      exact ⟨false, rfl, ⟨fun e => (by cases e), fun h => absurd (show a ≤ d from (by have h : a + s ≤ 64 := h.e; have := HD.out; omega)) (Int.not_le.2 HN.out)⟩, HW1.out⟩
  · have HN : Hid (¬ 0 ≤ a) := Lib.hid h3
    go_wp2
    go_ret
    exact ⟨false, rfl, ⟨fun e => (by cases e), fun h => absurd h.a (Int.not_le.2 HN.out)⟩, HW1.out⟩
end Go.Proofs.YtiebpmpjclnpeaaDoor
/- The document's table of which pieces of a text are texts of which names: rows of rows of booleans. -/
namespace Nac
open Go Go.RowKit
theorem made1 (z : Value) (n : Nat) : (madeCells #[z] (n * 1)).toList = List.replicate n z := by
  apply List.ext_getElem
  · simp [madeCells]
  · intro i h1 h2
    simp [madeCells, Nat.mod_one]
theorem map_range_set {X : Type} (n j : Nat) (f : Nat → X) (v : X) : ((List.range n).map f).set j v = (List.range n).map fun k => if k = j then v else f k := by
  apply List.ext_getElem
  · simp
  · intro i h1 h2
    rw [List.getElem_set]
    simp only [List.getElem_map, List.getElem_range]
    by_cases h : j = i
    · subst h; simp
    · rw [if_neg h, if_neg (fun e => h e.symm)]
theorem map_range_get {X : Type} {n j : Nat} (h : j < n) (f : Nat → X) : ((List.range n).map f)[j]? = some (f j) := by
  rw [List.getElem?_map, List.getElem?_range h]; rfl
theorem replicate_range {X : Type} (n : Nat) (v : X) : List.replicate n v = (List.range n).map fun _ => v := by
  apply List.ext_getElem
  · simp
  · intro i h1 h2; simp
theorem code_inj {n x y i j : Nat} (hi : i ≤ n) (hj : j ≤ n) (h : x * (n + 1) + i = y * (n + 1) + j) : x = y ∧ i = j := by
  have h1 : (x * (n + 1) + i) / (n + 1) = x := by rw [Nat.mul_comm, Nat.mul_add_div (by omega), Nat.div_eq_of_lt (by omega)]; rfl
  have h2 : (y * (n + 1) + j) / (n + 1) = y := by rw [Nat.mul_comm, Nat.mul_add_div (by omega), Nat.div_eq_of_lt (by omega)]; rfl
  rw [h] at h1
  have e : x = y := h1.symm.trans h2
  subst e
  exact ⟨rfl, by omega⟩
theorem code_lt {n x y i j : Nat} (hi : i ≤ n) (hj : j ≤ n) : x * (n + 1) + i < y * (n + 1) + j ↔ x < y ∨ (x = y ∧ i < j) := by
  constructor
  · intro h
    rcases Nat.lt_trichotomy x y with h1 | h1 | h1
    · exact .inl h1
    · subst h1; exact .inr ⟨rfl, by omega⟩
    · have : (y + 1) * (n + 1) ≤ x * (n + 1) := Nat.mul_le_mul_right _ h1
      rw [Nat.add_mul] at this
      omega
  · rintro (h | ⟨rfl, h⟩)
    · have : (x + 1) * (n + 1) ≤ y * (n + 1) := Nat.mul_le_mul_right _ h
      rw [Nat.add_mul] at this
      omega
    · omega
end Nac
namespace Go.Proofs.YtiebpmpjclnpeaaDoor
open Go.RowKit Nac Nac.Gram
def nilS : Value := .slice none 0 0
def slS (b n : Nat) : Value := .slice (some ⟨b, 0, none⟩) n n
theorem infoBool : (Tryd.prog.info? 4).map (fun i => (i.zero, i.size, i.bytes)) = some (some (.bool false), 1, 1) := by kernel_rfl
theorem infoBs : (Tryd.prog.info? 102).map (fun i => (i.zero, i.size, i.bytes)) = some (some nilS, 1, 24) := by kernel_rfl
theorem infoBss : (Tryd.prog.info? 101).map (fun i => (i.zero, i.size, i.bytes)) = some (some nilS, 1, 24) := by kernel_rfl
theorem s1Bs : (Tryd.prog.info? 102).map (·.size) = some 1 := by kernel_rfl
theorem s1Bss : (Tryd.prog.info? 101).map (·.size) = some 1 := by kernel_rfl
theorem s1Bl : (Tryd.prog.info? 4).map (·.size) = some 1 := by kernel_rfl
theorem uBol1 : Tryd.prog.underlying 102 = some (.slice 4) := by kernel_rfl
theorem uBol2 : Tryd.prog.underlying 101 = some (.slice 102) := by kernel_rfl
theorem uBol3 : Tryd.prog.underlying 100 = some (.slice 101) := by kernel_rfl
theorem run_make1 {T E : TypeId} {z : Value} {bytes : Nat} (hu : Tryd.prog.underlying T = some (.slice E)) (hinfo : (Tryd.prog.info? E).map (fun i => (i.zero, i.size, i.bytes)) = some (some z, 1, bytes)) (hz : z.cells = #[z]) (hby : bytes ≤ 32) (w : World) (n : Nat) (hn : n ≤ 1000000) :
    ∃ w', (Instr.makeSlice T (.int .i64 (n : Int)) (.int .i64 (n : Int))).run Tryd.prog w = .ok (.slice (some ⟨w.heap.size, 0, none⟩) n n) w' ∧ Blk w' w.heap.size (List.replicate n z) ∧ w.grownBy w' none ∧ w'.heap.size = w.heap.size + 1 := by
  obtain ⟨ti, hi, hzz, hs1, hb1⟩ := info_parts hinfo
  have hb : (ti.bytes : Int) * (n : Int) ≤ 281474976710656 := by
    rw [hb1, ← Int.natCast_mul]
    have : bytes * n ≤ 32 * 1000000 := Nat.mul_le_mul hby hn
    omega
  have hr := run_make (P := Tryd.prog) w T E ti z hu hi hzz .i64 .i64 (n : Int) (n : Int) (by omega) (by omega) hb (by omega)
  rw [hs1, hz] at hr
  simp only [Int.toNat_natCast] at hr
  refine ⟨_, hr, ?_, World.grownBy_alloc w _ none, by simp⟩
  have := Blk.new w (madeCells #[z] (n * 1)).toList E
  rw [Array.toArray_toList] at this
  rw [← made1]
  exact this
section
variable {w : World} {ops : Array Oper} {rest : List Oper} {o : Oper} {a : Act} {Q : Exit → Act → World → Prop}
theorem wpList_make1 {T E : TypeId} {z : Value} {bytes : Nat} (hu : Tryd.prog.underlying T = some (.slice E)) (hinfo : (Tryd.prog.info? E).map (fun i => (i.zero, i.size, i.bytes)) = some (some z, 1, bytes)) (hz : z.cells = #[z]) (hby : bytes ≤ 32)
    (hg : o.guard = Option.none) (l c : Operand) (hop : o.op = Op.makeSlice T l c) (n : Nat) (hn : n ≤ 1000000) (hl : a.eval l = .int .i64 (n : Int)) (hc : a.eval c = .int .i64 (n : Int))
    (hK : ∀ w', Blk w' w.heap.size (List.replicate n z) → w.grownBy w' none → w'.heap.size = w.heap.size + 1 → wpList Tryd.prog ops Q rest (a.put o.dst (.slice (some ⟨w.heap.size, 0, none⟩) n n)) w') : wpList Tryd.prog ops Q (o :: rest) a w := by
  refine wpList_plain hg fun K hK' => ?_
  obtain ⟨w', hr, h1, h2, h3⟩ := run_make1 hu hinfo hz hby w n hn
  unfold Oper.wp
  simp [execOp, hop, hl, hc, hr, Result.andThen]
  exact hK' _ _ (hK w' h1 h2 h3)
end
/-- the table while it is made: t rows stand -/
structure IsP (w : World) (G N n t : Nat) : Prop where
  size : w.heap.size = G + 1 + t
  outer : Blk w G ((List.range N).map fun x => if x * (n + 1) < t then slS (G + 1 + x * (n + 1)) n else nilS)
  mid : ∀ x, x * (n + 1) < t → Blk w (G + 1 + x * (n + 1)) ((List.range n).map fun i => if x * (n + 1) + (i + 1) < t then slS (G + 1 + (x * (n + 1) + (i + 1))) n else nilS)
  leaf : ∀ x i, i < n → x * (n + 1) + (i + 1) < t → Blk w (G + 1 + (x * (n + 1) + (i + 1))) ((List.range n).map fun _ => .bool false)
/-- the table -/
structure IsD (w : World) (G N n : Nat) (is : Nat → Nat → Nat → Bool) : Prop where
  outer : Blk w G ((List.range N).map fun x => slS (G + 1 + x * (n + 1)) n)
  mid : ∀ x, x < N → Blk w (G + 1 + x * (n + 1)) ((List.range n).map fun i => slS (G + 1 + (x * (n + 1) + (i + 1))) n)
  leaf : ∀ x i, x < N → i < n → Blk w (G + 1 + (x * (n + 1) + (i + 1))) ((List.range n).map fun j => .bool (is x i j))
section
variable {w w' : World} {G N n t : Nat} {is : Nat → Nat → Nat → Bool}
theorem IsD.below (h : IsD w G N n is) (hb : Below w.heap.size w w') : IsD w' G N n is :=
  ⟨h.outer.below hb h.outer.lt, fun x hx => (h.mid x hx).below hb (h.mid x hx).lt, fun x i hx hi => (h.leaf x i hx hi).below hb (h.leaf x i hx hi).lt⟩
theorem IsD.c1 (h : IsD w G N n is) {x : Nat} (hx : x < N) : w.cell? ⟨G, x, none⟩ = some (.slice (some ⟨G + 1 + x * (n + 1), 0, none⟩) n n) := h.outer.cell (map_range_get hx _)
theorem IsD.c2 (h : IsD w G N n is) {x i : Nat} (hx : x < N) (hi : i < n) : w.cell? ⟨G + 1 + x * (n + 1), i, none⟩ = some (.slice (some ⟨G + 1 + (x * (n + 1) + (i + 1)), 0, none⟩) n n) := (h.mid x hx).cell (map_range_get hi _)
theorem IsD.c3 (h : IsD w G N n is) {x i j : Nat} (hx : x < N) (hi : i < n) (hj : j < n) : w.cell? ⟨G + 1 + (x * (n + 1) + (i + 1)), j, none⟩ = some (.bool (is x i j)) := (h.leaf x i hx hi).cell (map_range_get hj _)
def updT (is : Nat → Nat → Nat → Bool) (x i j : Nat) : Nat → Nat → Nat → Bool := fun x' i' j' => if x' = x ∧ i' = i ∧ j' = j then true else is x' i' j'
theorem IsD.store (h : IsD w G N n is) {x i j : Nat} (hx : x < N) (hi : i < n) (hg : w.grownBy w' (some (G + 1 + (x * (n + 1) + (i + 1)))))
    (hb : Blk w' (G + 1 + (x * (n + 1) + (i + 1))) (((List.range n).map fun j => Value.bool (is x i j)).set j (.bool true))) : IsD w' G N n (updT is x i j) := by
  refine ⟨h.outer.grown hg (fun e => by injection e with e; omega), fun y hy => (h.mid y hy).grown hg (fun e => ?_), fun y k hy hk => ?_⟩
  · injection e with e
    have := code_inj (n := n) (x := y) (y := x) (i := 0) (j := i + 1) (by omega) (by omega) (by omega)
    omega
  · by_cases he : y = x ∧ k = i
    · obtain ⟨rfl, rfl⟩ := he
      rw [map_range_set] at hb
      have e : (fun m => if m = j then Value.bool true else .bool (is y k m)) = fun m => .bool (updT is y k j y k m) := by
        funext m
        unfold updT
        by_cases hm : m = j <;> simp [hm]
      rw [e] at hb
      exact hb
    · have e : (fun m => Value.bool (updT is x i j y k m)) = fun m => .bool (is y k m) := by
        funext m
        unfold updT
        rw [if_neg (fun hh => he ⟨hh.1, hh.2.1⟩)]
      rw [e]
      refine (h.leaf y k hy hk).grown hg fun e => he ?_
      injection e with e
      have := code_inj (n := n) (x := y) (y := x) (i := k + 1) (j := i + 1) (by omega) (by omega) (by omega)
      omega
theorem IsP.start (hb : Blk w G (List.replicate N nilS)) (hs : w.heap.size = G + 1) : IsP w G N n 0 := by
  refine ⟨hs, ?_, fun x h => absurd h (Nat.not_lt_zero _), fun x i _ h => absurd h (Nat.not_lt_zero _)⟩
  rw [replicate_range] at hb
  have e : (fun x => if x * (n + 1) < 0 then slS (G + 1 + x * (n + 1)) n else nilS) = fun _ => nilS := by
    funext x; rw [if_neg (Nat.not_lt_zero _)]
  rw [e]
  exact hb
theorem IsP.done (h : IsP w G N n (N * (n + 1))) : IsD w G N n fun _ _ _ => false := by
  have hm : ∀ x, x < N → x * (n + 1) < N * (n + 1) := fun x hx => Nat.mul_lt_mul_of_pos_right hx (by omega)
  have hl : ∀ x i, x < N → i < n → x * (n + 1) + (i + 1) < N * (n + 1) := fun x i hx hi => (code_lt (n := n) (y := N) (j := 0) (by omega) (by omega)).2 (.inl hx)
  refine ⟨?_, fun x hx => ?_, fun x i hx hi => h.leaf x i hi (hl x i hx hi)⟩
  · have := h.outer
    rwa [List.map_congr_left (g := fun x => slS (G + 1 + x * (n + 1)) n) fun x hx => if_pos (hm x (List.mem_range.1 hx))] at this
  · have := h.mid x (hm x hx)
    rwa [List.map_congr_left (g := fun i => slS (G + 1 + (x * (n + 1) + (i + 1))) n) fun i hi => if_pos (hl x i hx (List.mem_range.1 hi))] at this
/-- a name's row of rows is made, and then linked -/
theorem IsP.name {w1 w2 : World} {k : Nat} (h : IsP w G N n (k * (n + 1))) (hk : k < N) (h1 : Blk w1 w.heap.size (List.replicate n nilS)) (g1 : w.grownBy w1 none) (s1 : w1.heap.size = w.heap.size + 1)
    (h2 : Blk w2 G (((List.range N).map fun x => if x * (n + 1) < k * (n + 1) then slS (G + 1 + x * (n + 1)) n else nilS).set k (slS w.heap.size n))) (g2 : w1.grownBy w2 (some G)) (s2 : w2.heap.size = w1.heap.size) : IsP w2 G N n (k * (n + 1) + 1) := by
  have hs := h.size
  have hmx : ∀ x, x * (n + 1) < k * (n + 1) + 1 ↔ x * (n + 1) < k * (n + 1) ∨ x = k := fun x => by
    by_cases e : x = k
    · subst e; simp
    · have : x * (n + 1) ≠ k * (n + 1) := fun h => e (code_inj (n := n) (i := 0) (j := 0) (by omega) (by omega) h).1
      omega
  have hlx : ∀ x i, i < n → (x * (n + 1) + (i + 1) < k * (n + 1) + 1 ↔ x * (n + 1) + (i + 1) < k * (n + 1)) := fun x i hi => by
    have : x * (n + 1) + (i + 1) ≠ k * (n + 1) := fun h => by have := (code_inj (n := n) (i := i + 1) (j := 0) (by omega) (by omega) h).2; omega
    omega
  refine ⟨by omega, ?_, fun x hx => ?_, fun x i hi hx => ?_⟩
  · rw [map_range_set] at h2
    have e : (fun x => if x = k then slS w.heap.size n else if x * (n + 1) < k * (n + 1) then slS (G + 1 + x * (n + 1)) n else nilS) = fun x => if x * (n + 1) < k * (n + 1) + 1 then slS (G + 1 + x * (n + 1)) n else nilS := by
      funext x
      by_cases e : x = k
      · subst e
        rw [if_pos rfl, if_pos ((hmx x).2 (.inr rfl)), hs]
      · rw [if_neg e]
        by_cases hx : x * (n + 1) < k * (n + 1)
        · rw [if_pos hx, if_pos ((hmx x).2 (.inl hx))]
        · rw [if_neg hx, if_neg (fun h => ((hmx x).1 h).elim hx e)]
    rw [e] at h2
    exact h2
  · rcases (hmx x).1 hx with hx | rfl
    · have h3 := ((h.mid x hx).grown g1 (fun e => by cases e)).grown g2 (fun e => by injection e with e; omega)
      rwa [List.map_congr_left (g := fun i => if x * (n + 1) + (i + 1) < k * (n + 1) + 1 then slS (G + 1 + (x * (n + 1) + (i + 1))) n else nilS) fun i hi => by simp only [hlx x i (List.mem_range.1 hi)]] at h3
    · have h3 := h1.grown g2 (fun e => by injection e with e; omega)
      rw [hs, replicate_range] at h3
      rwa [List.map_congr_left (g := fun i => if x * (n + 1) + (i + 1) < x * (n + 1) + 1 then slS (G + 1 + (x * (n + 1) + (i + 1))) n else nilS) fun i _ => by rw [if_neg (by omega)]] at h3
  · have hx := (hlx x i hi).1 hx
    exact ((h.leaf x i hi hx).grown g1 (fun e => by cases e)).grown g2 (fun e => by injection e with e; omega)
/-- a row of booleans is made, and then linked -/
theorem IsP.row {w1 w2 : World} {k m : Nat} (h : IsP w G N n (k * (n + 1) + (m + 1))) (hk : k < N) (hm : m < n) (h1 : Blk w1 w.heap.size (List.replicate n (.bool false))) (g1 : w.grownBy w1 none) (s1 : w1.heap.size = w.heap.size + 1)
    (h2 : Blk w2 (G + 1 + k * (n + 1)) (((List.range n).map fun i => if k * (n + 1) + (i + 1) < k * (n + 1) + (m + 1) then slS (G + 1 + (k * (n + 1) + (i + 1))) n else nilS).set m (slS w.heap.size n))) (g2 : w1.grownBy w2 (some (G + 1 + k * (n + 1)))) (s2 : w2.heap.size = w1.heap.size) : IsP w2 G N n (k * (n + 1) + (m + 1 + 1)) := by
  have hs := h.size
  have hmx : ∀ x, x * (n + 1) < k * (n + 1) + (m + 1 + 1) ↔ x * (n + 1) < k * (n + 1) + (m + 1) := fun x => by
    have : x * (n + 1) ≠ k * (n + 1) + (m + 1) := fun h => by have := (code_inj (n := n) (i := 0) (j := m + 1) (by omega) (by omega) h).2; omega
    omega
  have hlx : ∀ x i, i < n → (x * (n + 1) + (i + 1) < k * (n + 1) + (m + 1 + 1) ↔ x * (n + 1) + (i + 1) < k * (n + 1) + (m + 1) ∨ (x = k ∧ i = m)) := fun x i hi => by
    by_cases e : x = k ∧ i = m
    · obtain ⟨rfl, rfl⟩ := e
      constructor
      · intro _; exact .inr ⟨rfl, rfl⟩
      · intro _; omega
    · have : x * (n + 1) + (i + 1) ≠ k * (n + 1) + (m + 1) := fun h => by
        have := code_inj (n := n) (i := i + 1) (j := m + 1) (by omega) (by omega) h
        exact e ⟨this.1, by omega⟩
      constructor
      · intro h; exact .inl (by omega)
      · rintro (h | h)
        · omega
        · exact absurd h e
  refine ⟨by omega, ?_, fun x hx => ?_, fun x i hi hx => ?_⟩
  · have h3 := (h.outer.grown g1 (fun e => by cases e)).grown g2 (fun e => by injection e with e; omega)
    rwa [List.map_congr_left (g := fun x => if x * (n + 1) < k * (n + 1) + (m + 1 + 1) then slS (G + 1 + x * (n + 1)) n else nilS) fun x _ => by simp only [hmx x]] at h3
  · have hx := (hmx x).1 hx
    by_cases e : x = k
    · subst e
      rw [map_range_set] at h2
      have e : (fun i => if i = m then slS w.heap.size n else if x * (n + 1) + (i + 1) < x * (n + 1) + (m + 1) then slS (G + 1 + (x * (n + 1) + (i + 1))) n else nilS) = fun i => if x * (n + 1) + (i + 1) < x * (n + 1) + (m + 1 + 1) then slS (G + 1 + (x * (n + 1) + (i + 1))) n else nilS := by
        funext i
        by_cases hi : i = m
        · subst hi
          rw [if_pos rfl, if_pos (by omega), hs]
        · rw [if_neg hi]
          by_cases hlt : x * (n + 1) + (i + 1) < x * (n + 1) + (m + 1)
          · rw [if_pos hlt, if_pos (by omega)]
          · rw [if_neg hlt, if_neg (by omega)]
      rw [e] at h2
      exact h2
    · have h3 := ((h.mid x hx).grown g1 (fun e => by cases e)).grown g2 (fun e2 => e (by
        injection e2 with e2
        exact (code_inj (n := n) (x := x) (y := k) (i := 0) (j := 0) (by omega) (by omega) (by omega)).1))
      rwa [List.map_congr_left (g := fun i => if x * (n + 1) + (i + 1) < k * (n + 1) + (m + 1 + 1) then slS (G + 1 + (x * (n + 1) + (i + 1))) n else nilS) fun i hi => by
        have := hlx x i (List.mem_range.1 hi)
        simp only [this, e, false_and, or_false]] at h3
  · rcases (hlx x i hi).1 hx with hx | ⟨rfl, rfl⟩
    · refine ((h.leaf x i hi hx).grown g1 (fun e => by cases e)).grown g2 (fun e => ?_)
      injection e with e
      have := (code_inj (n := n) (x := k) (y := x) (i := 0) (j := i + 1) (by omega) (by omega) (by omega)).2
      omega
    · have h3 := h1.grown g2 (fun e => by injection e with e; omega)
      rw [hs, replicate_range] at h3
      exact h3
end
end Go.Proofs.YtiebpmpjclnpeaaDoor
