/- OctetBack: what is put, one thing behind the other, is read as it was put. -/
import Derived.Test.YtpbalgnfeabhgaaDoorOctBackP
import Derived.Test.YtpbalgnfeabhgaaDoorOctRText
import Derived.Test.YtpbalgnfeabhgaaDoorOctOwn
import Derived.Test.YtpbalgnfeabhgaaDoorTailM
namespace Go.Proofs.YtpbalgnfeabhgaaDoor
open Go.RowKit Nac Nac.Crc
def JT (w : World) (b1 : Nat) (A1 : Option Addr) (c1 : Nat) (F : List UInt8) (p p' hb : Nat) (s : Value) (L : Nat → Bool) (w' : World) : Prop :=
  (L 1 = false → RdM w' b1 A1 c1 ⟨F, p, 0⟩) ∧ (L 1 = true → RdM w' b1 A1 c1 ⟨F, p', 0⟩) ∧ w'.cell? ⟨hb, 2, none⟩ = some s ∧ Below w.heap.size w w' ∧ hb < w'.heap.size
set_option maxRecDepth 100000 in
set_option maxHeartbeats 8000000 in
theorem back_calls (w : World) (hd : Hdl w) (A : Option Addr) (c : Nat) (xs : List PutP) (h : RP w w.heap.size A xs) (h8 : xs.length ≤ 140737488351232) :
    Calls Tryd.prog 7 #[.slice A xs.length c] w fun e w' => e = .returned (.bool true) ∧ Below w.heap.size w w' := by
  obtain ⟨n, hn⟩ : ∃ n, n = min xs.length 40 := ⟨_, rfl⟩
  have hnx : n ≤ xs.length := by omega
  have hn4 : n ≤ 40 := by omega
  have HN := Lib.hid hn
  have HD := Lib.hid hd
  have HR := Lib.hid h
  clear hn hd h
  go_enter Tryd.func7, Tryd.ntmps7
  go_wp2
  go_loopw [3, 4] (fun s3 s4 wr => ∃ (i : Nat) (A' : Option Addr) (c' : Nat) (L : List UInt8), i ≤ n ∧ s4 = .int .i64 i ∧ s3 = .slice A' L.length c' ∧ Hid (L = encs (xs.take i)) ∧ OB wr w.heap.size A' c' L ∧ Below w.heap.size w wr) (fun _ s4 _ => n - (intOf s4).toNat)
  case atStart => exact ⟨0, none, 0, [], Nat.zero_le _, rfl, rfl, Lib.hid rfl, OB.nil _ _, Below.refl _ _⟩
  case round =>
    obtain ⟨i, A', c', L, hi, rfl, rfl, HL, hob, hbel⟩ := hrel
    by_cases hlt : i < n
    · have hix : i < xs.length := by omega
      have hi4 : i < 40 := by omega
      obtain ⟨b, o, hA, hb, hc0, hc1, hc2, hc3, hfit⟩ := HR.out.get hix
      subst hA
      have hstep := encs_take xs i hix
      have hL9 : L.length ≤ 256 * 40 := by
        rw [HL.out]
        have := encs_len (xs.take i)
        simp at this
        omega
      have HL9 := Lib.hid hL9
      have HSTEP := Lib.hid hstep
      obtain ⟨x, hx⟩ : ∃ x, x = xs[i] := ⟨_, rfl⟩
      rw [← hx] at hc0 hc1 hc2 hc3 hfit HSTEP
      obtain ⟨n9, z, s, tx⟩ := x
      have hfn : n9 ≤ 18446744073709551615 := hfit.n
      have hc3' : wr.cell? ⟨b, o + i * 4 + 3, none⟩ = some (.bool tx) := (hbel.cell (p := ⟨b, o + i * 4 + 3, none⟩) hb).trans hc3
      have hc2' : wr.cell? ⟨b, o + i * 4 + 2, none⟩ = some (.string (strB s)) := (hbel.cell (p := ⟨b, o + i * 4 + 2, none⟩) hb).trans hc2
      have hbw : b < wr.heap.size := Nat.lt_of_lt_of_le hb hbel.size
      have M0 : Hid (∀ w', Below wr.drew.heap.size wr.drew w' → w'.cell? ⟨b, o + i * 4, none⟩ = some (.int .u64 (n9 : Int))) := Lib.hid fun w' hb' => ((hb'.cell (p := ⟨b, o + i * 4, none⟩) hbw).trans (hbel.cell (p := ⟨b, o + i * 4, none⟩) hb)).trans hc0
      have M1 : Hid (∀ w', Below wr.drew.heap.size wr.drew w' → w'.cell? ⟨b, o + i * 4 + 1, none⟩ = some (.int .i64 z)) := Lib.hid fun w' hb' => ((hb'.cell (p := ⟨b, o + i * 4 + 1, none⟩) hbw).trans (hbel.cell (p := ⟨b, o + i * 4 + 1, none⟩) hb)).trans hc1
      have HO := Lib.hid hob
      have HB := Lib.hid hbel
      have QI := Lib.hid hix
      clear hc0 hc1 hc2 hc3 hfit hstep hob hbel hx hbw hb hL9
      cases tx with
      | true =>
        clear M0 M1
        have henc : Hid (enc ⟨n9, z, s, true⟩ = textB s) := Lib.hid rfl
        go_wp2_with fail
        refine (text_any wr s).mono ?_
        rintro e w1 ⟨A2, c2, rfl, hrb, hb1⟩
        have HRB := Lib.hid hrb
        have HO1 : Hid (OB w1 w.heap.size A' c' L) := Lib.hid (HO.out.below hb1 (Nat.le_refl _))
        have HB1 : Hid (Below w.heap.size w w1) := Lib.hid (HB.out.trans (hb1.mono HB.out.size))
        have HT9 : Hid ((textB s).length ≤ 256) := Lib.hid <| by have := enc_len ⟨n9, z, s, true⟩; rw [henc.out] at this; exact this
        clear hrb hb1 HB HO hc2' hc3'
        go_wp2_with (at_builtin; refine wpList_app_bytes _ rfl _ _ rfl w.heap.size A' c' L _ rfl rfl HO1.out A2 c2 (textB s) _ rfl rfl HRB.out (by have := HL9.out; have := HT9.out; omega) HB1.out.size ?_)
        intro A3 c3 L3 w3 HL3 ho3 hg3 _
        have HL3' : Hid (L3 = encs (xs.take (i + 1))) := Lib.hid <| by rw [HL3.out, HL.out, HSTEP.out, henc.out]
        have HB3 : Hid (Below w.heap.size w w3) := Lib.hid (below_app HB1.out hg3 HO1.out HB1.out.size (Nat.le_refl _))
        have HO3 := Lib.hid ho3
        clear HL3 ho3 hg3 HB1 HO1 HRB
        go_wp2
        go_roundw
        case rel => exact ⟨i + 1, A3, c3, L3, by omega, by go_num, rfl, HL3', HO3.out, HB3.out⟩
        case measure => simp [intOf]; omega
      | false =>
        have henc : Hid (enc ⟨n9, z, s, false⟩ = putB n9 z) := Lib.hid rfl
        have PF : Hid (∀ w', Below wr.drew.heap.size wr.drew w' → Calls Tryd.prog 10 #[.int .u64 (n9 : Int), .int .i64 z] w' fun e w'' => ∃ v, e = .returned v ∧ (byt (putB n9 z)).ok v w'' ∧ Below w'.heap.size w' w'') := Lib.hid fun w' _ => by
          refine (put_any w' n9 z).mono ?_
          rintro e w'' ⟨A2, c2, rfl, hrb, hb2⟩
          exact ⟨_, rfl, ⟨A2, c2, rfl, hrb⟩, hb2⟩
        clear hc2'
        go_wp2_with fail
        refine region_tails 12 (fun ix9 => ([.is (.slice A' L.length c'), .is (.slice (some ⟨b, o, none⟩) xs.length c), .is (.int .i64 (i : Int)), .is (.pointer (some ⟨b, o + i * 4, none⟩)), .is (.pointer (some ⟨b, o + i * 4, none⟩)), .is (.int .u64 (n9 : Int)), .is (.slice (some ⟨b, o, none⟩) xs.length c), .is (.int .i64 (i : Int)), .is (.pointer (some ⟨b, o + i * 4, none⟩)), .is (.pointer (some ⟨b, o + i * 4 + 1, none⟩)), .is (.int .i64 z), (byt (putB n9 z))] : List VD).getD ix9 (.is undef)) [some 33, some 34, some 35, some 36, some 37, some 38, some 39, some 40, some 41, some 42, some 43, some 44] (by kernel_rfl) (by kernel_rfl) (by kernel_rfl) (by kernel_rfl) rfl (fun ii hii => ?_) ?_
        · match ii, hii with
          | 0, _ => exact mstep_first rfl (mwant_none rfl) 3 (Or.inl rfl) (by kernel_rfl) (fun _ _ => rfl)
          | 1, _ => exact mstep_first rfl (mwant_none rfl) 0 (Or.inl rfl) (by kernel_rfl) (fun _ _ => rfl)
          | 2, _ => exact mstep_first rfl (mwant_none rfl) 4 (Or.inl rfl) (by kernel_rfl) (fun _ _ => rfl)
          | 3, _ => exact mstep_pure rfl (mwant_none rfl) (fun aa ww cc => ⟨.pointer (some ⟨b, o + i * 4, none⟩), by have e0 : aa.tmps.getD 34 undef = .slice (some ⟨b, o, none⟩) xs.length c := cc.slot 1 34 (by kernel_rfl) rfl; have e1 : aa.tmps.getD 35 undef = .int .i64 (i : Int) := cc.slot 2 35 (by kernel_rfl) rfl; have q := QI.out; simp only [execOp, Act.eval, e0, e1]; go_simp, rfl⟩)
          | 4, _ => exact mstep_pure rfl (mwant_none rfl) (fun aa ww cc => ⟨.pointer (some ⟨b, o + i * 4, none⟩), by have e0 : aa.tmps.getD 36 undef = .pointer (some ⟨b, o + i * 4, none⟩) := cc.slot 3 36 (by kernel_rfl) rfl; simp only [execOp, Act.eval, e0]; go_simp, rfl⟩)
          | 5, _ => exact mstep_pure rfl (mwant_none rfl) (fun aa ww cc => ⟨.int .u64 (n9 : Int), by have e0 : aa.tmps.getD 37 undef = .pointer (some ⟨b, o + i * 4, none⟩) := cc.slot 4 37 (by kernel_rfl) rfl; have m := M0.out _ cc.below; simp only [execOp, Act.eval, e0]; go_simp, rfl⟩)
          | 6, _ => exact mstep_first rfl (mwant_none rfl) 0 (Or.inl rfl) (by kernel_rfl) (fun _ _ => rfl)
          | 7, _ => exact mstep_first rfl (mwant_none rfl) 4 (Or.inl rfl) (by kernel_rfl) (fun _ _ => rfl)
          | 8, _ => exact mstep_pure rfl (mwant_none rfl) (fun aa ww cc => ⟨.pointer (some ⟨b, o + i * 4, none⟩), by have e0 : aa.tmps.getD 39 undef = .slice (some ⟨b, o, none⟩) xs.length c := cc.slot 6 39 (by kernel_rfl) rfl; have e1 : aa.tmps.getD 40 undef = .int .i64 (i : Int) := cc.slot 7 40 (by kernel_rfl) rfl; have q := QI.out; simp only [execOp, Act.eval, e0, e1]; go_simp, rfl⟩)
          | 9, _ => exact mstep_pure rfl (mwant_none rfl) (fun aa ww cc => ⟨.pointer (some ⟨b, o + i * 4 + 1, none⟩), by have e0 : aa.tmps.getD 41 undef = .pointer (some ⟨b, o + i * 4, none⟩) := cc.slot 8 41 (by kernel_rfl) rfl; simp only [execOp, Act.eval, e0]; go_simp, rfl⟩)
          | 10, _ => exact mstep_pure rfl (mwant_none rfl) (fun aa ww cc => ⟨.int .i64 z, by have e0 : aa.tmps.getD 42 undef = .pointer (some ⟨b, o + i * 4 + 1, none⟩) := cc.slot 9 42 (by kernel_rfl) rfl; have m := M1.out _ cc.below; simp only [execOp, Act.eval, e0]; go_simp, rfl⟩)
          | 11, _ => exact mstep_call rfl (mwant_none rfl) _ _ _ rfl (enters_of Tryd.func10 (by kernel_rfl) rfl) (fun aa ww cc => by have e0 : aa.tmps.getD 38 undef = .int .u64 (n9 : Int) := cc.slot 5 38 (by kernel_rfl) rfl; have e1 : aa.tmps.getD 43 undef = .int .i64 z := cc.slot 10 43 (by kernel_rfl) rfl; simp only [List.map_toArray, List.map_cons, List.map_nil, Act.eval, e0, e1]; exact (PF.out) ww cc.below)
          | n + 12, h => exact absurd h (by show ¬ (n + 12 < 12); omega)
        · intro VV w5 hlen hb5 hok
          match VV, hlen with
          | [v0, v1, v2, v3, v4, v5, v6, v7, v8, v9, v10, v11], _ =>
            obtain rfl : v0 = .slice A' L.length c' := hok 0 33 rfl
            obtain rfl : v1 = .slice (some ⟨b, o, none⟩) xs.length c := hok 1 34 rfl
            obtain rfl : v2 = .int .i64 (i : Int) := hok 2 35 rfl
            obtain rfl : v3 = .pointer (some ⟨b, o + i * 4, none⟩) := hok 3 36 rfl
            obtain rfl : v4 = .pointer (some ⟨b, o + i * 4, none⟩) := hok 4 37 rfl
            obtain rfl : v5 = .int .u64 (n9 : Int) := hok 5 38 rfl
            obtain rfl : v6 = .slice (some ⟨b, o, none⟩) xs.length c := hok 6 39 rfl
            obtain rfl : v7 = .int .i64 (i : Int) := hok 7 40 rfl
            obtain rfl : v8 = .pointer (some ⟨b, o + i * 4, none⟩) := hok 8 41 rfl
            obtain rfl : v9 = .pointer (some ⟨b, o + i * 4 + 1, none⟩) := hok 9 42 rfl
            obtain rfl : v10 = .int .i64 z := hok 10 43 rfl
            have p11 := hok 11 44 rfl
            have p11 := hok 11 44 rfl
            obtain ⟨A2, c2, hv11, hrb⟩ := p11
            have hv11' : v11 = .slice A2 (putB n9 z).length c2 := hv11
            subst hv11'
            have HRB := Lib.hid hrb
            have HO1 : Hid (OB w5 w.heap.size A' c' L) := Lib.hid (HO.out.below hb5 (Nat.le_refl _))
            have HB1 : Hid (Below w.heap.size w w5) := Lib.hid (HB.out.trans (hb5.mono HB.out.size))
            have HT9 : Hid ((putB n9 z).length ≤ 256) := Lib.hid <| by have := enc_len ⟨n9, z, s, false⟩; rw [henc.out] at this; exact this
            clear hrb hb5 HB HO hc3' M0 M1 PF hok hv11
            simp only [List.zip_cons_cons, List.zip_nil_right, putsL]
            go_simp
            go_wp2_with (at_builtin; refine wpList_app_bytes _ rfl _ _ rfl w.heap.size A' c' L _ rfl rfl HO1.out A2 c2 (putB n9 z) _ rfl rfl HRB.out (by have := HL9.out; have := HT9.out; omega) HB1.out.size ?_)
            intro A3 c3 L3 w3 HL3 ho3 hg3 _
            have HL3' : Hid (L3 = encs (xs.take (i + 1))) := Lib.hid <| by rw [HL3.out, HL.out, HSTEP.out, henc.out]
            have HB3 : Hid (Below w.heap.size w w3) := Lib.hid (below_app HB1.out hg3 HO1.out HB1.out.size (Nat.le_refl _))
            have HO3 := Lib.hid ho3
            clear HL3 ho3 hg3 HB1 HO1 HRB
            go_wp2
            go_roundw
            case rel => exact ⟨i + 1, A3, c3, L3, by omega, by go_num, rfl, HL3', HO3.out, HB3.out⟩
            case measure => simp [intOf]; omega
    · have hin : i = n := by omega
      subst hin
      clear hlt
      obtain ⟨ys, hys⟩ : ∃ ys, ys = xs.take i := ⟨_, rfl⟩
      rw [← hys] at HL
      have hyl : ys.length = i := by rw [hys]; simp; omega
      have HYL := Lib.hid hyl
      have HYS := Lib.hid hys
      have hL9 : L.length ≤ 256 * 40 := by
        rw [HL.out]
        have := encs_len ys
        omega
      have HO := Lib.hid hob
      have HB := Lib.hid hbel
      have hL90 := Lib.hid hL9
      have hcs : ¬ i < xs.length ∨ (i < xs.length ∧ ¬ (i : Int) < 40) := by have := HN.out; omega
      clear hyl hys hob hbel hL9 hnx
      rcases hcs with hcs | ⟨hcs, hcs2⟩
      all_goals
        go_wp2_with fail
        refine (read2_calls wr _ A' c' L HO.out.rb (Nat.le_refl _) (by have := hL90.out; omega)).mono ?_
        rintro e w2 ⟨b1, A1, c1, rfl, hm1, hbb1, hA1, hb2⟩
        have HM1 := Lib.hid hm1
        have HO2 : Hid (OB w2 w.heap.size A' c' L) := Lib.hid (HO.out.below hb2 (Nat.le_refl _))
        have HB2 : Hid (Below w.heap.size w w2) := Lib.hid (HB.out.trans (hb2.mono HB.out.size))
        have HNE : Hid (∀ k, A'.map (·.block) = some k → k < b1) := Lib.hid fun k hk => Nat.lt_of_lt_of_le (HO.out.lt k hk).2 hbb1
        have HNA : Hid (∀ k g, A'.map (·.block) = some k → A1.map (·.block) = some g → k < g) := Lib.hid fun k g hk hg => Nat.lt_of_lt_of_le (HO.out.lt k hk).2 (hA1 g hg)
        have HBB : Hid (w.heap.size ≤ b1) := Lib.hid (Nat.le_trans HB.out.size hbb1)
        clear hm1 hbb1 hA1 hb2 HO HB hcs
        have hL9 := hL90.out
        obtain ⟨m, hm⟩ : ∃ m, m = L.length := ⟨_, rfl⟩
        have hmm : L.length = m := hm.symm
        rw [hmm] at hL9
        have HMM := Lib.hid hmm
        rw [hmm]
        clear hmm hm
        go_wp2
        go_loopw [6] (fun s6 wr => ∃ (j : Nat) (M : List UInt8), j ≤ m ∧ s6 = .int .i64 j ∧ Hid (M.length = m) ∧ OB wr w.heap.size A' c' M ∧ w2.grownBy wr (A'.map (·.block))) (fun s6 _ => m - (intOf s6).toNat)
        case atStart => exact ⟨0, L, Nat.zero_le _, rfl, HMM, HO2.out, World.grownBy.refl _ _⟩
        case round =>
          obtain ⟨j, M, hj, rfl, HML, hown, hgr⟩ := hrel
          by_cases hlt : j < m
          · have hjM : j < M.length := by rw [HML.out]; exact hlt
            obtain ⟨g, hX, hge, hgl, hcell, hfree⟩ := hown.at hjM
            subst hX
            have HOW := Lib.hid hown
            have hs := HOW.out.set j 255 (v := .int .u8 255) rfl
            have HS := Lib.hid hs
            have HLS : Hid ((M.set j 255).length = m) := Lib.hid <| by rw [List.length_set]; exact HML.out
            obtain ⟨x9, hx9⟩ : ∃ x9, x9 = (M[j]'hjM).toNat := ⟨_, rfl⟩
            rw [← hx9] at hcell
            have HG : Hid (w2.grownBy (wr.setCell ⟨g, j, none⟩ (.int .u8 255)) (some g)) := Lib.hid (hgr.trans (grown_setCell wr ⟨g, j, none⟩ _))
            clear hown hs hx9 hjM hge hgr
            go_wp2
            go_roundw
            case rel => exact ⟨j + 1, M.set j 255, by omega, by go_num, HLS, HS.out, HG.out⟩
            case measure => simp [intOf]; omega
          · have HOW := Lib.hid hown
            have HM3 : Hid (RdM wr b1 A1 c1 ⟨L, 0, 0⟩) := Lib.hid <| by
              cases hA : A'.map (·.block) with
              | none => rw [hA] at hgr; exact HM1.out.grown hgr (fun k e => by cases e)
              | some k =>
                rw [hA] at hgr
                exact rdm_other HM1.out hgr (Nat.ne_of_lt (HNE.out k hA)) (fun g hg => Nat.ne_of_lt (HNA.out k g hA hg))
            have HB3 : Hid (Below w.heap.size w wr) := Lib.hid <| HB2.out.grown hgr HB2.out.size (fun k hk => (HO2.out.lt k hk).1)
            clear hown hgr HM1 HO2 HNE HNA HB2
            go_wp2
            go_loopw [7] (fun s7 wr => ∃ (k p : Nat), k ≤ i ∧ s7 = .int .i64 k ∧ RdM wr b1 A1 c1 ⟨L, p, 0⟩ ∧ Hid (L.drop p = encs (ys.drop k)) ∧ Below w.heap.size w wr) (fun s7 _ => i - (intOf s7).toNat)
            case atStart => exact ⟨0, 0, Nat.zero_le _, rfl, HM3.out, Lib.hid HL.out, HB3.out⟩
            case round =>
              obtain ⟨k, p, hk, rfl, hrm, HP, hbel⟩ := hrel
              clear HM3 HB3 HOW HML hlt hj
              by_cases hlt : k < i
              · have hkx : k < xs.length := by have := HN.out; omega
                have hk4 : (k : Int) < 40 := by omega
                have hky : k < ys.length := by rw [HYL.out]; exact hlt
                obtain ⟨b, o, hA, hb, hc0, hc1, hc2, hc3, hfit⟩ := HR.out.get hkx
                subst hA
                have hyx : ys[k] = xs[k] := Option.some.inj ((List.getElem?_eq_getElem hky).symm.trans ((by rw [HYS.out, List.getElem?_take_of_lt hlt] : ys[k]? = xs[k]?).trans (List.getElem?_eq_getElem hkx)))
                have hstep := encs_drop ys k hky
                rw [hyx] at hstep
                have HSTEP : Hid (L.drop p = enc xs[k] ++ encs (ys.drop (k + 1))) := Lib.hid (HP.out.trans hstep)
                obtain ⟨x, hx⟩ : ∃ x, x = xs[k] := ⟨_, rfl⟩
                rw [← hx] at hc0 hc1 hc2 hc3 hfit HSTEP
                obtain ⟨n9, z, s, tx⟩ := x
                have d0 : wr.cell? ⟨b, o + k * 4, none⟩ = some (.int .u64 (n9 : Int)) := (hbel.cell (p := ⟨b, o + k * 4, none⟩) hb).trans hc0
                have d1 : wr.cell? ⟨b, o + k * 4 + 1, none⟩ = some (.int .i64 z) := (hbel.cell (p := ⟨b, o + k * 4 + 1, none⟩) hb).trans hc1
                have d2 : wr.cell? ⟨b, o + k * 4 + 2, none⟩ = some (.string (strB s)) := (hbel.cell (p := ⟨b, o + k * 4 + 2, none⟩) hb).trans hc2
                have d3 : wr.cell? ⟨b, o + k * 4 + 3, none⟩ = some (.bool tx) := (hbel.cell (p := ⟨b, o + k * 4 + 3, none⟩) hb).trans hc3
                have HRM := Lib.hid hrm
                have HB := Lib.hid hbel
                have HF := Lib.hid hfit
                have hbw : b < wr.heap.size := Nat.lt_of_lt_of_le hb hbel.size
                clear hc0 hc1 hc2 hc3 hfit hstep hyx hx hky hrm hbel hb HP
                cases tx with
                | true =>
                  have hsz : (strB s).size = s.length := rfl
                  by_cases h255 : s.length ≤ 255
                  · have henc : enc ⟨n9, z, s, true⟩ = UInt8.ofNat s.length :: s := by have : ¬ 255 < s.length := (by omega); simp [enc, textB, this]
                    rw [henc] at HSTEP
                    have hf : Blk (wr.alloc (.cells #[.int .u64 n9, .int .i64 z, .string (strB s), .bool true] 46)) wr.heap.size [.int .u64 n9, .int .i64 z, .string (strB s), .bool true] := Blk.new wr _ _
                    have HJ0 : Hid (JT w b1 A1 c1 L p (p + 1 + s.length) wr.heap.size (.string (strB s)) (fun _ => false) (wr.alloc (.cells #[.int .u64 n9, .int .i64 z, .string (strB s), .bool true] 46)).drew) := Lib.hid ⟨fun _ => RdM.drew (HRM.out.below ((Below.refl _ _).alloc (Nat.le_refl _) _) HRM.out.blk.lt), fun h => by simp at h, hf.cell rfl, (HB.out.alloc HB.out.size _).drew, hf.lt⟩
                    have TX : Hid (∀ (LL : Nat → Bool) (w' : World), JT w b1 A1 c1 L p (p + 1 + s.length) wr.heap.size (.string (strB s)) LL w' → LL 1 = false → Calls Tryd.prog 20 #[.pointer (some ⟨b1, 0, none⟩)] w' fun e w'' => ∃ v, e = .returned v ∧ v = .string (strB s) ∧ JT w b1 A1 c1 L p (p + 1 + s.length) wr.heap.size (.string (strB s)) (upd LL 1) w'') := Lib.hid fun LL w' hJ hl => by
                      obtain ⟨j1, j2, j3, j4, j5⟩ := hJ
                      refine (rtext_calls w' b1 A1 c1 ⟨L, p, 0⟩ (j1 hl) (by have := hL90.out; show L.length ≤ _; omega) s (encs (ys.drop (k + 1))) h255 rfl HSTEP.out).mono ?_
                      rintro e w'' ⟨rfl, hm, hg⟩
                      have hne : b1 ≠ wr.heap.size := Nat.ne_of_lt HRM.out.blk.lt
                      refine ⟨_, rfl, rfl, fun h => by simp [upd] at h, fun _ => hm, ?_, ?_, Nat.lt_of_lt_of_le j5 hg.size⟩
                      · exact (cell_of_heap (p := ⟨wr.heap.size, 2, none⟩) (hg.block _ j5 (fun e => hne (by injection e with e; exact e.symm)))).trans j3
                      · exact j4.grown hg j4.size (fun k e => by injection e with e; rw [← e]; exact HBB.out)
                    go_wp2_with fail
                    refine region_vals [.pointer (some ⟨b1, 0, none⟩), .string (strB s), .pointer (some ⟨wr.heap.size, 2, none⟩), .string (strB s), .bool false] [some 80, some 81, some 82, some 83, some 84] (JT w b1 A1 c1 L p (p + 1 + s.length) wr.heap.size (.string (strB s))) (by kernel_rfl) (by kernel_rfl) (by kernel_rfl) rfl rfl HJ0.out (fun ii hii => ?_) ?_
                    · match ii, hii with
                      | 0, _ => exact vstep_first rfl (vwant_none rfl) (fun _ _ h => h) 5 (Or.inl rfl) (by kernel_rfl) rfl
                      | 1, _ => exact vstep_call rfl (vwant_none rfl) _ _ _ rfl (enters_of Tryd.func20 (by kernel_rfl) rfl) (fun LL aa ww cc => by have e0 : aa.tmps.getD 80 undef = .pointer (some ⟨b1, 0, none⟩) := cc.slot 0 80 (by kernel_rfl) rfl; simp only [List.map_toArray, List.map_cons, List.map_nil, Act.eval, e0]; exact (TX.out) LL ww cc.world cc.fresh)
                      | 2, _ => exact vstep_pure rfl (vwant_none rfl) (fun _ _ h => h) (fun LL aa ww cc => ⟨.pointer (some ⟨wr.heap.size, 2, none⟩), by have e0 : aa.tmps.getD 8 undef = .pointer (some ⟨wr.heap.size, 0, none⟩) := (cc.orig 8 (by kernel_rfl)).trans rfl; simp only [execOp, Act.eval, e0]; go_simp, rfl⟩)
                      | 3, _ => exact vstep_pure rfl (vwant_none rfl) (fun _ _ h => h) (fun LL aa ww cc => ⟨.string (strB s), by have e0 : aa.tmps.getD 82 undef = .pointer (some ⟨wr.heap.size, 2, none⟩) := cc.slot 2 82 (by kernel_rfl) rfl; have m := cc.world.2.2.1; simp only [execOp, Act.eval, e0]; go_simp, rfl⟩)
                      | 4, _ => exact vstep_pure rfl (vwant_none rfl) (fun _ _ h => h) (fun LL aa ww cc => ⟨.bool false, by have e0 : aa.tmps.getD 81 undef = .string (strB s) := cc.slot 1 81 (by kernel_rfl) rfl; have e1 : aa.tmps.getD 83 undef = .string (strB s) := cc.slot 3 83 (by kernel_rfl) rfl; simp only [execOp, Act.eval, e0, e1]; go_simp, rfl⟩)
                      | n + 5, h => exact absurd h (by show ¬ (n + 5 < 5); omega)
                    · intro L0 w5 hall hJ
                      obtain ⟨_, j2, _, j4, _⟩ := hJ
                      have HM5 : Hid (RdM w5 b1 A1 c1 ⟨L, p + 1 + s.length, 0⟩) := Lib.hid (j2 (hall 1 (by decide)))
                      have HB5 := Lib.hid j4
                      have HD5 : Hid (L.drop (p + 1 + s.length) = encs (ys.drop (k + 1))) := Lib.hid <| by
                        have := drop_more (a := UInt8.ofNat s.length :: s) HSTEP.out
                        rw [← this, List.length_cons, Nat.add_assoc, Nat.add_comm 1 s.length]
                      clear hall j2 j4 HJ0 TX HRM HB HSTEP hf
                      refine (by assumption : ∀ (a : Act) (w : World), Code.wp _ _ _ a w → _) _ _ ?_
                      simp only [List.zip_cons_cons, List.zip_nil_right, putsL]
                      go_simp
                      go_wp2
                      go_roundw
                      case rel => exact ⟨k + 1, _, by omega, by go_num, HM5.out, HD5, HB5.out⟩
                      case measure => simp [intOf]; omega
                  · have henc : enc ⟨n9, z, s, true⟩ = [] := by have : 255 < s.length := (by omega); simp [enc, textB, this]
                    rw [henc, List.nil_append] at HSTEP
                    have HB5 : Hid (Below w.heap.size w (wr.alloc (.cells #[.int .u64 n9, .int .i64 z, .string (strB s), .bool true] 46))) := Lib.hid (HB.out.alloc HB.out.size _)
                    have HM5 : Hid (RdM (wr.alloc (.cells #[.int .u64 n9, .int .i64 z, .string (strB s), .bool true] 46)) b1 A1 c1 ⟨L, p, 0⟩) := Lib.hid (HRM.out.below ((Below.refl _ _).alloc (Nat.le_refl _) _) HRM.out.blk.lt)
                    go_wp2_with fail
                    go_roundw
                    case rel => exact ⟨k + 1, p, by omega, by go_num, HM5.out, HSTEP, HB5.out⟩
                    case measure => simp [intOf]; omega
                | false =>
                  by_cases hz : 1 ≤ z ∧ z ≤ 8
                  · have henc : enc ⟨n9, z, s, false⟩ = lbs n9 z.toNat := by simp [enc, putB, hz]
                    rw [henc] at HSTEP
                    obtain ⟨hz1, hz8⟩ := hz
                    have hn9 := HF.out.n
                    have hn9' : n9 ≤ 18446744073709551615 := hn9
                    have HN9 := Lib.hid hn9'
                    clear hn9 hn9' HF henc
                    obtain ⟨zk, hzk⟩ : ∃ zk : Nat, z = zk := ⟨z.toNat, by omega⟩
                    rw [hzk, Int.toNat_natCast] at HSTEP
                    have HNK : Hid ((Rdr.mk L p 0).num z = (⟨L, p + zk, 0⟩, n9 % 256 ^ zk)) := Lib.hid <| by rw [hzk]; exact num_ok ⟨L, p, 0⟩ n9 zk (by omega) (by omega) rfl _ HSTEP.out
                    have HD5 : Hid (L.drop (p + zk) = encs (ys.drop (k + 1))) := Lib.hid <| by
                      have := drop_more HSTEP.out
                      rwa [lbs_length] at this
                    have hf : Blk (wr.alloc (.cells #[.int .u64 n9, .int .i64 z, .string (strB s), .bool false] 46)) wr.heap.size [.int .u64 n9, .int .i64 z, .string (strB s), .bool false] := Blk.new wr _ _
                    have HM5 : Hid (RdM (wr.alloc (.cells #[.int .u64 n9, .int .i64 z, .string (strB s), .bool false] 46)) b1 A1 c1 ⟨L, p, 0⟩) := Lib.hid (HRM.out.below ((Below.refl _ _).alloc (Nat.le_refl _) _) HRM.out.blk.lt)
                    have HB5 : Hid (Below w.heap.size w (wr.alloc (.cells #[.int .u64 n9, .int .i64 z, .string (strB s), .bool false] 46))) := Lib.hid (HB.out.alloc HB.out.size _)
                    obtain ⟨q, hq⟩ : ∃ q : Nat, q = n9 % 256 ^ zk := ⟨_, rfl⟩
                    rw [← hq] at HNK
                    have hcase : (zk ≤ 7 ∧ z < 8) ∨ (z = 8 ∧ zk = 8 ∧ q = n9) := by
                      have hn9 := HN9.out
                      rcases (by omega : zk ≤ 7 ∨ zk = 8) with h7 | rfl
                      · left; omega
                      · right
                        simp only [Nat.reducePow] at hq
                        omega
                    obtain ⟨s8, hs8⟩ : ∃ s8, s8 = 8 * zk := ⟨_, rfl⟩
                    obtain ⟨P, hP⟩ : ∃ P, P = 256 ^ zk := ⟨_, rfl⟩
                    have k1 : zk ≤ 7 → IntKind.i64.wrap (8 * z) = (s8 : Int) := fun _ => by rw [IntKind.wrap_i64]; omega
                    have k1' : zk ≤ 7 → 8 * z = (s8 : Int) := fun _ => by omega
                    have k2 : zk ≤ 7 → IntKind.u64.wrap (s8 : Int) = (s8 : Int) := fun _ => by rw [IntKind.wrap_u64]; omega
                    have k3 : zk ≤ 7 → IntKind.u64.wrap ((2 : Int) ^ s8) = (P : Int) := fun h => by rw [hs8, hP]; exact shl_eq zk h
                    have k6 : zk ≤ 7 → min s8 64 = s8 := fun h => by omega
                    have k6' : zk ≤ 7 → s8 ≤ 64 := fun h => by omega
                    have kP : P ≠ 0 := by rw [hP]; exact Nat.ne_of_gt (Nat.pow_pos (by decide))
                    have k4 : (n9 : Int).tmod (P : Int) = (q : Int) := by rw [hq, hP]; exact (Int.ofNat_tmod n9 _).symm
                    have k4' : (n9 : Int) % (P : Int) = (q : Int) := by rw [hq, hP]; simp
                    clear HSTEP HRM HB hf hq hzk hs8 hP hz8
                    rcases hcase with ⟨h7, hz8⟩ | ⟨rfl, rfl, rfl⟩
                    all_goals
                      first
                        | (have k1 := k1 h7; have k1' := k1' h7; have k2 := k2 h7; have k3 := k3 h7; have k6 := k6 h7; have k6' := k6' h7)
                        | (clear k1 k1' k2 k3 k6 k6' k4 k4' kP)
                      go_wp2_with fail
                      refine (num_calls _ b1 A1 c1 ⟨L, p, 0⟩ HM5.out (by have := hL90.out; show L.length ≤ _; omega) _).mono ?_
                      rintro e w6 ⟨hv, hm6, hg6⟩
                      rw [HNK.out] at hv hm6
                      have hv' : e = .returned (.int .u64 (q : Int)) := hv
                      subst hv'
                      have HM6 := Lib.hid hm6
                      have HB6 : Hid (Below w.heap.size w w6) := Lib.hid (HB5.out.grown hg6 HB5.out.size (fun k e => by injection e with e; rw [← e]; exact HBB.out))
                      clear hv hm6 hg6 HM5 HB5 HNK
                      go_wp2
                      go_roundw
                      case rel => exact ⟨k + 1, _, by omega, by go_num, HM6.out, HD5, HB6.out⟩
                      case measure => simp [intOf]; omega
                  · have henc : enc ⟨n9, z, s, false⟩ = [] := by simp [enc, putB, hz]
                    rw [henc, List.nil_append] at HSTEP
                    have HB5 : Hid (Below w.heap.size w (wr.alloc (.cells #[.int .u64 n9, .int .i64 z, .string (strB s), .bool false] 46))) := Lib.hid (HB.out.alloc HB.out.size _)
                    have HM5 : Hid (RdM (wr.alloc (.cells #[.int .u64 n9, .int .i64 z, .string (strB s), .bool false] 46)) b1 A1 c1 ⟨L, p, 0⟩) := Lib.hid (HRM.out.below ((Below.refl _ _).alloc (Nat.le_refl _) _) HRM.out.blk.lt)
                    rcases (by omega : z < 1 ∨ (1 ≤ z ∧ 8 < z)) with hz1 | ⟨hz1, hz2⟩
                    all_goals
                      go_wp2_with fail
                      go_roundw
                      case rel => exact ⟨k + 1, p, by omega, by go_num, HM5.out, HSTEP, HB5.out⟩
                      case measure => simp [intOf]; omega
              · have hki : k = i := by omega
                subst hki
                have hLp : L.length - p = 0 := by
                  have := congrArg List.length HP.out
                  rw [List.drop_of_length_le (l := ys) (by rw [HYL.out]; exact Nat.le_refl _), List.length_drop] at this
                  exact this
                have hp : p ≤ L.length := hrm.pos
                obtain rfl : p = L.length := by omega
                have HRM := Lib.hid hrm
                have HB := Lib.hid hbel
                have hcs3 : ¬ k < xs.length ∨ (k < xs.length ∧ ¬ (k : Int) < 40) := by have := HN.out; omega
                clear hrm hbel HP hlt hp hLp
                rcases hcs3 with hcs3 | ⟨hcs3, hcs4⟩
                all_goals
                  go_wp2_with fail
                  refine (awake_calls _ (HD.out.below HB.out HD.out.lt)).mono ?_
                  rintro e w8 ⟨rfl, hb8⟩
                  have HM8 : Hid (RdM w8 b1 A1 c1 ⟨L, L.length, 0⟩) := Lib.hid (HRM.out.below hb8 HRM.out.blk.lt)
                  have HB8 : Hid (Below w.heap.size w w8) := Lib.hid (HB.out.trans (hb8.mono HB.out.size))
                  clear hb8 HRM HB hcs3
                  go_wp2_with fail
                  refine (end_calls w8 b1 A1 c1 ⟨L, L.length, 0⟩ HM8.out (by have := hL90.out; show L.length ≤ _; omega)).mono ?_
                  rintro e w9 ⟨⟨v, rfl, hv⟩, hb9⟩
                  have hfin : Rdr.fin ⟨L, L.length, 0⟩ = none := by simp [Rdr.fin, Rdr.left]
                  rw [hfin] at hv
                  have hv' : v = .nilIface := hv
                  subst hv'
                  have HM9 : Hid (RdM w9 b1 A1 c1 ⟨L, L.length, 0⟩) := Lib.hid (HM8.out.below hb9 HM8.out.blk.lt)
                  have HB9 : Hid (Below w.heap.size w w9) := Lib.hid (HB8.out.trans (hb9.mono HB8.out.size))
                  clear hb9 hv hfin HM8 HB8
                  go_wp2_with fail
                  refine (left_calls w9 b1 A1 c1 ⟨L, L.length, 0⟩ HM9.out (by have := hL90.out; show L.length ≤ _; omega)).mono ?_
                  rintro e w10 ⟨rfl, rfl⟩
                  rw [show Rdr.left ⟨L, L.length, 0⟩ = 0 by simp [Rdr.left]]
                  go_wp2_with fail
                  refine (at_calls w9.drew b1 A1 c1 ⟨L, L.length, 0⟩ (RdM.drew HM9.out)).mono ?_
                  rintro e w10 ⟨rfl, rfl⟩
                  rw [HMM.out]
                  go_wp2
                  go_ret
                  exact ⟨rfl, HB9.out.drew⟩
end Go.Proofs.YtpbalgnfeabhgaaDoor
