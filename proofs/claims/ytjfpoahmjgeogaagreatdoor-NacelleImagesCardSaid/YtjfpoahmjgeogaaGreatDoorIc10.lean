/- Bundle 10 of the texts LdC, LdD, LdE, LdF. -/
import Derived.Test.YtjfpoahmjgeogaaGreatDoorIc9
/- loader: bank. -/
namespace Nac.Img
theorem datas_take_succ (l : List (List UInt8)) (g i : Nat) (p : List UInt8) (h : l[i]? = some p) : (datasF g 0 l).take (i + 1) = (datasF g 0 l).take i ++ [dataSec g i p] := by
  have h1 := datas_get l g 0 i p h
  rw [Nat.zero_add] at h1
  obtain ⟨h2, h3⟩ := List.getElem?_eq_some_iff.1 h1
  rw [List.take_succ_eq_append_getElem h2, h3]
theorem cuts_54 : ∀ (f : Nat) (b : List UInt8) (p : List UInt8), p ∈ cutsF f b → p.length ≤ 54
  | 0, _, _, h => by cases h
  | f + 1, b, p, h => by
    have h : p ∈ (if b = [] then ([] : List (List UInt8)) else b.take 54 :: cutsF f (b.drop 54)) := h
    split at h
    · cases h
    · rcases List.mem_cons.1 h with rfl | h
      · rw [List.length_take]; exact Nat.min_le_left _ _
      · exact cuts_54 f _ p h
end Nac.Img
namespace Go.Proofs.YtjfpoahmjgeogaaGreatDoor
open Go.RowKit Nac Nac.Img Nac.Sha Nac.Crc
theorem ob_row_ne {w : World} {B : Nat} {A : Option Addr} {c : Nat} {l : List UInt8} (h : OB w B A c l) {Ar : Option Addr} {cr n : Nat} {xs : List Value} (hr : Row w 36 1 Ar cr n xs) : A = none ∨ A.map (·.block) ≠ Ar.map (·.block) := by
  rcases h.2 with ⟨hv, _⟩ | ⟨g, cap, cur, hv, _, hg, _⟩
  · injection hv with h1 h2 h3
    exact .inl h1
  · injection hv with h1 h2 h3
    subst h1
    refine .inr fun e => ?_
    rcases hr.2 with ⟨hv2, _⟩ | ⟨g2, cap2, cur2, hv2, _, hg2, _⟩
    · injection hv2 with h1 h2 h3
      subst h1
      cases e
    · injection hv2 with h1 h2 h3
      subst h1
      have e : g = g2 := by simpa using e
      subst e
      rw [hg] at hg2
      injection hg2 with hg2
      injection hg2 with _ h4
      exact absurd h4 (by decide)
def LPo (w : World) (B : Nat) (vs : List Value) (L : List (List UInt8)) : Prop := vs.length = L.length ∧ ∀ (i : Nat) (l : List UInt8), L[i]? = some l → ∃ A c, vs[i]? = some (Value.slice A l.length c) ∧ OB w B A c l
theorem LPo.below {w w' : World} {B : Nat} {vs : List Value} {L : List (List UInt8)} (h : LPo w B vs L) (hb : Below w.heap.size w w') : LPo w' B vs L := ⟨h.1, fun i l hl => by
  obtain ⟨A, c, h1, h2⟩ := h.2 i l hl
  exact ⟨A, c, h1, h2.below hb (Nat.le_refl _)⟩⟩
theorem LPo.kept {w w' : World} {B : Nat} {vs : List Value} {L : List (List UInt8)} (h : LPo w B vs L) {Ar : Option Addr} {cr n : Nat} {xs : List Value} (hr : Row w 36 1 Ar cr n xs) (hg : w.grownBy w' (Ar.map (·.block))) : LPo w' B vs L := ⟨h.1, fun i l hl => by
  obtain ⟨A, c, h1, h2⟩ := h.2 i l hl
  exact ⟨A, c, h1, h2.kept hg (ob_row_ne h2 hr)⟩⟩
theorem LPo.snoc {w : World} {B : Nat} {vs : List Value} {L : List (List UInt8)} (h : LPo w B vs L) {A : Option Addr} {c : Nat} {l : List UInt8} (hA : OB w B A c l) : LPo w B (vs ++ [Value.slice A l.length c]) (L ++ [l]) := by
  refine ⟨by simp [h.1], fun i l' hl => ?_⟩
  by_cases hi : i < L.length
  · rw [List.getElem?_append_left hi] at hl
    obtain ⟨A', c', h1, h2⟩ := h.2 i l' hl
    exact ⟨A', c', by rw [List.getElem?_append_left (by rw [h.1]; exact hi)]; exact h1, h2⟩
  · have hlt := (List.getElem?_eq_some_iff.1 hl).1
    have : i = L.length := by simp at hlt; omega
    subst this
    rw [List.getElem?_append_right (Nat.le_refl _), Nat.sub_self] at hl
    have hl : l = l' := by simpa using hl
    subst hl
    exact ⟨A, c, by rw [← h.1, List.getElem?_append_right (Nat.le_refl _), Nat.sub_self]; rfl, hA⟩
theorem LPo.nil (w : World) (B : Nat) : LPo w B [] [] := ⟨rfl, fun i l h => by simp at h⟩
structure BkI (w0 w : World) (Ap : Option Addr) (cp : Nat) (vp : List Value) (P : List (List UInt8)) (Ar : Option Addr) (cr : Nat) (L : List (List UInt8)) : Prop where
  row : ∃ vs, Row w 36 1 Ar cr L.length vs ∧ LPo w w0.heap.size vs L
  new : ∀ g, Ar.map (·.block) = some g → w0.heap.size ≤ g
  prow : Row w 36 1 Ap cp P.length vp
  pcs : LPs w0 vp P
  ne : ∀ g, Ar.map (·.block) = some g → Ap.map (·.block) ≠ some g
  bel : Below w0.heap.size w0 w
theorem BkI.below {w0 w w' : World} {Ap Ar : Option Addr} {cp cr : Nat} {vp : List Value} {P L : List (List UInt8)} (h : BkI w0 w Ap cp vp P Ar cr L) (hb : Below w.heap.size w w') : BkI w0 w' Ap cp vp P Ar cr L := by
  obtain ⟨vs, h1, h2⟩ := h.row
  exact ⟨⟨vs, h1.below hb, h2.below hb⟩, h.new, h.prow.below hb, h.pcs, h.ne, h.bel.trans (hb.mono h.bel.size)⟩
def RetBk (w : World) (L : List (List UInt8)) (e : Ending) (w' : World) : Prop := ∃ A c vs, e = .returned (.slice A L.length c) ∧ Row w' 36 1 A c L.length vs ∧ LPo w' w.heap.size vs L ∧ (∀ g, A.map (·.block) = some g → w.heap.size ≤ g) ∧ Below w.heap.size w w'
set_option maxRecDepth 100000 in
set_option maxHeartbeats 8000000 in
theorem bank_calls (w : World) (hG : Gl w) (g : Nat) (m : Man) (hg : g < 4294967296) (h32 : m.sum.length = 32) (hok : m.okB = true) (hv : m.ver < 4294967296) (A : Option Addr) (n c : Nat) (b : List UInt8) (hn : n = b.length) (hA : RB w w.heap.size A b) (hc : n ≤ c) (hl : n ≤ 600) :
    Calls Tryz.prog 64 #[.int .u32 (g : Int), .agg (mcells m).toArray, .slice A n c] w (RetBk w (bankF g m b)) := by
  have HG := Lib.hid hG
  have HA := Lib.hid hA
  have HN := Lib.hid (And.intro hn (And.intro hc hl))
  have HGG := Lib.hid hg
  obtain ⟨ms, hms⟩ : ∃ ms, ms = mcells m := ⟨_, rfl⟩
  have HM35 : Hid (ms.length = 35) := Lib.hid (by rw [hms, mcells_len m h32])
  obtain ⟨F, hF⟩ : ∃ F, F = firstSec g m := ⟨_, rfl⟩
  obtain ⟨P, hP⟩ : ∃ P, P = piecesF b := ⟨_, rfl⟩
  obtain ⟨DS, hDS⟩ : ∃ DS, DS = datasF g 0 P := ⟨_, rfl⟩
  have HDS := Lib.hid hDS
  have HKP2 : Hid (P.length ≤ 12) := Lib.hid (by
    have := cuts_len b.length b (Nat.le_refl _)
    rw [hP]; unfold piecesF; omega)
  have HPL : Hid (P.length ≤ 600 ∧ DS.length = P.length ∧ ∀ p ∈ P, p.length ≤ 54) := Lib.hid (by
    have := cuts_len b.length b (Nat.le_refl _)
    refine ⟨by rw [hP]; unfold piecesF; omega, by rw [hDS, datas_len], fun p hp => ?_⟩
    rw [hP] at hp
    exact cuts_54 _ _ p hp)
  have HFC : Hid (∀ w1, Below w.heap.size w w1 → Calls Tryz.prog 82 #[.int .u32 (g : Int), .agg ms.toArray] w1 (RetPut w1 F)) := Lib.hid fun w1 hb => by rw [hF, hms]; exact firstSec_calls w1 (hG.below' hb) g m hg h32 hok hv
  have HPC : Hid (∀ w1, Below w.heap.size w w1 → Calls Tryz.prog 87 #[.slice A n c] w1 (RetPc w w1 P)) := Lib.hid fun w1 hb => by rw [hP]; exact pieces_calls w w1 A n c b hn hA hc (by omega)
  obtain ⟨BF, hBF⟩ : ∃ BF, BF = bankF g m b := ⟨_, rfl⟩
  have HBF : Hid (BF = F :: DS) := Lib.hid (by rw [hBF, hF, hDS, hP]; rfl)
  rw [← hms, ← hBF]
  clear hms hF hP hDS hBF hG hA hn hc hl hg h32 hok hv
  go_enter Tryz.func64, Tryz.ntmps64
  go_wp2_with (((with_reducible show wpList _ _ _ (Oper.mk _ (Op.box 47 _) _ _ _ _ :: _) _ _); refine wpList_boxS rfl _ rfl ms (by rfl) ?_))
  intro w1 hb1 hg1 hs1
  have HB1 := Lib.hid hb1
  have HE1 : Hid (Below w.heap.size w w1) := Lib.hid (gbelow hg1)
  clear hb1 hg1 hs1
  go_wp2_with (((with_reducible show wpList _ _ _ (Oper.mk _ (Op.load 47 _) _ _ _ _ :: _) _ _); refine wpList_loadS sMan rfl _ rfl w.heap.size ms rfl HB1.out HM35.out ?_))
  go_at_call 82
  with_reducible refine (HFC.out w1 HE1.out).mono ?_
  rintro e w2 ⟨A2, c2, rfl, ho2, hb2⟩
  have HO2 : Hid (OB w2 w.heap.size A2 c2 F) := Lib.hid (ho2.mono HE1.out.size)
  have HE2 : Hid (Below w.heap.size w w2) := Lib.hid (HE1.out.trans (hb2.mono HE1.out.size))
  clear ho2 hb2 HB1 HE1 HFC
  go_wp2_with (((with_reducible show wpList _ _ _ (Oper.mk _ (Op.buildSlice 140 _ _) _ _ _ _ :: _) _ _); refine wpList_bs1b rfl _ rfl A2 F.length c2 (by rfl) ?_))
  intro w3 hr3 hg3 hs3
  obtain ⟨A3, hA3⟩ : ∃ A : Option Addr, A = some ⟨w2.heap.size, 0, none⟩ := ⟨_, rfl⟩
  rw [← hA3] at hr3 ⊢
  have HR3 := Lib.hid hr3
  have HLP3 : Hid (LPo w3 w.heap.size [Value.slice A2 F.length c2] [F]) := Lib.hid ((LPo.nil w3 _).snoc (HO2.out.below (gbelow hg3) (Nat.le_refl _)))
  have HE3 : Hid (Below w.heap.size w w3) := Lib.hid (HE2.out.trans ((gbelow hg3).mono HE2.out.size))
  have HA3 : Hid (∀ g, A3.map (·.block) = some g → w.heap.size ≤ g ∧ g < w3.heap.size) := Lib.hid fun g hg => by
    rw [hA3] at hg
    have : w2.heap.size = g := by simpa using hg
    have := HE2.out.size
    omega
  clear hr3 hg3 hs3 hA3 HO2 HE2
  go_wp2_with fail
  go_at_call 87
  with_reducible refine (HPC.out w3 HE3.out).mono ?_
  rintro e w4 ⟨Ap, cp, vp, rfl, hrp, hlp, hnp, hb4⟩
  have HBK4 : Hid (BkI w w4 Ap cp vp P A3 1 [F]) := Lib.hid ⟨⟨[Value.slice A2 F.length c2], HR3.out.below hb4, HLP3.out.below hb4⟩, fun g hg => (HA3.out g hg).1, hrp, hlp, fun g hg e => by have := (HA3.out g hg).2; have := hnp g e; omega, HE3.out.trans (hb4.mono HE3.out.size)⟩
  clear hrp hlp hnp hb4 HR3 HLP3 HE3 HPC
  obtain ⟨np, hnp⟩ : ∃ np, np = P.length := ⟨_, rfl⟩
  have HNP := Lib.hid hnp
  rw [← hnp]
  have hnpb : np ≤ 600 := by rw [hnp]; exact HPL.out.1
  clear hnp
  go_wp2_with fail
  go_loopw [7, 17] (fun s7 s17 wr => ∃ (k : Nat) (Ar : Option Addr) (cr : Nat), k ≤ np ∧ s17 = .int .i64 (k : Int) ∧ s7 = .slice Ar (k + 1) cr ∧ Hid (BkI w wr Ap cp vp P Ar cr (F :: DS.take k))) (fun _ s17 _ => np - (intOf s17).toNat)
  case atStart => exact ⟨0, A3, 1, Nat.zero_le _, rfl, rfl, HBK4⟩
  case round =>
    obtain ⟨k, Ar, cr, hk, rfl, rfl, hbk⟩ := hrel
    have HKP := Lib.hid hk
    clear HBK4
    by_cases hlt : k < np
    · have HLT := Lib.hid hlt
      have hkP : k < P.length := by rw [← HNP.out]; exact hlt
      obtain ⟨p, hp⟩ : ∃ p, P[k]? = some p := ⟨_, List.getElem?_eq_getElem hkP⟩
      obtain ⟨Ai, ci, hvi, hci, hri⟩ := hbk.out.pcs.2 k p hp
      have hvl : k < vp.length := by rw [hbk.out.pcs.1]; exact hkP
      obtain ⟨gp, rfl, hgp, hcell, _⟩ := hbk.out.prow.at hvl
      have hvk : vp[k] = Value.slice Ai p.length ci := by
        rw [List.getElem?_eq_getElem hvl] at hvi
        injection hvi
      rw [hvk] at hcell
      have HP54 : Hid (p.length ≤ 54) := Lib.hid (HPL.out.2.2 p (List.mem_of_getElem? hp))
      obtain ⟨pl, hpl⟩ : ∃ pl, pl = p.length := ⟨_, rfl⟩
      have HPLEN := Lib.hid hpl
      rw [← hpl] at hcell
      obtain ⟨E, hE⟩ : ∃ E, E = dataSec g k p := ⟨_, rfl⟩
      have HE : Hid (DS.take (k + 1) = DS.take k ++ [E]) := Lib.hid (by rw [HDS.out, hE]; exact datas_take_succ P g k p hp)
      have HDC : Hid (Calls Tryz.prog 83 #[.int .u32 (g : Int), .int .i64 (k : Int), .slice Ai pl ci] wr (RetPut wr E)) := Lib.hid (by
        rw [hE]
        exact dataSec_calls wr (HG.out.below' hbk.out.bel) g k HGG.out (by
          have h2 := HKP2.out
          omega) Ai pl ci p hpl ((hri.below hbk.out.bel).mono hbk.out.bel.size) (by rw [hpl]; exact HP54.out))
      clear hp hvi hci hri hvl hvk hpl hE hkP
      go_wp2_with fail
      go_at_call 83
      with_reducible refine HDC.out.mono ?_
      rintro e w6 ⟨A6, c6, rfl, ho6, hb6⟩
      have HBK6 : Hid (BkI w w6 (some ⟨gp, 0, none⟩) cp vp P Ar cr (F :: DS.take k)) := Lib.hid (hbk.out.below hb6)
      have HO6 : Hid (OB w6 w.heap.size A6 c6 E) := Lib.hid (ho6.mono hbk.out.bel.size)
      clear ho6 hb6 HDC hcell hgp hbk
      go_wp2_with (((with_reducible show wpList _ _ _ (Oper.mk _ (Op.buildSlice 140 _ _) _ _ _ _ :: _) _ _); refine wpList_bs1b rfl _ rfl A6 E.length c6 (by rfl) ?_))
      intro w7 hr7 hg7 hs7
      obtain ⟨A7, hA7⟩ : ∃ A : Option Addr, A = some ⟨w6.heap.size, 0, none⟩ := ⟨_, rfl⟩
      rw [← hA7] at hr7 ⊢
      have HR7 := Lib.hid hr7
      have HBK7 : Hid (BkI w w7 (some ⟨gp, 0, none⟩) cp vp P Ar cr (F :: DS.take k)) := Lib.hid (HBK6.out.below (gbelow hg7))
      have HO7 : Hid (OB w7 w.heap.size A6 c6 E) := Lib.hid (HO6.out.below (gbelow hg7) (Nat.le_refl _))
      have HLK : Hid ((F :: DS.take k).length = k + 1) := Lib.hid (by rw [List.length_cons, List.length_take, HPL.out.2.1, ← HNP.out]; have := HLT.out; omega)
      obtain ⟨vs, hvs, hlo⟩ := HBK7.out.row
      rw [HLK.out] at hvs
      have HVS := Lib.hid hvs
      have HLO := Lib.hid hlo
      clear hr7 hg7 hs7 hA7 HBK6 HO6 hvs hlo
      go_wp2_with (((with_reducible show wpList _ _ _ (Oper.mk _ (Op.call (Call.mk (Callee.builtin Builtin.append) _ _)) _ _ _ _ :: _) _ _); refine wpList_app1b rfl _ _ rfl Ar cr (k + 1) vs rfl HVS.out A6 E.length c6 A7 (by rfl) HR7.out (by have := HKP.out; have := HPL.out.1; have := HNP.out; omega) ?_))
      intro A8 c8 w8 hr8 hg8 hx8
      have HBK8 : Hid (BkI w w8 (some ⟨gp, 0, none⟩) cp vp P A8 c8 (F :: DS.take (k + 1))) := Lib.hid (by
        have h := HBK7.out
        have hpl := h.prow.lt gp rfl
        have hne8 : ∀ g', A8.map (·.block) = some g' → w.heap.size ≤ g' ∧ (some ⟨gp, 0, none⟩ : Option Addr).map (·.block) ≠ some g' := fun g' hg' => by
          rcases hx8 with e | e
          · exact ⟨h.new g' (e.symm.trans hg'), h.ne g' (e.symm.trans hg')⟩
          · have hz := h.bel.size
            have hg'' : g' = w7.heap.size := by
              first | (rw [e] at hg'; injection hg' with hg'; exact hg'.symm) | (obtain ⟨a, rfl, e⟩ := e; have : a.block = g' := (by simpa using hg'); omega)
            exact ⟨by omega, fun e2 => by have : gp = g' := (by simpa using e2); omega⟩
        refine ⟨⟨vs ++ [Value.slice A6 E.length c6], ?_, ?_⟩, fun g' hg' => (hne8 g' hg').1, ?_, h.pcs, fun g' hg' => (hne8 g' hg').2, h.bel.grown hg8 h.bel.size (fun j e => h.new j e)⟩
        · rw [HE.out, ← List.cons_append, List.length_append, HLK.out]
          exact hr8
        · rw [HE.out, ← List.cons_append]
          exact (HLO.out.kept HVS.out hg8).snoc (HO7.out.kept hg8 (ob_row_ne HO7.out HVS.out))
        · refine h.prow.kept hg8 (.inr fun e => ?_)
          exact h.ne gp e.symm rfl)
      clear hr8 hg8 hx8 HBK7 HO7 HR7 HVS HLO
      go_wp2_with fail
      go_roundw
      case rel => exact ⟨k + 1, A8, c8, HLT.out, by go_num, rfl, HBK8⟩
      case measure => simp [intOf]; omega
    · obtain rfl : k = np := by omega
      have HRES : Hid (RetBk w BF (.returned (.slice Ar (k + 1) cr)) wr) := Lib.hid (by
        have h := hbk.out
        have e : DS.take k = DS := List.take_of_length_le (by rw [HPL.out.2.1, HNP.out]; exact Nat.le_refl _)
        rw [e] at h
        rw [HBF.out]
        obtain ⟨vs, h1, h2⟩ := h.row
        have hl : (F :: DS).length = k + 1 := by rw [List.length_cons, HPL.out.2.1, HNP.out]
        exact ⟨Ar, cr, vs, by rw [hl], h1, h2, h.new, h.bel⟩)
      clear hbk
      go_wp2_with fail
      go_ret
      exact HRES.out
end Go.Proofs.YtjfpoahmjgeogaaGreatDoor
/- loader: head, piece, manifest: what is read of a sector. (printed by tools/pld.py) -/
namespace Go.Proofs.YtjfpoahmjgeogaaGreatDoor
open Go.RowKit Nac Nac.Img Nac.Sha Nac.Crc
structure RdB (w0 w : World) (rb : Nat) (Ar : Option Addr) (cr : Nat) (r : Rdr) : Prop where
  rd : RdM w rb Ar cr r
  bel : Below w0.heap.size w0 w
  lt : w0.heap.size ≤ rb
theorem RdB.num {w0 w w' : World} {rb cr : Nat} {Ar : Option Addr} {r r' : Rdr} (h : RdB w0 w rb Ar cr r) (hm : RdM w' rb Ar cr r') (hg : w.grownBy w' (some rb)) : RdB w0 w' rb Ar cr r' :=
  ⟨hm, h.bel.grown hg h.bel.size (fun j e => by injection e with e; have := h.lt; omega), h.lt⟩
theorem open_calls64 (w : World) (hG : Gl w) (A : Option Addr) (c : Nat) (l : List UInt8) (h64 : l.length = 64) (hA : RB w w.heap.size A l) (hc : 64 ≤ c) : ∀ w', Below w.heap.size w w' → Calls Tryz.prog 76 #[.slice A 64 c] w' (RetOpen w' l) := fun w' hb =>
  open_calls w' w'.heap.size A 64 c l h64.symm (hG.below' hb).nib ((hA.below hb).mono hb.size) (by omega) (by omega)
theorem num_at_calls {C : List UInt8} {rb cr : Nat} {Ar : Option Addr} (h60 : C.length = 60) (w : World) (p k X : Nat) (hr : RdM w rb Ar cr ⟨C, p, 0⟩) (h1 : 1 ≤ k) (h8 : k ≤ 8) (hp : p + k ≤ 60) (hX : X = le (cut C p k)) : Calls Tryz.prog 78 #[.pointer (some ⟨rb, 0, none⟩), .int .i64 ((k : Nat) : Int)] w (RetNum w rb Ar cr (⟨C, p + k, 0⟩, X)) := by
  have := num_calls w rb Ar cr ⟨C, p, 0⟩ hr (by show C.length ≤ _; omega) k
  rw [Rdr.num_at h1 h8 (by omega)] at this
  rw [hX]
  exact this
theorem headF_none {a : Nat} {l : List UInt8} (h : Nac.Img.openB l = none) : headF a l = none := by unfold headF; rw [h]
theorem headF_some {a : Nat} {l c : List UInt8} (h : Nac.Img.openB l = some c) : headF a l = if le (cut c 1 4) < 1 ∨ le (cut c 1 4) % 2 ≠ a ∨ 2 ≤ le (cut c 5 1) then none else if headSec (le (cut c 1 4)) (le (cut c 5 1)) = l then some (le (cut c 1 4), le (cut c 5 1)) else none := by unfold headF; rw [h]
def RetHd (w : World) (o : Option (Nat × Nat)) (e : Ending) (w' : World) : Prop := ∃ g n : Nat, e = .returned (.tuple #[.int .u32 (g : Int), .int .i64 (n : Int), .bool o.isSome]) ∧ Below w.heap.size w w' ∧ ∀ x, o = some x → g = x.1 ∧ n = x.2
set_option maxRecDepth 100000 in
set_option maxHeartbeats 16000000 in
theorem head_calls (w : World) (hG : Gl w) (a : Nat) (ha : a < 2) (A : Option Addr) (c : Nat) (l : List UInt8) (h64 : l.length = 64) (hA : RB w w.heap.size A l) (hc : 64 ≤ c) :
    Calls Tryz.prog 52 #[.int .i64 (a : Int), .slice A 64 c] w (RetHd w (headF a l)) := by
  have HG := Lib.hid hG
  have HA := Lib.hid hA
  have H64 := Lib.hid h64
  have HOP := Lib.hid (open_calls64 w hG A c l h64 hA hc)
  have HNONE : Hid (Nac.Img.openB l = none → headF a l = none) := Lib.hid headF_none
  have HSOME : Hid (∀ C, Nac.Img.openB l = some C → headF a l = if le (cut C 1 4) < 1 ∨ le (cut C 1 4) % 2 ≠ a ∨ 2 ≤ le (cut C 5 1) then none else if headSec (le (cut C 1 4)) (le (cut C 5 1)) = l then some (le (cut C 1 4), le (cut C 5 1)) else none) := Lib.hid fun C h => headF_some h
  have HOUT : Hid (∀ (w3 : World), headF a l = none → Below w.heap.size w w3 → RetHd w (headF a l) (.returned (.tuple #[.int .u32 0, .int .i64 0, .bool false])) w3) := Lib.hid fun w3 h1 h2 => by rw [h1]; exact ⟨0, 0, rfl, h2, fun x h => by cases h⟩
  obtain ⟨w1, hw1⟩ : ∃ w1, w1 = w := ⟨_, rfl⟩
  have HE1 : Hid (Below w.heap.size w w1) := Lib.hid (by rw [hw1]; exact Below.refl _ _)
  have HAA := Lib.hid ha
  suffices hgo : Calls Tryz.prog 52 #[.int .i64 (a : Int), .slice A 64 c] w1 (RetHd w (headF a l)) by rw [hw1] at hgo; exact hgo
  clear hG hA h64 hc ha hw1
  go_enter Tryz.func52, Tryz.ntmps52
  go_wp2_with fail
  go_at_call 76
  with_reducible refine (HOP.out w1 HE1.out).mono ?_
  rintro e w2 ⟨A2, c2, rfl, ho2, hb2⟩
  have HE2 : Hid (Below w.heap.size w w2) := Lib.hid (HE1.out.trans (hb2.mono HE1.out.size))
  cases hgd : good l with
  | false =>
    have HDO := Lib.hid (HNONE.out (by rw [openB_64 H64.out, if_neg (by rw [hgd]; decide)]))
    have e8 : Go.Proofs.YtjfpoahmjgeogaaGreatDoor.openB l = ([], 8) := by rw [openG_64 H64.out, if_neg (by rw [hgd]; decide)]
    rw [e8]
    clear ho2 hb2 HOP HE1 hgd e8
    go_wp2_with fail
    go_ret3
    exact HOUT.out w2 HDO.out HE2.out
  | true =>
  obtain ⟨C, hC⟩ : ∃ C, C = l.take 60 := ⟨_, rfl⟩
  have e0 : Go.Proofs.YtjfpoahmjgeogaaGreatDoor.openB l = (C, 0) := by rw [openG_64 H64.out, if_pos hgd, hC]
  have HEF := Lib.hid (HSOME.out C (show Nac.Img.openB l = some C by rw [openB_64 H64.out, if_pos hgd, hC]))
  have HC60 : Hid (C.length = 60) := Lib.hid (by rw [hC, List.length_take, H64.out]; decide)
  rw [e0] at ho2 ⊢
  have HRD : Hid (Calls Tryz.prog 77 #[.slice A2 C.length c2] w2 (RetRd w2 C)) := Lib.hid (read_calls w2 w2.heap.size A2 c2 C ho2.rb (Nat.le_refl _) (by rw [HC60.out]; decide))
  clear ho2 hb2 HOP HE1 hgd hC e0
  go_wp2_with fail
  go_at_call 77
  with_reducible refine HRD.out.mono ?_
  rintro e w3 ⟨rb, Ar, cr, rfl, hrd, hlt, hb3⟩
  have HS3 : Hid (RdB w w3 rb Ar cr ⟨C, 0, 0⟩) := Lib.hid ⟨hrd, HE2.out.trans (hb3.mono HE2.out.size), Nat.le_trans HE2.out.size hlt⟩
  clear hrd hlt hb3 HRD HE2
  obtain ⟨y0, hy0⟩ : ∃ X, X = le (cut C 0 1) := ⟨_, rfl⟩
  have HEy0 := Lib.hid hy0
  have HNy0 : Hid (Calls Tryz.prog 78 #[.pointer (some ⟨rb, 0, none⟩), .int .i64 1] w3 (RetNum w3 rb Ar cr (⟨C, 1, 0⟩, y0))) := Lib.hid (num_at_calls HC60.out w3 0 1 y0 HS3.out.rd (by decide) (by decide) (by decide) hy0)
  clear hy0
  go_wp2_with fail
  go_at_call 78
  with_reducible refine HNy0.out.mono ?_
  rintro e w4 ⟨rfl, hm4, hg4⟩
  have HS4 : Hid (RdB w w4 rb Ar cr ⟨C, 1, 0⟩) := Lib.hid (HS3.out.num hm4 hg4)
  clear hm4 hg4 HNy0 HS3
  obtain ⟨gn, hgn⟩ : ∃ X, X = le (cut C 1 4) := ⟨_, rfl⟩
  have HEgn := Lib.hid hgn
  have HNgn : Hid (Calls Tryz.prog 78 #[.pointer (some ⟨rb, 0, none⟩), .int .i64 4] w4 (RetNum w4 rb Ar cr (⟨C, 5, 0⟩, gn))) := Lib.hid (num_at_calls HC60.out w4 1 4 gn HS4.out.rd (by decide) (by decide) (by decide) hgn)
  have gb : gn < 4294967296 := by rw [hgn]; exact cut_lt C 1 4
  have GB := Lib.hid gb
  have gw : IntKind.u32.wrap (gn : Int) = (gn : Int) := by rw [IntKind.wrap_u32]; omega
  have gm : (gn : Int) % 4294967296 = (gn : Int) := by omega
  clear gb
  clear hgn
  go_wp2_with fail
  go_at_call 78
  with_reducible refine HNgn.out.mono ?_
  rintro e w5 ⟨rfl, hm5, hg5⟩
  have HS5 : Hid (RdB w w5 rb Ar cr ⟨C, 5, 0⟩) := Lib.hid (HS4.out.num hm5 hg5)
  clear hm5 hg5 HNgn HS4
  obtain ⟨bk, hbk⟩ : ∃ X, X = le (cut C 5 1) := ⟨_, rfl⟩
  have HEbk := Lib.hid hbk
  have HNbk : Hid (Calls Tryz.prog 78 #[.pointer (some ⟨rb, 0, none⟩), .int .i64 1] w5 (RetNum w5 rb Ar cr (⟨C, 6, 0⟩, bk))) := Lib.hid (num_at_calls HC60.out w5 5 1 bk HS5.out.rd (by decide) (by decide) (by decide) hbk)
  have bb : bk < 256 := by rw [hbk]; exact cut_lt C 5 1
  have BB := Lib.hid bb
  have bw : IntKind.i64.wrap (bk : Int) = (bk : Int) := by rw [Go.IntWalk.i64_left]; unfold wrap64; omega
  have bw' : wrap64 (bk : Int) = (bk : Int) := by unfold wrap64; omega
  clear bb
  clear hbk
  go_wp2_with fail
  go_at_call 78
  with_reducible refine HNbk.out.mono ?_
  rintro e w6 ⟨rfl, hm6, hg6⟩
  have HS6 : Hid (RdB w w6 rb Ar cr ⟨C, 6, 0⟩) := Lib.hid (HS5.out.num hm6 hg6)
  clear hm6 hg6 HNbk HS5
  have HDM : Hid (headF a l = if gn < 1 ∨ gn % 2 ≠ a ∨ 2 ≤ bk then none else if headSec gn bk = l then some (gn, bk) else none) := Lib.hid (by rw [HEF.out, HEgn.out, HEbk.out])
  by_cases h0 : gn < 1
  · have HDO : Hid (headF a l = none) := Lib.hid (by rw [HDM.out, if_pos (.inl h0)])
    have q0 : (gn : Int) < 1 := by omega
    clear h0
    go_wp2_with fail
    go_ret3
    exact HOUT.out w6 HDO.out HS6.out.bel
  have q0 : ¬ (gn : Int) < 1 := by omega
  obtain ⟨y, hy⟩ : ∃ y, y = gn % 2 := ⟨_, rfl⟩
  have qy : (gn : Int) % 2 = (y : Int) := by omega
  have wy : wrap64 (y : Int) = (y : Int) := by unfold wrap64; omega
  have wy' : IntKind.i64.wrap (y : Int) = (y : Int) := by rw [Go.IntWalk.i64_left]; exact wy
  by_cases h1 : y = a
  · have qa : ((y : Int) != (a : Int)) = false := by rw [h1]; simp
    by_cases h2 : 2 ≤ bk
    · have HDO : Hid (headF a l = none) := Lib.hid (by rw [HDM.out, if_pos (.inr (.inr h2))])
      have q2 : (2 : Int) ≤ (bk : Int) := by omega
      clear h0 h1 h2 hy
      go_wp2_with fail
      go_ret3
      exact HOUT.out w6 HDO.out HS6.out.bel
    · have q2 : ¬ (2 : Int) ≤ (bk : Int) := by omega
      have HDM2 : Hid (headF a l = if headSec gn bk = l then some (gn, bk) else none) := Lib.hid (by rw [HDM.out, if_neg (by rw [← hy]; omega)])
      obtain ⟨S, hS⟩ : ∃ S, S = headSec gn bk := ⟨_, rfl⟩
      have HSC : Hid (Calls Tryz.prog 67 #[.int .u32 (gn : Int), .int .i64 (bk : Int)] w6 (RetPut w6 S)) := Lib.hid (by rw [hS]; exact headSec_calls w6 (HG.out.below' HS6.out.bel) gn bk GB.out (by omega))
      rw [← hS] at HDM2
      clear h0 h1 h2 hy hS
      go_wp2_with fail
      go_at_call 67
      with_reducible refine HSC.out.mono ?_
      rintro e w7 ⟨A7, c7, rfl, ho7, hb7⟩
      have HB7 : Hid (Below w.heap.size w w7) := Lib.hid (HS6.out.bel.trans (hb7.mono HS6.out.bel.size))
      obtain ⟨be, hbe⟩ : ∃ be, be = decide (S = l) := ⟨_, rfl⟩
      have HBE := Lib.hid hbe
      have HEQ : Hid (Calls Tryz.prog 79 #[.slice A7 S.length c7, .slice A 64 c] w7 (fun e w' => e = .returned (.bool be) ∧ w' = w7)) := Lib.hid (by rw [hbe]; exact equal_calls w7 A7 A S.length 64 c7 c S l rfl H64.out.symm ho7.rb ((HA.out.below HB7.out).mono HB7.out.size))
      have HRES : Hid (RetHd w (headF a l) (.returned (.tuple #[.int .u32 (gn : Int), .int .i64 (bk : Int), .bool be])) w7) := Lib.hid (by
        have h1 := HBE.out
        cases be with
        | true =>
          have : S = l := by simpa using h1.symm
          rw [HDM2.out, if_pos this]
          exact ⟨gn, bk, rfl, HB7.out, fun x h => by injection h with h; rw [← h]; exact ⟨rfl, rfl⟩⟩
        | false =>
        have : S ≠ l := by simpa using h1.symm
        rw [HDM2.out, if_neg this]
        exact ⟨gn, bk, rfl, HB7.out, fun x h => by cases h⟩)
      clear ho7 hb7 hbe HSC
      go_wp2_with fail
      go_at_call 79
      with_reducible refine HEQ.out.mono ?_
      rintro e w8 ⟨rfl, rfl⟩
      clear HEQ
      go_wp2_with fail
      go_ret3
      exact HRES.out
  · have HDO : Hid (headF a l = none) := Lib.hid (by rw [HDM.out, if_pos (.inr (.inl (by rw [← hy]; exact h1)))])
    have qa : ((y : Int) != (a : Int)) = true := by simp; omega
    clear h0 h1 hy
    go_wp2_with fail
    go_ret3
    exact HOUT.out w6 HDO.out HS6.out.bel
theorem pieceF_none {g k n : Nat} {l : List UInt8} (h : Nac.Img.openB l = none) : pieceF g k n l = none := by unfold pieceF; rw [h]
theorem pieceF_some {g k n : Nat} {l c : List UInt8} (h : Nac.Img.openB l = some c) : pieceF g k n l = if dataSec g k (cut c 6 n) = l then some (cut c 6 n) else none := by unfold pieceF; rw [h]
def RetPi (w : World) (o : Option (List UInt8)) (e : Ending) (w' : World) : Prop := ∃ (A : Option Addr) (c : Nat) (p : List UInt8), e = .returned (.tuple #[.slice A p.length c, .bool o.isSome]) ∧ p.length ≤ c ∧ RB w' w'.heap.size A p ∧ Below w.heap.size w w' ∧ ∀ x, o = some x → p = x
set_option maxRecDepth 100000 in
set_option maxHeartbeats 16000000 in
theorem piece_calls (w : World) (hG : Gl w) (g k n : Nat) (hg : g < 4294967296) (hk : k < 256) (hn : n ≤ 54) (A : Option Addr) (c : Nat) (l : List UInt8) (h64 : l.length = 64) (hA : RB w w.heap.size A l) (hc : 64 ≤ c) :
    Calls Tryz.prog 55 #[.int .u32 (g : Int), .int .i64 (k : Int), .int .i64 (n : Int), .slice A 64 c] w (RetPi w (pieceF g k n l)) := by
  have HG := Lib.hid hG
  have HA := Lib.hid hA
  have H64 := Lib.hid h64
  have HI := Lib.hid (And.intro hg (And.intro hk hn))
  have HOP := Lib.hid (open_calls64 w hG A c l h64 hA hc)
  have HNONE : Hid (Nac.Img.openB l = none → pieceF g k n l = none) := Lib.hid pieceF_none
  have HSOME : Hid (∀ C, Nac.Img.openB l = some C → pieceF g k n l = if dataSec g k (cut C 6 n) = l then some (cut C 6 n) else none) := Lib.hid fun C h => pieceF_some h
  obtain ⟨w1, hw1⟩ : ∃ w1, w1 = w := ⟨_, rfl⟩
  have HE1 : Hid (Below w.heap.size w w1) := Lib.hid (by rw [hw1]; exact Below.refl _ _)
  suffices hgo : Calls Tryz.prog 55 #[.int .u32 (g : Int), .int .i64 (k : Int), .int .i64 (n : Int), .slice A 64 c] w1 (RetPi w (pieceF g k n l)) by rw [hw1] at hgo; exact hgo
  clear hG hA h64 hc hw1 hg hk hn
  go_enter Tryz.func55, Tryz.ntmps55
  go_wp2_with fail
  go_at_call 76
  with_reducible refine (HOP.out w1 HE1.out).mono ?_
  rintro e w2 ⟨A2, c2, rfl, ho2, hb2⟩
  have HE2 : Hid (Below w.heap.size w w2) := Lib.hid (HE1.out.trans (hb2.mono HE1.out.size))
  cases hgd : good l with
  | false =>
    have HDO := Lib.hid (HNONE.out (by rw [openB_64 H64.out, if_neg (by rw [hgd]; decide)]))
    have e8 : Go.Proofs.YtjfpoahmjgeogaaGreatDoor.openB l = ([], 8) := by rw [openG_64 H64.out, if_neg (by rw [hgd]; decide)]
    rw [e8]
    clear ho2 hb2 HOP HE1 hgd e8
    go_wp2_with fail
    go_ret2
    exact ⟨none, 0, [], by rw [HDO.out]; rfl, Nat.le_refl _, RB.nil _ _ _, HE2.out, fun x h => by rw [HDO.out] at h; cases h⟩
  | true =>
  obtain ⟨C, hC⟩ : ∃ C, C = l.take 60 := ⟨_, rfl⟩
  have e0 : Go.Proofs.YtjfpoahmjgeogaaGreatDoor.openB l = (C, 0) := by rw [openG_64 H64.out, if_pos hgd, hC]
  have HEF := Lib.hid (HSOME.out C (show Nac.Img.openB l = some C by rw [openB_64 H64.out, if_pos hgd, hC]))
  have HC60 : Hid (C.length = 60) := Lib.hid (by rw [hC, List.length_take, H64.out]; decide)
  rw [e0] at ho2 ⊢
  have HRD : Hid (Calls Tryz.prog 77 #[.slice A2 C.length c2] w2 (RetRd w2 C)) := Lib.hid (read_calls w2 w2.heap.size A2 c2 C ho2.rb (Nat.le_refl _) (by rw [HC60.out]; decide))
  clear ho2 hb2 HOP HE1 hgd hC e0
  go_wp2_with fail
  go_at_call 77
  with_reducible refine HRD.out.mono ?_
  rintro e w3 ⟨rb, Ar, cr, rfl, hrd, hlt, hb3⟩
  have HS3 : Hid (RdB w w3 rb Ar cr ⟨C, 0, 0⟩) := Lib.hid ⟨hrd, HE2.out.trans (hb3.mono HE2.out.size), Nat.le_trans HE2.out.size hlt⟩
  clear hrd hlt hb3 HRD HE2
  obtain ⟨y0, hy0⟩ : ∃ X, X = le (cut C 0 1) := ⟨_, rfl⟩
  have HEy0 := Lib.hid hy0
  have HNy0 : Hid (Calls Tryz.prog 78 #[.pointer (some ⟨rb, 0, none⟩), .int .i64 1] w3 (RetNum w3 rb Ar cr (⟨C, 1, 0⟩, y0))) := Lib.hid (num_at_calls HC60.out w3 0 1 y0 HS3.out.rd (by decide) (by decide) (by decide) hy0)
  clear hy0
  go_wp2_with fail
  go_at_call 78
  with_reducible refine HNy0.out.mono ?_
  rintro e w4 ⟨rfl, hm4, hg4⟩
  have HS4 : Hid (RdB w w4 rb Ar cr ⟨C, 1, 0⟩) := Lib.hid (HS3.out.num hm4 hg4)
  clear hm4 hg4 HNy0 HS3
  obtain ⟨y1, hy1⟩ : ∃ X, X = le (cut C 1 4) := ⟨_, rfl⟩
  have HEy1 := Lib.hid hy1
  have HNy1 : Hid (Calls Tryz.prog 78 #[.pointer (some ⟨rb, 0, none⟩), .int .i64 4] w4 (RetNum w4 rb Ar cr (⟨C, 5, 0⟩, y1))) := Lib.hid (num_at_calls HC60.out w4 1 4 y1 HS4.out.rd (by decide) (by decide) (by decide) hy1)
  clear hy1
  go_wp2_with fail
  go_at_call 78
  with_reducible refine HNy1.out.mono ?_
  rintro e w5 ⟨rfl, hm5, hg5⟩
  have HS5 : Hid (RdB w w5 rb Ar cr ⟨C, 5, 0⟩) := Lib.hid (HS4.out.num hm5 hg5)
  clear hm5 hg5 HNy1 HS4
  obtain ⟨y2, hy2⟩ : ∃ X, X = le (cut C 5 1) := ⟨_, rfl⟩
  have HEy2 := Lib.hid hy2
  have HNy2 : Hid (Calls Tryz.prog 78 #[.pointer (some ⟨rb, 0, none⟩), .int .i64 1] w5 (RetNum w5 rb Ar cr (⟨C, 6, 0⟩, y2))) := Lib.hid (num_at_calls HC60.out w5 5 1 y2 HS5.out.rd (by decide) (by decide) (by decide) hy2)
  clear hy2
  go_wp2_with fail
  go_at_call 78
  with_reducible refine HNy2.out.mono ?_
  rintro e w6 ⟨rfl, hm6, hg6⟩
  have HS6 : Hid (RdB w w6 rb Ar cr ⟨C, 6, 0⟩) := Lib.hid (HS5.out.num hm6 hg6)
  clear hm6 hg6 HNy2 HS5
  obtain ⟨P, hP⟩ : ∃ P, P = cut C 6 n := ⟨_, rfl⟩
  have HP := Lib.hid hP
  have HPN : Hid (P.length = n) := Lib.hid (by rw [hP]; unfold cut; rw [List.length_take, List.length_drop, HC60.out]; have := HI.out.2.2; omega)
  have HBY : Hid (Calls Tryz.prog 81 #[.pointer (some ⟨rb, 0, none⟩), .int .i64 (n : Int)] w6 (RetBytes w6 rb Ar cr ⟨C, 6, 0⟩ n)) := Lib.hid (bytes_calls w6 rb Ar cr ⟨C, 6, 0⟩ HS6.out.rd (by show C.length ≤ _; rw [HC60.out]; decide) n rfl (by show n ≤ C.length - 6; rw [HC60.out]; have := HI.out.2.2; omega))
  clear hP
  go_wp2_with fail
  go_at_call 81
  with_reducible refine HBY.out.mono ?_
  rintro e w7 ⟨A7, c7, rfl, ho7, hm7, hg7⟩
  have HS7 : Hid (RdB w w7 rb Ar cr ⟨C, 6 + n, 0⟩) := Lib.hid (HS6.out.num hm7 hg7)
  have ho7' : OB w7 w6.heap.size A7 c7 P := by rw [HP.out]; exact ho7
  have HO7 := Lib.hid ho7'
  obtain ⟨S, hS⟩ : ∃ S, S = dataSec g k P := ⟨_, rfl⟩
  have HDM : Hid (pieceF g k n l = if S = l then some P else none) := Lib.hid (by rw [HEF.out, hS, HP.out])
  have HSC : Hid (Calls Tryz.prog 83 #[.int .u32 (g : Int), .int .i64 (k : Int), .slice A7 n c7] w7 (RetPut w7 S)) := Lib.hid (by rw [hS]; exact dataSec_calls w7 (HG.out.below' HS7.out.bel) g k HI.out.1 HI.out.2.1 A7 n c7 P HPN.out.symm ho7'.rb HI.out.2.2)
  clear ho7 ho7' hm7 hg7 hS HBY HS6
  go_wp2_with fail
  go_at_call 83
  with_reducible refine HSC.out.mono ?_
  rintro e w8 ⟨A8, c8, rfl, ho8, hb8⟩
  have HB8 : Hid (Below w.heap.size w w8) := Lib.hid (HS7.out.bel.trans (hb8.mono HS7.out.bel.size))
  have HO8 : Hid (RB w8 w8.heap.size A7 P ∧ n ≤ c7) := Lib.hid ⟨(HO7.out.rb.below hb8).mono hb8.size, by have := HO7.out.len; rw [HPN.out] at this; exact this⟩
  obtain ⟨be, hbe⟩ : ∃ be, be = decide (S = l) := ⟨_, rfl⟩
  have HBE := Lib.hid hbe
  have HEQ : Hid (Calls Tryz.prog 79 #[.slice A8 S.length c8, .slice A 64 c] w8 (fun e w' => e = .returned (.bool be) ∧ w' = w8)) := Lib.hid (by rw [hbe]; exact equal_calls w8 A8 A S.length 64 c8 c S l rfl H64.out.symm ho8.rb ((HA.out.below HB8.out).mono HB8.out.size))
  have HRES : Hid (RetPi w (pieceF g k n l) (.returned (.tuple #[.slice A7 n c7, .bool be])) w8) := Lib.hid (by
    have h1 := HBE.out
    rw [HDM.out]
    refine ⟨A7, c7, P, ?_, by rw [HPN.out]; exact HO8.out.2, HO8.out.1, HB8.out, ?_⟩
    · rw [HPN.out]
      cases be with
      | true => rw [if_pos (by simpa using h1.symm)]; rfl
      | false => rw [if_neg (by simpa using h1.symm)]; rfl
    · intro x hx
      by_cases h : S = l
      · rw [if_pos h] at hx; injection hx
      · rw [if_neg h] at hx; cases hx)
  clear ho8 hb8 hbe HSC HO7
  go_wp2_with fail
  go_at_call 79
  with_reducible refine HEQ.out.mono ?_
  rintro e w9 ⟨rfl, rfl⟩
  clear HEQ
  go_wp2_with fail
  go_ret2
  exact HRES.out
theorem manF_none {g : Nat} {l : List UInt8} (h : Nac.Img.openB l = none) : manF g l = none := by unfold manF; rw [h]
theorem manF_some0 {g : Nat} {l c : List UInt8} (h : Nac.Img.openB l = some c) (hd : decM (cut c 5 40) = none) : manF g l = none := by unfold manF; rw [h]; simp only [hd]
theorem manF_some1 {g : Nat} {l c : List UInt8} {m : Man} (h : Nac.Img.openB l = some c) (hd : decM (cut c 5 40) = some m) : manF g l = if firstSec g m = l then some m else none := by unfold manF; rw [h]; simp only [hd]
theorem decM_facts {l : List UInt8} {m : Man} (h : decM l = some m) (hl : l.length = 40) : m.okB = true ∧ m.ver < 4294967296 ∧ m.sum.length = 32 := by
  unfold decM at h
  simp only at h
  split at h
  · rename_i hh
    injection h with h
    subst h
    exact ⟨hh.2.2, cut_lt l 2 4, by show (cut l 8 32).length = 32; unfold cut; rw [List.length_take, List.length_drop, hl]; decide⟩
  · cases h
def RetMf (w : World) (o : Option Man) (e : Ending) (w' : World) : Prop := ∃ m : Man, m.sum.length = 32 ∧ e = .returned (.tuple #[.agg (mcells m).toArray, .bool o.isSome]) ∧ Below w.heap.size w w' ∧ ∀ x, o = some x → m = x
set_option maxRecDepth 100000 in
set_option maxHeartbeats 16000000 in
theorem manifest_calls (w : World) (hG : Gl w) (g : Nat) (hg : g < 4294967296) (A : Option Addr) (c : Nat) (l : List UInt8) (h64 : l.length = 64) (hA : RB w w.heap.size A l) (hc : 64 ≤ c) :
    Calls Tryz.prog 54 #[.int .u32 (g : Int), .slice A 64 c] w (RetMf w (manF g l)) := by
  have HG := Lib.hid hG
  have HA := Lib.hid hA
  have H64 := Lib.hid h64
  have HI := Lib.hid hg
  have HOP := Lib.hid (open_calls64 w hG A c l h64 hA hc)
  have HNONE : Hid (Nac.Img.openB l = none → manF g l = none) := Lib.hid manF_none
  have HSOME : Hid (∀ C, Nac.Img.openB l = some C → Nac.Img.openB l = some C) := Lib.hid fun C h => h
  obtain ⟨zs, hzs⟩ : ∃ zs, zs = mcells zMan := ⟨_, rfl⟩
  have HZS := Lib.hid hzs
  have ZM : Hid (((Tryz.prog.info? 47).bind (·.zero)) = some (.agg zs.toArray) ∧ zs.length = 35 ∧ ∀ v ∈ zs, v.oneCell' = true) := Lib.hid (by rw [hzs]; exact ⟨zeroMan, mcells_len _ rfl, mcells_one _⟩)
  have HBZ : Hid (∀ w, (Instr.build 47 #[]).run Tryz.prog w = .ok (.agg zs.toArray) w) := Lib.hid fun w => by rw [hzs]; exact build_man0 w
  have HOUT : Hid (∀ (w3 : World), manF g l = none → Below w.heap.size w w3 → RetMf w (manF g l) (.returned (.tuple #[.agg zs.toArray, .bool false])) w3) := Lib.hid fun w3 h1 h2 => by rw [h1, hzs]; exact ⟨zMan, rfl, rfl, h2, fun x h => by cases h⟩
  clear hG hA h64 hc hg hzs
  go_enter Tryz.func54, Tryz.ntmps54
  go_wp2_with (((with_reducible show wpList _ _ _ (Oper.mk (some 4) (Op.alloc 47) _ _ _ _ :: _) _ _); refine wpList_allocS _ ZM.out.1 rfl rfl ?_))
  intro w1 hb1 hg1 hs1
  obtain ⟨b2, hB2⟩ : ∃ b, b = w.heap.size := ⟨_, rfl⟩
  have HB2 := Lib.hid hB2
  rw [← hB2] at hb1 ⊢
  have HB1 := Lib.hid hb1
  have HE1 : Hid (Below w.heap.size w w1) := Lib.hid (gbelow hg1)
  clear hb1 hg1 hs1 hB2
  go_wp2_with fail
  go_at_call 76
  with_reducible refine (HOP.out w1 HE1.out).mono ?_
  rintro e w2 ⟨A2, c2, rfl, ho2, hb2⟩
  have HE2 : Hid (Below w.heap.size w w2) := Lib.hid (HE1.out.trans (hb2.mono HE1.out.size))
  have HK2 : Hid (Blk w2 b2 zs) := Lib.hid (HB1.out.below hb2 HB1.out.lt)
  cases hgd : good l with
  | false =>
    have HDO := Lib.hid (HNONE.out (by rw [openB_64 H64.out, if_neg (by rw [hgd]; decide)]))
    have e8 : Go.Proofs.YtjfpoahmjgeogaaGreatDoor.openB l = ([], 8) := by rw [openG_64 H64.out, if_neg (by rw [hgd]; decide)]
    rw [e8]
    clear ho2 hb2 HOP HE1 hgd e8 HB1
    go_wp2_with (first | ((with_reducible show wpList _ _ _ (Oper.mk _ (Op.build 47 _) _ _ _ _ :: _) _ _); refine wpList_buildS rfl _ _ rfl #[] zs.toArray (by simp only [List.map_toArray, List.map_nil]) (HBZ.out _) ?_) | ((with_reducible show wpList _ _ _ (Oper.mk _ (Op.store 47 _ _) _ _ _ _ :: _) _ _); refine wpList_storeS sMan rfl _ _ rfl b2 _ zs rfl rfl HK2.out ZM.out.2.1 ZM.out.2.1 ZM.out.2.2 ?_))
    intro w3 hb3 hg3
    have l1' := Lib.hid (run_loadS sMan b2 zs hb3 ZM.out.2.1)
    have HRES := Lib.hid (HOUT.out w3 HDO.out (HE2.out.grown hg3 HE2.out.size (fun j e => by injection e with e; have := HB2.out; omega)))
    clear hb3 hg3 HOUT
    go_wp2
    exact bodyPost_ret (v := .tuple #[.agg zs.toArray, .bool false]) (by simp [results, Tryz.results54, asAddr, l1'.out]) rfl HRES.out
  | true =>
  obtain ⟨C, hC⟩ : ∃ C, C = l.take 60 := ⟨_, rfl⟩
  have e0 : Go.Proofs.YtjfpoahmjgeogaaGreatDoor.openB l = (C, 0) := by rw [openG_64 H64.out, if_pos hgd, hC]
  have HEF := Lib.hid (HSOME.out C (show Nac.Img.openB l = some C by rw [openB_64 H64.out, if_pos hgd, hC]))
  have HC60 : Hid (C.length = 60) := Lib.hid (by rw [hC, List.length_take, H64.out]; decide)
  rw [e0] at ho2 ⊢
  have HRD : Hid (Calls Tryz.prog 77 #[.slice A2 C.length c2] w2 (RetRd w2 C)) := Lib.hid (read_calls w2 w2.heap.size A2 c2 C ho2.rb (Nat.le_refl _) (by rw [HC60.out]; decide))
  clear ho2 hb2 HOP HE1 hgd hC e0 HB1
  go_wp2_with fail
  go_at_call 77
  with_reducible refine HRD.out.mono ?_
  rintro e w3 ⟨rb, Ar, cr, rfl, hrd, hlt, hb3⟩
  have HS3 : Hid (RdB w w3 rb Ar cr ⟨C, 0, 0⟩) := Lib.hid ⟨hrd, HE2.out.trans (hb3.mono HE2.out.size), Nat.le_trans HE2.out.size hlt⟩
  have HK3 : Hid (Blk w3 b2 zs ∧ b2 < rb) := Lib.hid ⟨HK2.out.below hb3 HK2.out.lt, Nat.lt_of_lt_of_le HK2.out.lt hlt⟩
  clear hrd hlt hb3 HRD HE2 HK2
  obtain ⟨y0, hy0⟩ : ∃ X, X = le (cut C 0 1) := ⟨_, rfl⟩
  have HEy0 := Lib.hid hy0
  have HNy0 : Hid (Calls Tryz.prog 78 #[.pointer (some ⟨rb, 0, none⟩), .int .i64 1] w3 (RetNum w3 rb Ar cr (⟨C, 1, 0⟩, y0))) := Lib.hid (num_at_calls HC60.out w3 0 1 y0 HS3.out.rd (by decide) (by decide) (by decide) hy0)
  clear hy0
  go_wp2_with fail
  go_at_call 78
  with_reducible refine HNy0.out.mono ?_
  rintro e w4 ⟨rfl, hm4, hg4⟩
  have HS4 : Hid (RdB w w4 rb Ar cr ⟨C, 1, 0⟩) := Lib.hid (HS3.out.num hm4 hg4)
  have HK4 : Hid (Blk w4 b2 zs ∧ b2 < rb) := Lib.hid ⟨HK3.out.1.grown hg4 (fun e => by injection e with e; have := HK3.out.2; omega), HK3.out.2⟩
  clear hm4 hg4 HNy0 HS3 HK3
  obtain ⟨y1, hy1⟩ : ∃ X, X = le (cut C 1 4) := ⟨_, rfl⟩
  have HEy1 := Lib.hid hy1
  have HNy1 : Hid (Calls Tryz.prog 78 #[.pointer (some ⟨rb, 0, none⟩), .int .i64 4] w4 (RetNum w4 rb Ar cr (⟨C, 5, 0⟩, y1))) := Lib.hid (num_at_calls HC60.out w4 1 4 y1 HS4.out.rd (by decide) (by decide) (by decide) hy1)
  clear hy1
  go_wp2_with fail
  go_at_call 78
  with_reducible refine HNy1.out.mono ?_
  rintro e w5 ⟨rfl, hm5, hg5⟩
  have HS5 : Hid (RdB w w5 rb Ar cr ⟨C, 5, 0⟩) := Lib.hid (HS4.out.num hm5 hg5)
  have HK5 : Hid (Blk w5 b2 zs ∧ b2 < rb) := Lib.hid ⟨HK4.out.1.grown hg5 (fun e => by injection e with e; have := HK4.out.2; omega), HK4.out.2⟩
  clear hm5 hg5 HNy1 HS4 HK4
  obtain ⟨P, hP⟩ : ∃ P, P = cut C 5 40 := ⟨_, rfl⟩
  have HP := Lib.hid hP
  have HP40 : Hid (P.length = 40) := Lib.hid (by rw [hP]; unfold cut; rw [List.length_take, List.length_drop, HC60.out]; decide)
  have HBY : Hid (Calls Tryz.prog 81 #[.pointer (some ⟨rb, 0, none⟩), .int .i64 40] w5 (RetBytes w5 rb Ar cr ⟨C, 5, 0⟩ 40)) := Lib.hid (bytes_calls w5 rb Ar cr ⟨C, 5, 0⟩ HS5.out.rd (by show C.length ≤ _; rw [HC60.out]; decide) 40 rfl (by show 40 ≤ C.length - 5; rw [HC60.out]; decide))
  clear hP
  go_wp2_with fail
  go_at_call 81
  with_reducible refine HBY.out.mono ?_
  rintro e w6 ⟨A6, c6, rfl, ho6, hm6, hg6⟩
  have HS6 : Hid (RdB w w6 rb Ar cr ⟨C, 45, 0⟩) := Lib.hid (HS5.out.num hm6 hg6)
  have HK6 : Hid (Blk w6 b2 zs) := Lib.hid (HK5.out.1.grown hg6 (fun e => by injection e with e; have := HK5.out.2; omega))
  have ho6' : OB w6 w5.heap.size A6 c6 P := by rw [HP.out]; exact ho6
  have HDC : Hid (Calls Tryz.prog 80 #[.slice A6 40 c6] w6 (RetDm w6 (decM P))) := Lib.hid (idecode_calls w6 (HG.out.below' HS6.out.bel) A6 c6 P HP40.out ho6'.rb (by have := ho6'.len; rw [HP40.out] at this; exact this))
  clear ho6 ho6' hm6 hg6 HBY HS5 HK5
  go_wp2_with fail
  go_at_call 80
  with_reducible refine HDC.out.mono ?_
  rintro e w7 ⟨v, ev, rfl, hb7, hcase⟩
  have HB7 : Hid (Below w.heap.size w w7) := Lib.hid (HS6.out.bel.trans (hb7.mono HS6.out.bel.size))
  have HK7 : Hid (Blk w7 b2 zs) := Lib.hid (HK6.out.below hb7 HK6.out.lt)
  clear hb7 HDC HS6 HK6
  rcases hcase with ⟨m, hdm, rfl, rfl⟩ | ⟨hdm, rfl, ge, rfl⟩
  · obtain ⟨ms, hms⟩ : ∃ ms, ms = mcells m := ⟨_, rfl⟩
    have hmf := decM_facts hdm HP40.out
    have HMF := Lib.hid hmf
    have HM35 : Hid (ms.length = 35 ∧ ∀ v ∈ ms, v.oneCell' = true) := Lib.hid (by rw [hms]; exact ⟨mcells_len _ hmf.2.2, mcells_one _⟩)
    have HDM : Hid (manF g l = if firstSec g m = l then some m else none) := Lib.hid (manF_some1 HEF.out (by rw [← HP.out]; exact hdm))
    obtain ⟨S, hS⟩ : ∃ S, S = firstSec g m := ⟨_, rfl⟩
    rw [← hS] at HDM
    have HSC : Hid (∀ w', Below w.heap.size w w' → Calls Tryz.prog 82 #[.int .u32 (g : Int), .agg ms.toArray] w' (RetPut w' S)) := Lib.hid fun w' hb => by rw [hS, hms]; exact firstSec_calls w' (HG.out.below' hb) g m HI.out hmf.2.2 hmf.1 hmf.2.1
    have HMS := Lib.hid hms
    rw [← hms]
    clear hdm hms hmf hS
    go_wp2_with (((with_reducible show wpList _ _ _ (Oper.mk (some 9) (Op.alloc 47) _ _ _ _ :: _) _ _); refine wpList_allocS _ ZM.out.1 rfl rfl ?_))
    intro w8 hb8 hg8 hs8
    obtain ⟨b9, hB9⟩ : ∃ b, b = w7.heap.size := ⟨_, rfl⟩
    rw [← hB9] at hb8 ⊢
    have HN9 : Hid (b2 < b9 ∧ w.heap.size ≤ b9) := Lib.hid (by rw [hB9]; exact ⟨HK7.out.lt, HB7.out.size⟩)
    have HB8 : Hid (Below w.heap.size w w8) := Lib.hid (HB7.out.trans ((gbelow hg8).mono HB7.out.size))
    have HK8 : Hid (Blk w8 b2 zs ∧ Blk w8 b9 zs) := Lib.hid ⟨HK7.out.grown hg8 (by simp), hb8⟩
    clear hb8 hg8 hs8 hB9 HK7 HB7
    go_wp2_with (((with_reducible show wpList _ _ _ (Oper.mk _ (Op.store 47 _ _) _ _ _ _ :: _) _ _); refine wpList_storeS sMan rfl _ _ rfl b9 _ ms rfl rfl HK8.out.2 ZM.out.2.1 HM35.out.1 HM35.out.2 ?_))
    intro w9 hb9 hg9
    have HB9 : Hid (Below w.heap.size w w9) := Lib.hid (HB8.out.grown hg9 HB8.out.size (fun j e => by injection e with e; have := HN9.out.2; omega))
    have HK9 : Hid (Blk w9 b2 zs ∧ Blk w9 b9 ms) := Lib.hid ⟨HK8.out.1.grown hg9 (fun e => by injection e with e; have := HN9.out.1; omega), hb9⟩
    have HSC9 := Lib.hid (HSC.out w9 HB9.out)
    clear hb9 hg9 HB8 HK8 HSC
    go_wp2_with (((with_reducible show wpList _ _ _ (Oper.mk (some 35) (Op.load 47 _) _ _ _ _ :: _) _ _); refine wpList_loadSw sMan (by first | rfl | simp [Region.wanted, yielded]) _ rfl b9 ms rfl HK9.out.2 HM35.out.1 ?_))
    with_reducible refine HSC9.out.mono ?_
    rintro e w10 ⟨A10, c10, rfl, ho10, hb10⟩
    have HB10 : Hid (Below w.heap.size w w10) := Lib.hid (HB9.out.trans (hb10.mono HB9.out.size))
    have HK10 : Hid (Blk w10 b2 zs ∧ Blk w10 b9 ms) := Lib.hid ⟨HK9.out.1.below hb10 HK9.out.1.lt, HK9.out.2.below hb10 HK9.out.2.lt⟩
    obtain ⟨be, hbe⟩ : ∃ be, be = decide (S = l) := ⟨_, rfl⟩
    have HBE := Lib.hid hbe
    have HEQ : Hid (Calls Tryz.prog 79 #[.slice A10 S.length c10, .slice A 64 c] w10 (fun e w' => e = .returned (.bool be) ∧ w' = w10)) := Lib.hid (by rw [hbe]; exact equal_calls w10 A10 A S.length 64 c10 c S l rfl H64.out.symm ho10.rb ((HA.out.below HB10.out).mono HB10.out.size))
    clear ho10 hb10 hbe HSC9 HK9 HB9
    cases be with
    | false =>
      have HDO : Hid (manF g l = none) := Lib.hid (by rw [HDM.out, if_neg (by have := HBE.out; simpa using this.symm)])
      go_wp2_with fail
      go_at_call 79
      with_reducible refine HEQ.out.mono ?_
      rintro e w11 ⟨rfl, rfl⟩
      clear HEQ
      go_wp2_with (first | ((with_reducible show wpList _ _ _ (Oper.mk _ (Op.build 47 _) _ _ _ _ :: _) _ _); refine wpList_buildS rfl _ _ rfl #[] zs.toArray (by simp only [List.map_toArray, List.map_nil]) (HBZ.out _) ?_) | ((with_reducible show wpList _ _ _ (Oper.mk _ (Op.store 47 _ _) _ _ _ _ :: _) _ _); refine wpList_storeS sMan rfl _ _ rfl b2 _ zs rfl rfl HK10.out.1 ZM.out.2.1 ZM.out.2.1 ZM.out.2.2 ?_))
      intro w12 hb12 hg12
      have l1' := Lib.hid (run_loadS sMan b2 zs hb12 ZM.out.2.1)
      have HRES := Lib.hid (HOUT.out w12 HDO.out (HB10.out.grown hg12 HB10.out.size (fun j e => by injection e with e; have := HB2.out; omega)))
      clear hb12 hg12 HOUT
      go_wp2
      exact bodyPost_ret (v := .tuple #[.agg zs.toArray, .bool false]) (by simp [results, Tryz.results54, asAddr, l1'.out]) rfl HRES.out
    | true =>
    have HDO : Hid (manF g l = some m) := Lib.hid (by rw [HDM.out, if_pos (by have := HBE.out; simpa using this.symm)])
    go_wp2_with fail
    go_at_call 79
    with_reducible refine HEQ.out.mono ?_
    rintro e w11 ⟨rfl, rfl⟩
    clear HEQ
    go_wp2_with (first | ((with_reducible show wpList _ _ _ (Oper.mk (some 42) (Op.load 47 _) _ _ _ _ :: _) _ _); refine wpList_loadS sMan rfl _ rfl b9 ms rfl HK10.out.2 HM35.out.1 ?_) | ((with_reducible show wpList _ _ _ (Oper.mk _ (Op.store 47 _ _) _ _ _ _ :: _) _ _); refine wpList_storeS sMan rfl _ _ rfl b2 _ ms rfl rfl HK10.out.1 ZM.out.2.1 HM35.out.1 HM35.out.2 ?_))
    intro w12 hb12 hg12
    have l1' := Lib.hid (run_loadS sMan b2 ms hb12 HM35.out.1)
    have HRES : Hid (RetMf w (manF g l) (.returned (.tuple #[.agg ms.toArray, .bool true])) w12) := Lib.hid (by rw [HDO.out, HMS.out]; exact ⟨m, HMF.out.2.2, rfl, HB10.out.grown hg12 HB10.out.size (fun j e => by injection e with e; have := HB2.out; omega), fun x h => by injection h⟩)
    clear hb12 hg12 HOUT
    go_wp2
    exact bodyPost_ret (v := .tuple #[.agg ms.toArray, .bool true]) (by simp [results, Tryz.results54, asAddr, l1'.out]) rfl HRES.out
  · have HDO : Hid (manF g l = none) := Lib.hid (manF_some0 HEF.out (by rw [← HP.out]; exact hdm))
    rw [← HZS.out]
    unfold flt
    clear hdm
    go_wp2_with (((with_reducible show wpList _ _ _ (Oper.mk (some 9) (Op.alloc 47) _ _ _ _ :: _) _ _); refine wpList_allocS _ ZM.out.1 rfl rfl ?_))
    intro w8 hb8 hg8 hs8
    obtain ⟨b9, hB9⟩ : ∃ b, b = w7.heap.size := ⟨_, rfl⟩
    rw [← hB9] at hb8 ⊢
    have HN9 : Hid (b2 < b9 ∧ w.heap.size ≤ b9) := Lib.hid (by rw [hB9]; exact ⟨HK7.out.lt, HB7.out.size⟩)
    have HB8 : Hid (Below w.heap.size w w8) := Lib.hid (HB7.out.trans ((gbelow hg8).mono HB7.out.size))
    have HK8 : Hid (Blk w8 b2 zs ∧ Blk w8 b9 zs) := Lib.hid ⟨HK7.out.grown hg8 (by simp), hb8⟩
    clear hb8 hg8 hs8 hB9 HK7 HB7
    go_wp2_with (((with_reducible show wpList _ _ _ (Oper.mk _ (Op.store 47 _ _) _ _ _ _ :: _) _ _); refine wpList_storeS sMan rfl _ _ rfl b9 _ zs rfl rfl HK8.out.2 ZM.out.2.1 ZM.out.2.1 ZM.out.2.2 ?_))
    intro w9 hb9 hg9
    have HB9 : Hid (Below w.heap.size w w9) := Lib.hid (HB8.out.grown hg9 HB8.out.size (fun j e => by injection e with e; have := HN9.out.2; omega))
    have HK9 : Hid (Blk w9 b2 zs) := Lib.hid (HK8.out.1.grown hg9 (fun e => by injection e with e; have := HN9.out.1; omega))
    clear hb9 hg9 HB8 HK8
    go_wp2_with (first | ((with_reducible show wpList _ _ _ (Oper.mk _ (Op.build 47 _) _ _ _ _ :: _) _ _); refine wpList_buildS rfl _ _ rfl #[] zs.toArray (by simp only [List.map_toArray, List.map_nil]) (HBZ.out _) ?_) | ((with_reducible show wpList _ _ _ (Oper.mk _ (Op.store 47 _ _) _ _ _ _ :: _) _ _); refine wpList_storeS sMan rfl _ _ rfl b2 _ zs rfl rfl HK9.out ZM.out.2.1 ZM.out.2.1 ZM.out.2.2 ?_))
    intro w12 hb12 hg12
    have l1' := Lib.hid (run_loadS sMan b2 zs hb12 ZM.out.2.1)
    have HRES := Lib.hid (HOUT.out w12 HDO.out (HB9.out.grown hg12 HB9.out.size (fun j e => by injection e with e; have := HB2.out; omega)))
    clear hb12 hg12 HOUT
    go_wp2
    exact bodyPost_ret (v := .tuple #[.agg zs.toArray, .bool false]) (by simp [results, Tryz.results54, asAddr, l1'.out]) rfl HRES.out
end Go.Proofs.YtjfpoahmjgeogaaGreatDoor
/- loader: load: what a region's sectors hold. -/
namespace Nac.Img
def rcells (bs : Nat) (g bk : Nat) (has : Bool) (A : Option Go.Addr) (n c : Nat) (v : Nat) (stg : Bool) (S : List Go.Value) : List Go.Value :=
  .pointer (some ⟨bs, 0, none⟩) :: .int .u32 (g : Int) :: .int .i64 (bk : Int) :: .bool has :: .slice A n c :: .int .u32 (v : Int) :: .bool stg :: S
theorem headF_lt {a : Nat} {l : List UInt8} {x : Nat × Nat} (h : headF a l = some x) : x.1 < 4294967296 := by
  unfold headF at h
  split at h
  · cases h
  · rename_i c _
    split at h
    · cases h
    · split at h
      · injection h with h
        rw [← h]
        exact cut_lt c 1 4
      · cases h
theorem pick_lt {a : Nat × Nat} {o : Option (Nat × Nat)} (ha : a.1 < 4294967296) (ho : ∀ x, o = some x → x.1 < 4294967296) : (pickH a o).1 < 4294967296 := by
  cases o with
  | none => exact ha
  | some x => rw [pick_some]; split; exact ho x rfl; exact ha
theorem heads_lt (S : Nat → List UInt8) : (headsF S).1 < 4294967296 := pick_lt (pick_lt (by decide) fun x h => headF_lt h) fun x h => headF_lt h
def hk (S : Nat → List UInt8) (k : Nat) : Nat × Nat := if k = 0 then (0, 1) else if k = 1 then pickH (0, 1) (headF 0 (S 0)) else headsF S
theorem hk_succ (S : Nat → List UInt8) {k : Nat} (h : k < 2) : hk S (k + 1) = pickH (hk S k) (headF k (S k)) := by
  rcases (by omega : k = 0 ∨ k = 1) with rfl | rfl <;> rfl
theorem pieceF_len {g k n : Nat} {l x : List UInt8} (h : pieceF g k n l = some x) (hl : l.length = 64) (hn : n ≤ 54) : x.length = n := by
  unfold pieceF at h
  split at h
  · cases h
  · rename_i c hc
    split at h
    · injection h with h
      rw [← h]
      have h60 : c.length = 60 := by
        rw [openB_64 hl] at hc
        split at hc
        · injection hc with hc
          rw [← hc, List.length_take, hl]; decide
        · cases hc
      unfold cut
      rw [List.length_take, List.length_drop, h60]
      omega
    · cases h
theorem manF_ok {g : Nat} {l : List UInt8} {m : Man} (h : manF g l = some m) : m.okB = true := by
  unfold manF at h
  split at h
  · cases h
  · split at h
    · cases h
    · rename_i c _ m' hd
      split at h
      · injection h with h
        subst h
        unfold decM at hd
        simp only at hd
        split at hd
        · rename_i hh
          injection hd with hd
          rw [← hd]
          exact hh.2.2
        · cases hd
      · cases h
theorem gather_none {T : Nat → List UInt8} {g at_ size f k : Nat} {w : List UInt8} (hf : 0 < f) (hl : w.length < size) (hp : pieceF g k (min 54 (size - w.length)) (T (at_ + 1 + k)) = none) : gatherF T g at_ size f k w = none := by
  obtain ⟨f, rfl⟩ : ∃ n, f = n + 1 := ⟨f - 1, by omega⟩
  unfold gatherF
  rw [if_neg (by omega), hp]
theorem gather_some {T : Nat → List UInt8} {g at_ size f k : Nat} {w p : List UInt8} (hf : 0 < f) (hl : w.length < size) (hp : pieceF g k (min 54 (size - w.length)) (T (at_ + 1 + k)) = some p) : gatherF T g at_ size f k w = gatherF T g at_ size (f - 1) (k + 1) (w ++ p) := by
  obtain ⟨f, rfl⟩ : ∃ n, f = n + 1 := ⟨f - 1, by omega⟩
  rw [gatherF, if_neg (by omega), hp]
  rfl
theorem gather_done {T : Nat → List UInt8} {g at_ size f k : Nat} {w : List UInt8} (hl : size ≤ w.length) : gatherF T g at_ size f k w = some w := by
  cases f with
  | zero => unfold gatherF; rw [if_pos hl]
  | succ f => unfold gatherF; rw [if_pos hl]
end Nac.Img
namespace Go.Proofs.YtjfpoahmjgeogaaGreatDoor
open Go.RowKit Nac Nac.Img Nac.Sha Nac.Crc
section
variable {w : World} {ops : Array Oper} {Q : Exit → Act → World → Prop} {D : Nat → Value → Prop} {J : (Nat → Bool) → World → Prop} {a0 : Act} {i : Nat} {o : Oper}
theorem vstep_storeB (ty : TypeId) (x : Tmp) (y : Operand) (b k : Nat) (v : Value) (hi : (Tryz.prog.info? ty).map (·.size) = some 1) (h1 : v.oneCell' = true) (ho : ops[i]? = some o) (hw : ∀ L a w, VCtx ops D J a0 i L a w → Region.wanted o (yielded ops a.tmps) = true) (hop : o.op = .store ty (.tmp x) y)
    (hx : ∀ L a w, VCtx ops D J a0 i L a w → a.tmps.getD x undef = .pointer (some ⟨b, k, none⟩)) (hy : ∀ L a w, VCtx ops D J a0 i L a w → a.eval y = v)
    (hb : ∀ L w, J L w → L i = false → ∃ cs, k < cs.length ∧ Blk w b cs ∧ ∀ w', Blk w' b (cs.set k v) → w.grownBy w' (some b) → J (upd L i) w') (hD : D i undef) : VStep Tryz.prog ops Q D J a0 i := by
  intro o' ho' L a w c
  rw [ho] at ho'
  obtain rfl := Option.some.inj ho'
  rw [if_pos (hw L a w c)]
  obtain ⟨cs, hk, hbl, hnext⟩ := hb L w c.world c.fresh
  have e1 := hx L a w c
  have e2 := hy L a w c
  have hr2 : (execOp a.eval o).run Tryz.prog w = .ok .skip (w.setCell ⟨b, k, none⟩ v) := by
    unfold execOp
    simp only [hop, e2, Instr.storeAt, Instr.sureAddr, show a.eval (Operand.tmp x) = .pointer (some ⟨b, k, none⟩) from e1, Sem.run_bind, Sem.run_pure, Result.andThen_ok, run_storeVar_cell w b k ty v _ (hbl.cell (List.getElem?_eq_getElem hk)) (hbl.free k) hi h1]
  unfold Oper.wp
  rw [hr2]
  exact ⟨undef, rfl, hD, hnext _ (hbl.setCell k v) (grown_setCell w ⟨b, k, none⟩ v)⟩
end
def PiV (o : Option (List UInt8)) (v : Value) (w : World) : Prop := ∃ (A : Option Addr) (c : Nat) (p : List UInt8), v = .tuple #[.slice A p.length c, .bool o.isSome] ∧ p.length ≤ c ∧ RB w w.heap.size A p ∧ ∀ x, o = some x → p = x
def piVD (o : Option (List UInt8)) : VD := .pr (PiV o) (fun _ _ _ ⟨A, c, p, h1, h2, h3, h4⟩ hb => ⟨A, c, p, h1, h2, (h3.below hb).mono hb.size, h4⟩)
def PsV (o : Option (List UInt8)) (v : Value) (w : World) : Prop := ∃ (A : Option Addr) (c : Nat) (p : List UInt8), v = .slice A p.length c ∧ p.length ≤ c ∧ RB w w.heap.size A p ∧ ∀ x, o = some x → p = x
def psVD (o : Option (List UInt8)) : VD := .pr (PsV o) (fun _ _ _ ⟨A, c, p, h1, h2, h3, h4⟩ hb => ⟨A, c, p, h1, h2, (h3.below hb).mono hb.size, h4⟩)
structure LdS (w0 w : World) (br : Nat) (cs : List Value) : Prop where
  own : w0.grownBy w (some br)
  blk : Blk w br cs
theorem LdS.below {w0 w w' : World} {br : Nat} {cs : List Value} (h : LdS w0 w br cs) (hb : Below w.heap.size w w') : LdS w0 w' br cs := ⟨h.own.trans (Only.below hb), h.blk.below hb h.blk.lt⟩
theorem LdS.sto {w0 w w' : World} {br : Nat} {cs cs' : List Value} (h : LdS w0 w br cs) (hb : Blk w' br cs') (hg : w.grownBy w' (some br)) : LdS w0 w' br cs' := ⟨h.own.trans hg, hb⟩
theorem dk_only {w0 w : World} {br bd : Nat} {O : Nat → Prop} {d : Dk} (h : DkM w0 bd O d) (ho : w0.grownBy w (some br)) (hn : ¬ O br) : DkM w bd O d := h.same (fun k hk => ho.block k (h.own k hk) (fun e => hn (by injection e with e; rw [← e]; exact hk))) ho.size
theorem gl_only {w0 w : World} {br : Nat} (h : Gl w0) (ho : w0.grownBy w (some br)) (h5 : 5 ≤ br) : Gl w := h.grown ho (fun k e => by injection e with e; omega)
def RegC (w : World) (B br bs : Nat) (r : Reg) (stg : Bool) (S cs : List Value) : Prop :=
  match r.img with
  | none => cs = rcells bs r.gen r.bank false none 0 0 0 stg S
  | some (b, v) => ∃ (A : Option Addr) (c : Nat), cs = rcells bs r.gen r.bank true A b.length c v stg S ∧ b.length ≤ c ∧ RB w w.heap.size A b ∧ ∀ g, A.map (·.block) = some g → B ≤ g ∧ g ≠ br
theorem LdS.other {w0 w w' : World} {br b : Nat} {cs : List Value} (h : LdS w0 w br cs) (hg : w.grownBy w' (some b)) (hb : w0.heap.size ≤ b) (hne : b ≠ br) : LdS w0 w' br cs :=
  ⟨⟨hg.os.trans h.own.os, hg.tape.trans h.own.tape, hg.output.trans h.own.output, Nat.le_trans h.own.size hg.size, fun k hk hn => (hg.block k (Nat.lt_of_lt_of_le hk h.own.size) (fun e => by injection e with e; omega)).trans (h.own.block k hk hn)⟩, h.blk.grown hg (fun e => hne (by injection e))⟩
def St3 (i j k : Nat) (cs : List Value) (v3 v4 v5 : Value) (L : Nat → Bool) : List Value :=
  let c1 := if L i = true then cs.set 3 v3 else cs
  let c2 := if L j = true then c1.set 4 v4 else c1
  if L k = true then c2.set 5 v5 else c2
section
variable {i j k : Nat} {cs : List Value} {v3 v4 v5 : Value} {L : Nat → Bool}
theorem upd_ne {n m : Nat} (h : m ≠ n) : upd L n m = L m := by unfold upd; rw [if_neg h]
theorem upd_eq {n : Nat} : upd L n n = true := by unfold upd; rw [if_pos rfl]
theorem St3_pure {n : Nat} (h1 : i ≠ n) (h2 : j ≠ n) (h3 : k ≠ n) : St3 i j k cs v3 v4 v5 (upd L n) = St3 i j k cs v3 v4 v5 L := by
  unfold St3; rw [upd_ne h1, upd_ne h2, upd_ne h3]
theorem St3_len : (St3 i j k cs v3 v4 v5 L).length = cs.length := by
  unfold St3
  by_cases h1 : L i = true <;> by_cases h2 : L j = true <;> by_cases h3 : L k = true <;> simp [h1, h2, h3]
theorem St3_3 (h1 : j ≠ i) (h2 : k ≠ i) (h : L i = false) : (St3 i j k cs v3 v4 v5 L).set 3 v3 = St3 i j k cs v3 v4 v5 (upd L i) := by
  unfold St3
  rw [upd_eq, upd_ne h1, upd_ne h2, h]
  by_cases h2 : L j = true <;> by_cases h3 : L k = true <;> simp [h2, h3, List.set_comm]
theorem St3_4 (h1 : i ≠ j) (h2 : k ≠ j) (h : L j = false) : (St3 i j k cs v3 v4 v5 L).set 4 v4 = St3 i j k cs v3 v4 v5 (upd L j) := by
  unfold St3
  rw [upd_eq, upd_ne h1, upd_ne h2, h]
  by_cases h2 : L i = true <;> by_cases h3 : L k = true <;> simp [h2, h3, List.set_comm]
theorem St3_5 (h1 : i ≠ k) (h2 : j ≠ k) (h : L k = false) : (St3 i j k cs v3 v4 v5 L).set 5 v5 = St3 i j k cs v3 v4 v5 (upd L k) := by
  unfold St3
  rw [upd_eq, upd_ne h1, upd_ne h2, h]
  by_cases h2 : L i = true <;> by_cases h3 : L j = true <;> simp [h2, h3]
end
def RetLd (w : World) (br bs : Nat) (r : Reg) (S : List Value) (e : Ending) (w' : World) : Prop := e = .returned (.int .i64 0) ∧ w.grownBy w' (some br) ∧ ∃ cs, Blk w' br cs ∧ RegC w' w.heap.size br bs r false S cs
set_option maxRecDepth 100000 in
set_option maxHeartbeats 16000000 in
theorem load_calls (w : World) (hG : Gl w) (br bs bd : Nat) (O : Nat → Prop) (d : Dk) (S : List Value) (hp : PartM w bs bd 0 24) (hd : DkM w bd O d) (hoff : d.off = false) (hpd : d.pend = []) (hbr : ¬ O br) (hne : bs ≠ br) (h5 : 5 ≤ br) (hblk : Blk w br (rcells bs 0 1 false none 0 0 0 false S)) :
    Calls Tryz.prog 28 #[.pointer (some ⟨br, 0, none⟩), .int .i64 0] w (RetLd w br bs (loadF shaF okPF (secAt d.secs)) S) := by
  have HG := Lib.hid hG
  have HP := Lib.hid hp
  have HD := Lib.hid (And.intro hd (And.intro hoff hpd))
  have HBR : Hid (¬ O br ∧ bs ≠ br ∧ 5 ≤ br) := Lib.hid ⟨hbr, hne, h5⟩
  have HB0 := Lib.hid hblk
  obtain ⟨T, hT⟩ : ∃ T, T = secAt d.secs := ⟨_, rfl⟩
  have HT : Hid (∀ p, T p = d.secs.getD (0 + p) []) := Lib.hid fun p => by rw [hT, Nat.zero_add]; rfl
  have HRE : Hid (∀ (w1 : World) (p : Nat), w.grownBy w1 (some br) → p < 24 → Calls Tryz.prog 51 #[.pointer (some ⟨bs, 0, none⟩), .int .i64 (p : Int)] w1 (RetDr w1 (T p))) := Lib.hid fun w1 p ho hp' => by
    rw [HT.out]
    exact eread_calls w1 bs bd 0 24 p O d (Only.blk ho HP.out hne) (dk_only hd ho hbr) hp' (by decide) hoff hpd
  rw [← hT]
  clear hG hp hd hoff hpd hbr hne h5 hblk hT
  go_enter Tryz.func28, Tryz.ntmps28
  go_wp2_with fail
  go_loopw [22] (fun s22 wr => ∃ k : Nat, k ≤ 2 ∧ s22 = .int .i64 (k : Int) ∧ Hid (LdS w wr br (rcells bs (hk T k).1 (hk T k).2 false none 0 0 0 false S))) (fun s22 _ => 2 - (intOf s22).toNat)
  case atStart => exact ⟨0, Nat.zero_le _, rfl, Lib.hid ⟨World.grownBy.refl w _, HB0.out⟩⟩
  case round =>
    obtain ⟨k, hkk, rfl, hs⟩ := hrel
    obtain ⟨hg, hb, hhk⟩ : ∃ hg hb, hk T k = (hg, hb) := ⟨_, _, rfl⟩
    have HHK := Lib.hid hhk
    rw [hhk] at hs
    have HS : Hid (LdS w wr br (rcells bs hg hb false none 0 0 0 false S)) := hs
    clear hs hhk HB0
    by_cases hlt : k < 2
    · have HLT := Lib.hid hlt
      have k0 : wr.cell? ⟨br, 0, none⟩ = some (.pointer (some ⟨bs, 0, none⟩)) := HS.out.blk.cell rfl
      have HR := Lib.hid (HRE.out wr k HS.out.own (by omega))
      go_wp2_with fail
      go_at_call 51
      with_reducible refine HR.out.mono ?_
      rintro e w2 ⟨b2, rfl, hlt2, hb2, hx64, hbb2⟩
      have HS2 : Hid (LdS w w2 br (rcells bs hg hb false none 0 0 0 false S)) := Lib.hid (HS.out.below hbb2)
      have HHC : Hid (Calls Tryz.prog 52 #[.int .i64 (k : Int), .slice (some ⟨b2, 0, none⟩) 64 64] w2 (RetHd w2 (headF k (T k)))) := Lib.hid (head_calls w2 (gl_only HG.out HS2.out.own HBR.out.2.2) k hlt (some ⟨b2, 0, none⟩) 64 (T k) hx64 (fun _ => ⟨b2, 0, rfl, hb2.lt, fun j hj => by
        rw [Nat.zero_add]
        refine hb2.cell ?_
        rw [List.getElem?_map, List.getElem?_eq_getElem hj]
        rfl⟩) (Nat.le_refl _))
      obtain ⟨oh, hoh⟩ : ∃ oh, oh = headF k (T k) := ⟨_, rfl⟩
      have HOH : Hid (hk T (k + 1) = pickH (hg, hb) oh) := Lib.hid (by rw [hk_succ T hlt, HHK.out, hoh])
      rw [← hoh] at HHC
      clear hlt2 hb2 hx64 hbb2 HR HS hoh k0
      go_wp2_with fail
      go_at_call 52
      with_reducible refine HHC.out.mono ?_
      rintro e w3 ⟨g, n, rfl, hb3, hsame⟩
      have HS3 : Hid (LdS w w3 br (rcells bs hg hb false none 0 0 0 false S)) := Lib.hid (HS2.out.below hb3)
      have k1 : w3.cell? ⟨br, 1, none⟩ = some (.int .u32 (hg : Int)) := HS3.out.blk.cell rfl
      clear hb3 HHC HS2
      cases oh with
      | none =>
        have HNX : Hid (LdS w w3 br (rcells bs (hk T (k + 1)).1 (hk T (k + 1)).2 false none 0 0 0 false S)) := Lib.hid (by rw [HOH.out]; exact HS3.out)
        clear hsame
        go_wp2_with fail
        go_roundw
        case rel => exact ⟨k + 1, HLT.out, by go_num, HNX⟩
        case measure => simp [intOf]; omega
      | some x =>
      obtain ⟨rfl, rfl⟩ := hsame x rfl
      obtain ⟨g, n⟩ := x
      by_cases hgt : hg < g
      · have hgt' : (hg : Int) < (g : Int) := by omega
        have HPK : Hid (hk T (k + 1) = (g, n)) := Lib.hid (by rw [HOH.out, pick_some, if_pos hgt])
        clear hgt hsame
        go_wp2_with (((with_reducible show wpList _ _ _ (Oper.mk _ (Op.store 44 _ _) _ _ _ _ :: _) _ _); refine wpList_storeB rfl 44 _ _ rfl br 1 _ (.int .u32 (g : Int)) (by show 1 < S.length + 7; omega) rfl (by rfl) HS3.out.blk (by kernel_rfl) rfl ?_))
        intro w4 hb4 hg4 hs4
        have HS4 : Hid (LdS w w4 br (rcells bs g hb false none 0 0 0 false S)) := Lib.hid (HS3.out.sto hb4.out hg4.out)
        clear hb4 hg4 hs4 HS3 k1
        go_wp2_with (((with_reducible show wpList _ _ _ (Oper.mk _ (Op.store 3 _ _) _ _ _ _ :: _) _ _); refine wpList_storeB rfl 3 _ _ rfl br 2 _ (.int .i64 (n : Int)) (by show 2 < S.length + 7; omega) rfl (by rfl) HS4.out.blk (by kernel_rfl) rfl ?_))
        intro w5 hb5 hg5 hs5
        have HNX : Hid (LdS w w5 br (rcells bs (hk T (k + 1)).1 (hk T (k + 1)).2 false none 0 0 0 false S)) := Lib.hid (by rw [HPK.out]; exact HS4.out.sto hb5.out hg5.out)
        clear hb5 hg5 hs5 HS4
        go_wp2_with fail
        go_roundw
        case rel => exact ⟨k + 1, HLT.out, by go_num, HNX⟩
        case measure => simp [intOf]; omega
      · have hgt' : ¬ (hg : Int) < (g : Int) := by omega
        have HNX : Hid (LdS w w3 br (rcells bs (hk T (k + 1)).1 (hk T (k + 1)).2 false none 0 0 0 false S)) := Lib.hid (by rw [HOH.out, pick_some, if_neg hgt]; exact HS3.out)
        clear hgt hsame
        go_wp2_with fail
        go_roundw
        case rel => exact ⟨k + 1, HLT.out, by go_num, HNX⟩
        case measure => simp [intOf]; omega
    · obtain rfl : k = 2 := by omega
      have hhs : headsF T = (hg, hb) := HHK.out
      have HHS := Lib.hid hhs
      have k1 : wr.cell? ⟨br, 1, none⟩ = some (.int .u32 (hg : Int)) := HS.out.blk.cell rfl
      have k2 : wr.cell? ⟨br, 2, none⟩ = some (.int .i64 (hb : Int)) := HS.out.blk.cell rfl
      have k0 : wr.cell? ⟨br, 0, none⟩ = some (.pointer (some ⟨bs, 0, none⟩)) := HS.out.blk.cell rfl
      have HBT : Hid (hb < 2 ∧ hg < 4294967296) := Lib.hid ⟨by have := heads_bank T; rw [hhs] at this; exact this, by have := heads_lt T; rw [hhs] at this; exact this⟩
      -- nothing there
      have HNO : Hid (∀ w5, LdS w w5 br (rcells bs hg hb false none 0 0 0 false S) → (loadF shaF okPF T).img = none → RetLd w br bs (loadF shaF okPF T) S (.returned (.int .i64 0)) w5) := Lib.hid fun w5 hs hno => by
        have hl := load_gen shaF okPF T
        rw [hhs] at hl
        refine ⟨rfl, hs.own, _, hs.blk, ?_⟩
        unfold RegC
        rw [hno, hl.1, hl.2]
      clear hlt hhs HHK
      by_cases hz : hg = 0
      · have hz' : (hg : Int) = 0 := by omega
        have hz2 : ((hg : Int) == 0) = true := by rw [hz']; rfl
        have HRES := Lib.hid (HNO.out wr HS.out (by unfold loadF; rw [HHS.out]; rw [if_pos hz]))
        clear hz HNO
        go_wp2_with fail
        go_ret
        exact HRES.out
      · have hz2 : ((hg : Int) == 0) = false := by simp; omega
        have HNZ := Lib.hid hz
        have HBA := Lib.hid (bankAt_calls wr hb HBT.out.1)
        clear hz
        go_wp2_with fail
        go_at_call 53
        with_reducible refine HBA.out.mono ?_
        rintro e wr' ⟨rfl, rfl⟩
        obtain ⟨ba, hba⟩ : ∃ ba, ba = bankAtF hb := ⟨_, rfl⟩
        have HBAE := Lib.hid hba
        have HB13 : Hid (ba ≤ 13) := Lib.hid (by rw [hba]; unfold bankAtF; have := HBT.out.1; omega)
        rw [← hba]
        have HR := Lib.hid (HRE.out wr' ba HS.out.own (by have := HB13.out; omega))
        clear hba HBA
        go_wp2_with fail
        go_at_call 51
        with_reducible refine HR.out.mono ?_
        rintro e w2 ⟨b2, rfl, hlt2, hb2, hx64, hbb2⟩
        have HS2 : Hid (LdS w w2 br (rcells bs hg hb false none 0 0 0 false S)) := Lib.hid (HS.out.below hbb2)
        have HMC : Hid (Calls Tryz.prog 54 #[.int .u32 (hg : Int), .slice (some ⟨b2, 0, none⟩) 64 64] w2 (RetMf w2 (manF hg (T ba)))) := Lib.hid (manifest_calls w2 (gl_only HG.out HS2.out.own HBR.out.2.2) hg HBT.out.2 (some ⟨b2, 0, none⟩) 64 (T ba) hx64 (fun _ => ⟨b2, 0, rfl, hb2.lt, fun j hj => by
          rw [Nat.zero_add]
          refine hb2.cell ?_
          rw [List.getElem?_map, List.getElem?_eq_getElem hj]
          rfl⟩) (Nat.le_refl _))
        have k1 : w2.cell? ⟨br, 1, none⟩ = some (.int .u32 (hg : Int)) := HS2.out.blk.cell rfl
        obtain ⟨om, hom⟩ : ∃ om, om = manF hg (T ba) := ⟨_, rfl⟩
        have HOM := Lib.hid hom
        rw [← hom] at HMC
        clear hlt2 hb2 hx64 hbb2 HR HS hom k0 k2
        go_wp2_with fail
        go_at_call 54
        with_reducible refine HMC.out.mono ?_
        rintro e w3 ⟨m, h32, rfl, hb3, hsame⟩
        obtain ⟨okm, hokm⟩ : ∃ b, b = om.isSome := ⟨_, rfl⟩
        have HOKM := Lib.hid hokm
        rw [← hokm]
        clear hokm
        have HS3 : Hid (LdS w w3 br (rcells bs hg hb false none 0 0 0 false S)) := Lib.hid (HS2.out.below hb3)
        obtain ⟨ms, hms⟩ : ∃ ms, ms = mcells m := ⟨_, rfl⟩
        have HM35 : Hid (ms.length = 35 ∧ ∀ v ∈ ms, v.oneCell' = true) := Lib.hid (by rw [hms]; exact ⟨mcells_len _ h32, mcells_one _⟩)
        have HMS := Lib.hid (And.intro hms h32)
        obtain ⟨zs, hzs⟩ : ∃ zs, zs = mcells zMan := ⟨_, rfl⟩
        have ZM : Hid (((Tryz.prog.info? 47).bind (·.zero)) = some (.agg zs.toArray) ∧ zs.length = 35) := Lib.hid (by rw [hzs]; exact ⟨zeroMan, mcells_len _ rfl⟩)
        rw [← hms]
        clear hb3 HMC HS2 hms h32 hzs k1
        go_wp2_with (((with_reducible show wpList _ _ _ (Oper.mk (some 14) (Op.alloc 47) _ _ _ _ :: _) _ _); refine wpList_allocS _ ZM.out.1 rfl rfl ?_))
        intro w4 hb4 hg4 hs4
        obtain ⟨b14, hB14⟩ : ∃ b, b = w3.heap.size := ⟨_, rfl⟩
        rw [← hB14] at hb4 ⊢
        have HN14 : Hid (b14 ≠ br ∧ w.heap.size ≤ b14) := Lib.hid (by rw [hB14]; exact ⟨fun e => by have := HS3.out.blk.lt; omega, HS3.out.own.size⟩)
        have HS4 : Hid (LdS w w4 br (rcells bs hg hb false none 0 0 0 false S)) := Lib.hid (HS3.out.below (gbelow hg4))
        have HK4 := Lib.hid hb4
        clear hb4 hg4 hs4 hB14 HS3
        go_wp2_with (((with_reducible show wpList _ _ _ (Oper.mk _ (Op.store 47 _ _) _ _ _ _ :: _) _ _); refine wpList_storeS sMan rfl _ _ rfl b14 _ ms rfl rfl HK4.out ZM.out.2 HM35.out.1 HM35.out.2 ?_))
        intro w5 hb5 hg5
        have HS5 : Hid (LdS w w5 br (rcells bs hg hb false none 0 0 0 false S)) := Lib.hid (HS4.out.other hg5 HN14.out.2 HN14.out.1)
        have HK5 := Lib.hid hb5
        clear hb5 hg5 HS4 HK4
        cases om with
        | none =>
          obtain rfl : okm = false := HOKM.out
          have HRES := Lib.hid (HNO.out w5 HS5.out (by unfold loadF; rw [HHS.out]; rw [if_neg HNZ.out]; simp only; rw [← HBAE.out, ← HOM.out]))
          clear HNO hsame
          go_wp2_with fail
          go_ret
          exact HRES.out
        | some m' =>
          obtain rfl := hsame m' rfl
          obtain rfl : okm = true := HOKM.out
          obtain ⟨pt, hpt⟩ : ∃ pt, pt = m.part := ⟨_, rfl⟩
          have HPT := Lib.hid hpt
          have k14 : w5.cell? ⟨b14, 0, none⟩ = some (.int .i64 pt) := HK5.out.cell (by rw [HMS.out.1, hpt]; rfl)
          clear hsame hpt
          by_cases hp0 : pt = 0
          · subst hp0
            -- its pieces
            obtain ⟨sz, hsz⟩ : ∃ sz : Nat, m.size = (sz : Int) ∧ sz ≤ 512 ∧ 4 ≤ sz := by
              have h1 := manF_ok HOM.out.symm
              have h2 : 0 ≤ m.part ∧ m.part < 8 ∧ 4 ≤ m.size ∧ m.size ≤ 512 ∧ m.size % 4 = 0 := of_decide_eq_true h1
              obtain ⟨s, hs⟩ := Int.eq_ofNat_of_zero_le (by omega : 0 ≤ m.size)
              exact ⟨s, hs, by omega, by omega⟩
            have HSZ := Lib.hid hsz
            have sz5 : sz ≤ 512 := hsz.2.1
            have ba5 : ba ≤ 13 := HB13.out
            have HLF : Hid (loadF shaF okPF T = match gatherF T hg ba sz 10 0 [] with
              | none => ⟨hg, hb, none⟩
              | some w => if imgOk shaF okPF m w = true then ⟨hg, hb, some (w, m.ver)⟩ else ⟨hg, hb, none⟩) := Lib.hid (by
              have hl := load_gen shaF okPF T
              unfold loadF
              rw [HHS.out, if_neg HNZ.out]
              simp only
              rw [← HBAE.out, ← HOM.out]
              simp only
              rw [if_neg (by rw [← HPT.out]; simp), hsz.1, Int.toNat_natCast]
              generalize gatherF T hg ba sz 10 0 [] = gg
              cases gg <;> rfl)
            have MC2 : Hid (∀ w', Blk w' b14 ms → w'.cell? ⟨b14, 2, none⟩ = some (.int .i64 (sz : Int))) := Lib.hid fun w' hb => hb.cell (by rw [HMS.out.1]; show some (Value.int .i64 m.size) = _; rw [hsz.1])
            obtain ⟨B0, hB0⟩ : ∃ B, B = w5.heap.size := ⟨_, rfl⟩
            have HB0' : Hid (b14 < B0 ∧ br < B0 ∧ w.heap.size ≤ B0 ∧ B0 ≤ w5.heap.size) := Lib.hid (by rw [hB0]; exact ⟨HK5.out.lt, HS5.out.blk.lt, HS5.out.own.size, Nat.le_refl _⟩)
            clear hsz hB0
            go_wp2_with fail
            clear k14
            go_loopw [16, 17] (fun s16 s17 wr => ∃ (k : Nat) (Aw : Option Addr) (cw : Nat) (W : List UInt8), k ≤ 10 ∧ s17 = .int .i64 (k : Int) ∧ s16 = .slice Aw W.length cw ∧ Hid (OB wr B0 Aw cw W ∧ LdS w wr br (rcells bs hg hb false none 0 0 0 false S) ∧ Blk wr b14 ms ∧ B0 ≤ wr.heap.size ∧ W.length = min (54 * k) sz ∧ gatherF T hg ba sz 10 0 [] = gatherF T hg ba sz (10 - k) k W)) (fun _ s17 _ => 10 - (intOf s17).toNat)
            case atStart => exact ⟨0, none, 0, [], Nat.zero_le _, rfl, rfl, Lib.hid ⟨OB.nil _ _, HS5.out, HK5.out, HB0'.out.2.2.2, by simp, rfl⟩⟩
            case round =>
              obtain ⟨k, Aw, cw, W, hk10, rfl, rfl, hinv⟩ := hrel
              obtain ⟨wn, hwn⟩ : ∃ wn, wn = W.length := ⟨_, rfl⟩
              have HWN := Lib.hid hwn
              have HK10 := Lib.hid hk10
              rw [← hwn]
              have c2 : wr.cell? ⟨b14, 2, none⟩ = some (.int .i64 (sz : Int)) := MC2.out _ hinv.out.2.2.1
              have k0 : wr.cell? ⟨br, 0, none⟩ = some (.pointer (some ⟨bs, 0, none⟩)) := hinv.out.2.1.blk.cell rfl
              clear hwn HS5 HK5
              by_cases hlt : wn < sz
              · have hlt' : (wn : Int) < (sz : Int) := by omega
                have HLT := Lib.hid hlt
                have HKL : Hid (k < 10) := Lib.hid (by have h1 := hinv.out.2.2.2.2.1; have h2 := HWN.out; omega)
                have hkl : k < 10 := HKL.out
                have HR : Hid (Calls Tryz.prog 51 #[.pointer (some ⟨bs, 0, none⟩), .int .i64 ((ba : Int) + 1 + (k : Int))] wr (RetDr wr (T (ba + 1 + k)))) := Lib.hid (by
                  have := HRE.out wr (ba + 1 + k) hinv.out.2.1.own (by have := HB13.out; omega)
                  rw [show ((ba + 1 + k : Nat) : Int) = (ba : Int) + 1 + (k : Int) by omega] at this
                  exact this)
                clear hlt
                go_wp2_with fail
                go_at_call 51
                with_reducible refine HR.out.mono ?_
                rintro e w6 ⟨b18, rfl, hlt6, hb6, hx64, hbb6⟩
                have HI6 : Hid (OB w6 B0 Aw cw W ∧ LdS w w6 br (rcells bs hg hb false none 0 0 0 false S) ∧ Blk w6 b14 ms ∧ B0 ≤ w6.heap.size) := Lib.hid ⟨hinv.out.1.below hbb6 (Nat.le_refl _), hinv.out.2.1.below hbb6, hinv.out.2.2.1.below hbb6 hinv.out.2.2.1.lt, Nat.le_trans hinv.out.2.2.2.1 hbb6.size⟩
                have HX64 := Lib.hid hx64
                have HR18 : Hid (RB w6 w6.heap.size (some ⟨b18, 0, none⟩) (T (ba + 1 + k))) := Lib.hid fun _ => ⟨b18, 0, rfl, hb6.lt, fun j hj => by
                  rw [Nat.zero_add]
                  refine hb6.cell ?_
                  rw [List.getElem?_map, List.getElem?_eq_getElem hj]
                  rfl⟩
                have HGE := Lib.hid hinv.out.2.2.2.2
                obtain ⟨lf, hlf⟩ : ∃ lf, lf = sz - wn := ⟨_, rfl⟩
                obtain ⟨q, hq⟩ : ∃ q, q = min 54 lf := ⟨_, rfl⟩
                have QL : Hid (IntKind.i64.wrap (lf : Int) = (lf : Int) ∧ (sz : Int) - (wn : Int) = (lf : Int)) := Lib.hid (by
                  have := HLT.out
                  rw [Go.IntWalk.i64_left]; unfold wrap64; omega)
                have QM : Hid (min (54 : Int) (lf : Int) = (q : Int) ∧ (if (54 : Int) ≤ (lf : Int) then (54 : Int) else (lf : Int)) = (q : Int)) := Lib.hid (by
                  refine ⟨by omega, ?_⟩
                  split <;> omega)
                have HQ : Hid (q ≤ 54 ∧ q = min 54 (sz - W.length)) := Lib.hid ⟨by omega, by rw [← HWN.out]; omega⟩
                obtain ⟨o9, ho9⟩ : ∃ o, o = pieceF hg k q (T (ba + 1 + k)) := ⟨_, rfl⟩
                obtain ⟨ok9, hok9⟩ : ∃ ok, ok = o9.isSome := ⟨_, rfl⟩
                have HO9 := Lib.hid ho9
                have HOK9 := Lib.hid hok9
                have C1 : Hid (∀ w', Below w6.drew.heap.size w6.drew w' → w'.cell? ⟨br, 1, none⟩ = some (.int .u32 (hg : Int))) := Lib.hid fun w' hb => (HI6.out.2.1.blk.keep (hb.block br HI6.out.2.1.blk.lt)).cell rfl
                have C2 : Hid (∀ w', Below w6.drew.heap.size w6.drew w' → w'.cell? ⟨b14, 2, none⟩ = some (.int .i64 (sz : Int))) := Lib.hid fun w' hb => MC2.out _ (HI6.out.2.2.1.keep (hb.block b14 HI6.out.2.2.1.lt))
                have PIC : Hid (∀ w', Below w6.drew.heap.size w6.drew w' → Calls Tryz.prog 55 #[.int .u32 (hg : Int), .int .i64 (k : Int), .int .i64 (q : Int), .slice (some ⟨b18, 0, none⟩) 64 64] w' fun e w'' => ∃ v, e = .returned v ∧ PiV o9 v w'' ∧ Below w'.heap.size w' w'') := Lib.hid fun w' hb => by
                  have hbb : Below w6.heap.size w6 w' := ⟨hb.os, hb.tape, hb.output, hb.size, hb.block⟩
                  refine (piece_calls w' (gl_only HG.out (HI6.out.2.1.below hbb).own HBR.out.2.2) hg k q HBT.out.2 (by have := HKL.out; omega) HQ.out.1 (some ⟨b18, 0, none⟩) 64 (T (ba + 1 + k)) HX64.out ((HR18.out.below hbb).mono hbb.size) (Nat.le_refl _)).mono ?_
                  rintro e w'' ⟨A, c, p, rfl, h1, h2, h3, h4⟩
                  rw [← ho9] at h4 ⊢
                  exact ⟨_, rfl, ⟨A, c, p, rfl, h1, h2, h4⟩, h3⟩
                clear hlt6 hb6 hx64 hbb6 hinv HR hlf hq ho9 hok9 c2 k0
                go_wp2_with fail
                refine region_late 16 [15] (fun ix9 => ([.is (.pointer (some ⟨br, 0, none⟩)), .is (.pointer (some ⟨br, 0, none⟩)), .is (.pointer (some ⟨br, 1, none⟩)), .is (.int .u32 (hg : Int)), .is (.int .i64 (k : Int)), .is (.pointer (some ⟨b14, 2, none⟩)), .is (.int .i64 (sz : Int)), .is (.slice Aw wn cw), .is (.int .i64 (wn : Int)), .is (.int .i64 (lf : Int)), .is (.int .i64 (q : Int)), .is (.slice (some ⟨b18, 0, none⟩) 64 64), piVD o9, piVD o9, psVD o9, .is (.bool ok9)] : List VD).getD ix9 VD.any) [some 124, some 125, some 126, some 127, some 128, some 129, some 130, some 131, some 132, some 133, some 134, some 135, some 136, some 123, some 137, some 138] (by kernel_rfl) (by kernel_rfl) (by kernel_rfl) (by kernel_rfl) rfl (fun ii hii => getD_any _ ii hii) (fun ff hff => ?_) (fun ii hii hnF => ?_) ?_
                · simp only [List.mem_cons, List.not_mem_nil, or_false] at hff
                  rcases hff with rfl
                  · exact fstep_of rfl rfl (.bool ok9) rfl (fun aa ww cc w2 => by obtain ⟨Aq, cq, pq, e0, h1, h2, h3⟩ := cc.slot 13 123 (by kernel_rfl) rfl; rw [HOK9.out]; simp only [execOp, Act.eval]; go_simp)
                · match ii, hii, hnF with
                  | 0, _, _ => exact mstep_first rfl (mwant_none rfl) 0 (Or.inl rfl) (by kernel_rfl) (fun _ _ => rfl)
                  | 1, _, _ => exact mstep_pure rfl (mwant_none rfl) (fun aa ww cc => ⟨.pointer (some ⟨br, 0, none⟩), by have e0 : aa.tmps.getD 124 undef = .pointer (some ⟨br, 0, none⟩) := cc.slot 0 124 (by kernel_rfl) rfl; simp only [execOp, Act.eval]; go_simp, rfl⟩)
                  | 2, _, _ => exact mstep_pure rfl (mwant_none rfl) (fun aa ww cc => ⟨.pointer (some ⟨br, 1, none⟩), by have e0 : aa.tmps.getD 125 undef = .pointer (some ⟨br, 0, none⟩) := cc.slot 1 125 (by kernel_rfl) rfl; simp only [execOp, Act.eval]; go_simp, rfl⟩)
                  | 3, _, _ => exact mstep_pure rfl (mwant_none rfl) (fun aa ww cc => ⟨.int .u32 (hg : Int), by have e0 : aa.tmps.getD 126 undef = .pointer (some ⟨br, 1, none⟩) := cc.slot 2 126 (by kernel_rfl) rfl; have q := C1.out _ cc.below; simp only [execOp, Act.eval]; go_simp, rfl⟩)
                  | 4, _, _ => exact mstep_first rfl (mwant_none rfl) 17 (Or.inl rfl) (by kernel_rfl) (fun _ _ => rfl)
                  | 5, _, _ => exact mstep_pure rfl (mwant_none rfl) (fun aa ww cc => ⟨.pointer (some ⟨b14, 2, none⟩), by have e0 : aa.tmps.getD 14 undef = .pointer (some ⟨b14, 0, none⟩) := (cc.orig 14 (by kernel_rfl)).trans rfl; simp only [execOp, Act.eval]; go_simp, rfl⟩)
                  | 6, _, _ => exact mstep_pure rfl (mwant_none rfl) (fun aa ww cc => ⟨.int .i64 (sz : Int), by have e0 : aa.tmps.getD 129 undef = .pointer (some ⟨b14, 2, none⟩) := cc.slot 5 129 (by kernel_rfl) rfl; have q := C2.out _ cc.below; simp only [execOp, Act.eval]; go_simp, rfl⟩)
                  | 7, _, _ => exact mstep_first rfl (mwant_none rfl) 16 (Or.inl rfl) (by kernel_rfl) (fun _ _ => rfl)
                  | 8, _, _ => exact mstep_pure rfl (mwant_none rfl) (fun aa ww cc => ⟨.int .i64 (wn : Int), by have e0 : aa.tmps.getD 131 undef = .slice Aw wn cw := cc.slot 7 131 (by kernel_rfl) rfl; simp only [execOp, Act.eval]; go_simp, rfl⟩)
                  | 9, _, _ => exact mstep_pure rfl (mwant_none rfl) (fun aa ww cc => ⟨.int .i64 (lf : Int), by have e0 : aa.tmps.getD 130 undef = .int .i64 (sz : Int) := cc.slot 6 130 (by kernel_rfl) rfl; have e1 : aa.tmps.getD 132 undef = .int .i64 (wn : Int) := cc.slot 8 132 (by kernel_rfl) rfl; obtain ⟨q1, q2⟩ := QL.out; simp only [execOp, Act.eval]; go_simp, rfl⟩)
                  | 10, _, _ => exact mstep_pure rfl (mwant_none rfl) (fun aa ww cc => ⟨.int .i64 (q : Int), by have e0 : aa.tmps.getD 133 undef = .int .i64 (lf : Int) := cc.slot 9 133 (by kernel_rfl) rfl; obtain ⟨q1, q2⟩ := QM.out; simp only [execOp, Act.eval]; go_simp, rfl⟩)
                  | 11, _, _ => exact mstep_first rfl (mwant_none rfl) 18 (Or.inl rfl) (by kernel_rfl) (fun _ _ => rfl)
                  | 12, _, _ => exact mstep_call rfl (mwant_none rfl) _ _ _ rfl (enters_of Tryz.func55 (by kernel_rfl) rfl) (fun aa ww cc => by have e0 : aa.tmps.getD 127 undef = .int .u32 (hg : Int) := cc.slot 3 127 (by kernel_rfl) rfl; have e1 : aa.tmps.getD 128 undef = .int .i64 (k : Int) := cc.slot 4 128 (by kernel_rfl) rfl; have e2 : aa.tmps.getD 134 undef = .int .i64 (q : Int) := cc.slot 10 134 (by kernel_rfl) rfl; have e3 : aa.tmps.getD 135 undef = .slice (some ⟨b18, 0, none⟩) 64 64 := cc.slot 11 135 (by kernel_rfl) rfl; simp only [List.map_toArray, List.map_cons, List.map_nil, Act.eval, e0, e1, e2, e3]; exact PIC.out ww cc.below)
                  | 13, _, _ => exact mstep_copy rfl (mwant_none rfl) 136 (Or.inl rfl) 12 (by kernel_rfl) rfl rfl
                  | 14, _, _ => exact mstep_pure rfl (mwant_none rfl) (fun aa ww cc => by obtain ⟨Aq, cq, pq, e0, h1, h2, h3⟩ := cc.slot 13 123 (by kernel_rfl) rfl; exact ⟨.slice Aq pq.length cq, by simp only [execOp, Act.eval]; go_simp, ⟨Aq, cq, pq, rfl, h1, h2, h3⟩⟩)
                  | 15, _, hn => exact absurd (by decide) hn
                  | n + 16, h, _ => exact absurd h (by show ¬ (n + 16 < 16); omega)
                · intro VV w5 hlen hb5 hok
                  match VV, hlen with
                  | [v0, v1, v2, v3, v4, v5, v6, v7, v8, v9, v10, v11, v12, v13, v14, v15], _ =>
                    obtain rfl : v0 = .pointer (some ⟨br, 0, none⟩) := hok 0 124 rfl
                    obtain rfl : v1 = .pointer (some ⟨br, 0, none⟩) := hok 1 125 rfl
                    obtain rfl : v2 = .pointer (some ⟨br, 1, none⟩) := hok 2 126 rfl
                    obtain rfl : v3 = .int .u32 (hg : Int) := hok 3 127 rfl
                    obtain rfl : v4 = .int .i64 (k : Int) := hok 4 128 rfl
                    obtain rfl : v5 = .pointer (some ⟨b14, 2, none⟩) := hok 5 129 rfl
                    obtain rfl : v6 = .int .i64 (sz : Int) := hok 6 130 rfl
                    obtain rfl : v7 = .slice Aw wn cw := hok 7 131 rfl
                    obtain rfl : v8 = .int .i64 (wn : Int) := hok 8 132 rfl
                    obtain rfl : v9 = .int .i64 (lf : Int) := hok 9 133 rfl
                    obtain rfl : v10 = .int .i64 (q : Int) := hok 10 134 rfl
                    obtain rfl : v11 = .slice (some ⟨b18, 0, none⟩) 64 64 := hok 11 135 rfl
                    have p12 := hok 12 136 rfl
                    have p13 := hok 13 123 rfl
                    have p14 := hok 14 137 rfl
                    obtain rfl : v15 = .bool ok9 := hok 15 138 rfl
                    obtain ⟨A9, c9, pb, rfl, hpc, hpr, hps⟩ : PsV o9 v14 w5 := p14
                    have hb5' : Below w6.heap.size w6 w5 := ⟨hb5.os, hb5.tape, hb5.output, hb5.size, hb5.block⟩
                    have HI7 : Hid (OB w5 B0 Aw cw W ∧ LdS w w5 br (rcells bs hg hb false none 0 0 0 false S) ∧ Blk w5 b14 ms ∧ B0 ≤ w5.heap.size) := Lib.hid ⟨HI6.out.1.below hb5' (Nat.le_refl _), HI6.out.2.1.below hb5', HI6.out.2.2.1.below hb5' HI6.out.2.2.1.lt, Nat.le_trans HI6.out.2.2.2 hb5'.size⟩
                    have HPR := Lib.hid (And.intro hpc (And.intro hpr hps))
                    clear p12 p13 hok hb5 hb5' hpc hpr hps C1 C2 PIC HI6 QL QM
                    simp only [List.zip_cons_cons, List.zip_nil_right, putsL]
                    go_simp
                    refine tailok_copy 137 (.inl rfl) (.slice A9 pb.length c9) (by rfl) ?_
                    refine tailok_copy 138 (.inl rfl) (.bool ok9) (by rfl) ?_
                    unfold TailOK
                    refine (by assumption : ∀ (a : Act) (w : World), Code.wp _ _ _ a w → _) _ _ ?_
                    cases ok9 with
                    | false =>
                      have HRES := Lib.hid (HNO.out w5 HI7.out.2.1 (by
                        have h1 : o9 = none := by have := HOK9.out; cases o9 with
                          | none => rfl
                          | some y => cases this
                        rw [HLF.out, HGE.out.2, gather_none (by have := HKL.out; omega) (by rw [← HWN.out]; exact HLT.out) (by rw [← HQ.out.2, ← HO9.out]; exact h1)]))
                      clear HNO
                      go_wp2_with fail
                      go_ret
                      exact HRES.out
                    | true =>
                    obtain ⟨x9, hx9⟩ := Option.isSome_iff_exists.1 HOK9.out.symm
                    have hpx := HPR.out.2.2 x9 hx9
                    have HX9 : Hid (o9 = some pb ∧ pb.length = q) := Lib.hid ⟨by rw [hx9, hpx], by rw [hpx]; exact pieceF_len (by rw [← HO9.out]; exact hx9) HX64.out HQ.out.1⟩
                    clear hx9 hpx
                    go_wp2_with (((with_reducible show wpList _ _ _ (Oper.mk _ (Op.call (Call.mk (Callee.builtin Builtin.append) _ _)) _ _ _ _ :: _) _ _); refine wpList_app_bytes _ rfl _ _ rfl B0 Aw cw W wn rfl HWN.out HI7.out.1 A9 c9 pb pb.length (by rfl) rfl HPR.out.2.1 (by have h1 := HX9.out.2; have h2 := HQ.out.1; have h3 := HWN.out; have h4 := HLT.out; omega) HI7.out.2.2.2 ?_))
                    intro A10 c10 W10 w10 hl10 ho10 hg10 hx10
                    have hgr : ∀ b, b < B0 → Aw.map (·.block) ≠ some b := fun b hb e => by have := HI7.out.1.lt b e; omega
                    have HNX : Hid (OB w10 B0 A10 c10 W10 ∧ LdS w w10 br (rcells bs hg hb false none 0 0 0 false S) ∧ Blk w10 b14 ms ∧ B0 ≤ w10.heap.size ∧ W10.length = min (54 * (k + 1)) sz ∧ gatherF T hg ba sz 10 0 [] = gatherF T hg ba sz (10 - (k + 1)) (k + 1) W10) := Lib.hid (by
                      have h2 := HI7.out.2.1
                      refine ⟨ho10, ⟨⟨hg10.os.trans h2.own.os, hg10.tape.trans h2.own.tape, hg10.output.trans h2.own.output, Nat.le_trans h2.own.size hg10.size, fun j hj hn => (hg10.block j (Nat.lt_of_lt_of_le hj h2.own.size) (fun e => hgr j (by have := HB0'.out.2.2.1; omega) e.symm)).trans (h2.own.block j hj hn)⟩, h2.blk.grown hg10 (hgr br HB0'.out.2.1)⟩, HI7.out.2.2.1.grown hg10 (hgr b14 HB0'.out.1), Nat.le_trans HI7.out.2.2.2 hg10.size, ?_, ?_⟩
                      · rw [hl10.out, List.length_append, HX9.out.2, HQ.out.2]
                        have h3 := HGE.out.1
                        have h4 := HKL.out
                        omega
                      · rw [HGE.out.2, hl10.out]
                        have h5 := gather_some (T := T) (g := hg) (at_ := ba) (f := 10 - k) (k := k) (size := sz) (w := W) (p := pb) (by have := HKL.out; omega) (by rw [← HWN.out]; exact HLT.out) (by rw [← HQ.out.2, ← HO9.out]; exact HX9.out.1)
                        rw [h5, show 10 - k - 1 = 10 - (k + 1) by omega])
                    clear hl10 ho10 hg10 hx10 hgr HI7
                    go_wp2_with fail
                    go_roundw
                    case rel => exact ⟨k + 1, A10, c10, W10, HKL.out, by go_num, rfl, HNX⟩
                    case measure => simp [intOf]; omega
              · have hlt' : ¬ (wn : Int) < (sz : Int) := by omega
                have HGA : Hid (gatherF T hg ba sz 10 0 [] = some W) := Lib.hid (by rw [hinv.out.2.2.2.2.2, gather_done (by rw [← HWN.out]; omega)])
                have HW5 : Hid (wn ≤ 512 ∧ wn ≤ cw ∧ 4 ≤ wn) := Lib.hid ⟨by have h1 := hinv.out.2.2.2.2.1; rw [← HWN.out] at h1; omega, by have := hinv.out.1.len; rw [← HWN.out] at this; exact this, by have := HSZ.out.2.2; omega⟩
                have HCK : Hid (Calls Tryz.prog 16 #[.agg ms.toArray, .slice Aw wn cw] wr (RetCk wr (imgOk shaF okPF m W))) := Lib.hid (by
                  rw [HMS.out.1]
                  exact icheck_calls wr (gl_only HG.out hinv.out.2.1.own HBR.out.2.2) m HMS.out.2 Aw wn cw W HWN.out hinv.out.1.rb HW5.out.2.1 (by have := HW5.out.1; omega))
                clear hlt k0
                go_wp2_with (((with_reducible show wpList _ _ _ (Oper.mk (some 144) (Op.load 47 _) _ _ _ _ :: _) _ _); refine wpList_loadS sMan rfl _ rfl b14 ms rfl hinv.out.2.2.1 HM35.out.1 ?_))
                go_at_call 16
                with_reducible refine HCK.out.mono ?_
                rintro e W4 ⟨ev, rfl, hev, hb4⟩
                have HI4 : Hid (OB W4 B0 Aw cw W ∧ LdS w W4 br (rcells bs hg hb false none 0 0 0 false S) ∧ Blk W4 b14 ms) := Lib.hid ⟨hinv.out.1.below hb4 (Nat.le_refl _), hinv.out.2.1.below hb4, hinv.out.2.2.1.below hb4 hinv.out.2.2.1.lt⟩
                clear hb4 HCK hinv c2
                rcases hev with ⟨hok, rfl⟩ | ⟨hok, ge, ce, rfl, _⟩
                · have HL2 : Hid (loadF shaF okPF T = ⟨hg, hb, some (W, m.ver)⟩) := Lib.hid (by rw [HLF.out, HGA.out]; simp only; rw [if_pos hok])
                  obtain ⟨vr, hvr⟩ : ∃ vr, vr = m.ver := ⟨_, rfl⟩
                  have MC1 : Hid (∀ w', Blk w' b14 ms → w'.cell? ⟨b14, 1, none⟩ = some (.int .u32 (vr : Int))) := Lib.hid fun w' hb => hb.cell (by rw [HMS.out.1, hvr]; rfl)
                  obtain ⟨RC, hRC⟩ : ∃ RC, RC = rcells bs hg hb false none 0 0 0 false S := ⟨_, rfl⟩
                  have HRC : Hid (RC.length = S.length + 7) := Lib.hid (by rw [hRC]; rfl)
                  have HRCE := Lib.hid hRC
                  have HJ0 : Hid (LdS w W4.drew br (St3 8 11 14 RC (.bool true) (.slice Aw wn cw) (.int .u32 (vr : Int)) (fun _ => false)) ∧ Blk W4.drew b14 ms ∧ W4.grownBy W4.drew (some br)) := Lib.hid ⟨by
                    have h := HI4.out.2.1
                    rw [← hRC] at h
                    exact ⟨⟨h.own.os, h.own.tape, h.own.output, h.own.size, h.own.block⟩, h.blk⟩, HI4.out.2.2, ⟨rfl, rfl, rfl, Nat.le_refl _, fun _ _ _ => rfl⟩⟩
                  have HVR := Lib.hid hvr
                  clear hok hvr hRC HLF
                  go_wp2_with fail
                  refine region_vals [.pointer (some ⟨br, 0, none⟩), .pointer (some ⟨br, 0, none⟩), .pointer (some ⟨br, 0, none⟩), .slice Aw wn cw, .pointer (some ⟨b14, 1, none⟩), .int .u32 (vr : Int), .pointer (some ⟨br, 0, none⟩), .pointer (some ⟨br, 3, none⟩), undef, .pointer (some ⟨br, 0, none⟩), .pointer (some ⟨br, 4, none⟩), undef, .pointer (some ⟨br, 0, none⟩), .pointer (some ⟨br, 5, none⟩), undef] [some 148, some 149, some 150, some 151, some 152, some 153, some 154, some 155, none, some 156, some 157, none, some 158, some 159, none] (fun LL ww => LdS w ww br (St3 8 11 14 RC (.bool true) (.slice Aw wn cw) (.int .u32 (vr : Int)) LL) ∧ Blk ww b14 ms ∧ W4.grownBy ww (some br)) (by kernel_rfl) (by kernel_rfl) (by kernel_rfl) rfl rfl HJ0.out (fun ii hii => ?_) ?_
                  · match ii, hii with
                    | 0, _ => exact vstep_first rfl (vwant_none rfl) (fun LL ww hj => by rw [St3_pure (by decide) (by decide) (by decide)]; exact hj) 0 (Or.inl rfl) (by kernel_rfl) rfl
                    | 1, _ => exact vstep_first rfl (vwant_none rfl) (fun LL ww hj => by rw [St3_pure (by decide) (by decide) (by decide)]; exact hj) 0 (Or.inl rfl) (by kernel_rfl) rfl
                    | 2, _ => exact vstep_first rfl (vwant_none rfl) (fun LL ww hj => by rw [St3_pure (by decide) (by decide) (by decide)]; exact hj) 0 (Or.inl rfl) (by kernel_rfl) rfl
                    | 3, _ => exact vstep_first rfl (vwant_none rfl) (fun LL ww hj => by rw [St3_pure (by decide) (by decide) (by decide)]; exact hj) 16 (Or.inl rfl) (by kernel_rfl) rfl
                    | 4, _ => exact vstep_pure rfl (vwant_none rfl) (fun LL ww hj => by rw [St3_pure (by decide) (by decide) (by decide)]; exact hj) (fun LL aa ww cc => ⟨.pointer (some ⟨b14, 1, none⟩), by have e0 : aa.tmps.getD 14 undef = .pointer (some ⟨b14, 0, none⟩) := (cc.orig 14 (by kernel_rfl)).trans rfl; simp only [execOp, Act.eval]; go_simp, rfl⟩)
                    | 5, _ => exact vstep_pure rfl (vwant_none rfl) (fun LL ww hj => by rw [St3_pure (by decide) (by decide) (by decide)]; exact hj) (fun LL aa ww cc => ⟨.int .u32 (vr : Int), by have e0 : aa.tmps.getD 152 undef = .pointer (some ⟨b14, 1, none⟩) := cc.slot 4 152 (by kernel_rfl) rfl; have q := MC1.out _ cc.world.2.1; simp only [execOp, Act.eval]; go_simp, rfl⟩)
                    | 6, _ => exact vstep_pure rfl (vwant_none rfl) (fun LL ww hj => by rw [St3_pure (by decide) (by decide) (by decide)]; exact hj) (fun LL aa ww cc => ⟨.pointer (some ⟨br, 0, none⟩), by have e0 : aa.tmps.getD 148 undef = .pointer (some ⟨br, 0, none⟩) := cc.slot 0 148 (by kernel_rfl) rfl; simp only [execOp, Act.eval]; go_simp, rfl⟩)
                    | 7, _ => exact vstep_pure rfl (vwant_none rfl) (fun LL ww hj => by rw [St3_pure (by decide) (by decide) (by decide)]; exact hj) (fun LL aa ww cc => ⟨.pointer (some ⟨br, 3, none⟩), by have e0 : aa.tmps.getD 154 undef = .pointer (some ⟨br, 0, none⟩) := cc.slot 6 154 (by kernel_rfl) rfl; simp only [execOp, Act.eval]; go_simp, rfl⟩)
                    | 8, _ => exact vstep_storeB 4 155 (.const (.bool true)) br 3 (.bool true) (by kernel_rfl) rfl rfl (vwant_none rfl) rfl (fun LL aa ww cc => cc.slot 7 155 (by kernel_rfl) rfl) (fun LL aa ww cc => rfl) (fun LL ww hj hf => ⟨_, by rw [St3_len, HRC.out]; omega, hj.1.blk, fun w9 hb9 hg9 => by rw [St3_3 (by decide) (by decide) hf] at hb9; exact ⟨hj.1.sto hb9 hg9, hj.2.1.grown hg9 (fun e => HN14.out.1 (by injection e with e; exact e.symm)), hj.2.2.trans hg9⟩⟩) rfl
                    | 9, _ => exact vstep_pure rfl (vwant_none rfl) (fun LL ww hj => by rw [St3_pure (by decide) (by decide) (by decide)]; exact hj) (fun LL aa ww cc => ⟨.pointer (some ⟨br, 0, none⟩), by have e0 : aa.tmps.getD 149 undef = .pointer (some ⟨br, 0, none⟩) := cc.slot 1 149 (by kernel_rfl) rfl; simp only [execOp, Act.eval]; go_simp, rfl⟩)
                    | 10, _ => exact vstep_pure rfl (vwant_none rfl) (fun LL ww hj => by rw [St3_pure (by decide) (by decide) (by decide)]; exact hj) (fun LL aa ww cc => ⟨.pointer (some ⟨br, 4, none⟩), by have e0 : aa.tmps.getD 156 undef = .pointer (some ⟨br, 0, none⟩) := cc.slot 9 156 (by kernel_rfl) rfl; simp only [execOp, Act.eval]; go_simp, rfl⟩)
                    | 11, _ => exact vstep_storeB 36 157 (.tmp 151) br 4 (.slice Aw wn cw) (by kernel_rfl) rfl rfl (vwant_none rfl) rfl (fun LL aa ww cc => cc.slot 10 157 (by kernel_rfl) rfl) (fun LL aa ww cc => cc.slot 3 151 (by kernel_rfl) rfl) (fun LL ww hj hf => ⟨_, by rw [St3_len, HRC.out]; omega, hj.1.blk, fun w9 hb9 hg9 => by rw [St3_4 (by decide) (by decide) hf] at hb9; exact ⟨hj.1.sto hb9 hg9, hj.2.1.grown hg9 (fun e => HN14.out.1 (by injection e with e; exact e.symm)), hj.2.2.trans hg9⟩⟩) rfl
                    | 12, _ => exact vstep_pure rfl (vwant_none rfl) (fun LL ww hj => by rw [St3_pure (by decide) (by decide) (by decide)]; exact hj) (fun LL aa ww cc => ⟨.pointer (some ⟨br, 0, none⟩), by have e0 : aa.tmps.getD 150 undef = .pointer (some ⟨br, 0, none⟩) := cc.slot 2 150 (by kernel_rfl) rfl; simp only [execOp, Act.eval]; go_simp, rfl⟩)
                    | 13, _ => exact vstep_pure rfl (vwant_none rfl) (fun LL ww hj => by rw [St3_pure (by decide) (by decide) (by decide)]; exact hj) (fun LL aa ww cc => ⟨.pointer (some ⟨br, 5, none⟩), by have e0 : aa.tmps.getD 158 undef = .pointer (some ⟨br, 0, none⟩) := cc.slot 12 158 (by kernel_rfl) rfl; simp only [execOp, Act.eval]; go_simp, rfl⟩)
                    | 14, _ => exact vstep_storeB 44 159 (.tmp 153) br 5 (.int .u32 (vr : Int)) (by kernel_rfl) rfl rfl (vwant_none rfl) rfl (fun LL aa ww cc => cc.slot 13 159 (by kernel_rfl) rfl) (fun LL aa ww cc => cc.slot 5 153 (by kernel_rfl) rfl) (fun LL ww hj hf => ⟨_, by rw [St3_len, HRC.out]; omega, hj.1.blk, fun w9 hb9 hg9 => by rw [St3_5 (by decide) (by decide) hf] at hb9; exact ⟨hj.1.sto hb9 hg9, hj.2.1.grown hg9 (fun e => HN14.out.1 (by injection e with e; exact e.symm)), hj.2.2.trans hg9⟩⟩) rfl
                    | n + 15, h => exact absurd h (by show ¬ (n + 15 < 15); omega)
                  · intro L9 w9 hall hJ
                    have HS9 : Hid (LdS w w9 br (rcells bs hg hb true Aw wn cw vr false S)) := Lib.hid (by
                      have h := hJ.1
                      have e : St3 8 11 14 RC (.bool true) (.slice Aw wn cw) (.int .u32 (vr : Int)) L9 = rcells bs hg hb true Aw wn cw vr false S := by
                        unfold St3
                        rw [hall 8 (by decide), hall 11 (by decide), hall 14 (by decide), HRCE.out]
                        rfl
                      rw [e] at h
                      exact h)
                    have HRES : Hid (RetLd w br bs (loadF shaF okPF T) S (.returned (.int .i64 0)) w9) := Lib.hid (by
                      rw [HL2.out]
                      refine ⟨rfl, HS9.out.own, _, HS9.out.blk, ?_⟩
                      have ho : OB w9 B0 Aw cw W := HI4.out.1.kept hJ.2.2 (.inr fun e => by have := HI4.out.1.lt br e; have := HB0'.out.2.1; omega)
                      exact ⟨Aw, cw, by rw [HWN.out, HVR.out], by have := ho.len; exact this, ho.rb, fun g hg' => by have := HI4.out.1.lt g hg'; have := HB0'.out; exact ⟨by omega, by omega⟩⟩)
                    clear hall hJ HJ0 MC1
                    simp only [List.zip_cons_cons, List.zip_nil_right, putsL]
                    go_simp
                    go_wp2_with fail
                    go_ret
                    exact HRES.out
                · have HRES := Lib.hid (HNO.out W4 HI4.out.2.1 (by rw [HLF.out, HGA.out]; simp only; rw [if_neg (by rw [hok]; decide)]))
                  unfold flt
                  clear hok HNO
                  go_wp2_with fail
                  go_ret
                  exact HRES.out
          · have hp0' : (pt != 0) = true := by simpa using hp0
            have HRES := Lib.hid (HNO.out w5 HS5.out (by unfold loadF; rw [HHS.out]; rw [if_neg HNZ.out]; simp only; rw [← HBAE.out, ← HOM.out]; simp only; rw [if_pos (by rw [← HPT.out]; exact hp0)]))
            clear HNO hp0
            go_wp2_with fail
            go_ret
            exact HRES.out
end Go.Proofs.YtjfpoahmjgeogaaGreatDoor
/- loader: Open. -/
namespace Go.Proofs.YtjfpoahmjgeogaaGreatDoor
open Go.RowKit Nac Nac.Img Nac.Sha Nac.Crc
theorem sReg : SInfo 89 43 := ⟨by kernel_rfl, _, Tryz.underlying89, rfl⟩
def zStg : List Value := scells zMan none 0 0
def zReg : List Value := .pointer none :: .int .u32 0 :: .int .i64 0 :: .bool false :: .slice none 0 0 :: .int .u32 0 :: .bool false :: zStg
theorem infoRg : (Tryz.prog.info? 89).map (fun i => (i.zero, i.size, i.bytes)) = some (some (.agg zReg.toArray), 43, 144) := by kernel_rfl
theorem made_reg : (madeCells (Value.agg zReg.toArray).cells (1 * 43)).toList = zReg := by kernel_rfl
theorem build_reg (w : World) (bs : Nat) : (Instr.build 89 #[(0, .pointer (some ⟨bs, 0, none⟩)), (2, .int .i64 1)]).run Tryz.prog w = .ok (.agg (rcells bs 0 1 false none 0 0 0 false zStg).toArray) w := run_build w _ _ _ (by kernel_rfl)
theorem rcells_one {bs g bk n c v : Nat} {has stg : Bool} {A : Option Addr} {S : List Value} (h : ∀ v ∈ S, v.oneCell' = true) : ∀ x ∈ rcells bs g bk has A n c v stg S, x.oneCell' = true := fun x hx => by
  simp only [rcells, List.mem_cons] at hx
  rcases hx with rfl | rfl | rfl | rfl | rfl | rfl | rfl | hx
  · rfl
  · rfl
  · rfl
  · rfl
  · rfl
  · rfl
  · rfl
  · exact h x hx
def lcells (br : Nat) (lg : Value) (room : Int) : List Value := [.slice (some ⟨br, 0, none⟩) 1 1, lg, .int .i64 room, .bool false]
structure LdM (w : World) (B bl br bg bs bq : Nat) (Ae : Option Addr) (ce bd : Nat) (r : Reg) (stg : Bool) (S : List Value) (n : Nat) : Prop where
  lb : Blk w bl (lcells br (.pointer (some ⟨bg, 0, none⟩)) 16)
  rb : ∃ cs, Blk w br cs ∧ RegC w B br bs r stg S cs
  log : LogI w bg bq Ae ce n
  ps : PartM w bs bd 0 24
  pq : PartM w bq bd 24 16
  old : B ≤ bl ∧ B ≤ br ∧ B ≤ bg ∧ B ≤ bs ∧ B ≤ bq ∧ ∀ g, Ae.map (·.block) = some g → B ≤ g
  ne : bl ≠ br ∧ bl ≠ bg ∧ br ≠ bg ∧ bs ≠ bl ∧ bs ≠ br ∧ bs ≠ bg ∧ bq ≠ bl ∧ bq ≠ br ∧ bq ≠ bg
  nae : ∀ g, Ae.map (·.block) = some g → g ≠ bl ∧ g ≠ br ∧ g ≠ bg ∧ g ≠ bs ∧ g ≠ bq
def RetOp (w : World) (bd : Nat) (r : Reg) (n : Nat) (e : Ending) (w' : World) : Prop := ∃ (bl br bg bs bq : Nat) (Ae : Option Addr) (ce : Nat), e = .returned (.tuple #[.pointer (some ⟨bl, 0, none⟩), .int .i64 0]) ∧ LdM w' w.heap.size bl br bg bs bq Ae ce bd r false zStg n ∧ Below w.heap.size w w'
theorem regc_base {w : World} {B B' br bs : Nat} {r : Reg} {stg : Bool} {S cs : List Value} (h : RegC w B br bs r stg S cs) (hB : B' ≤ B) : RegC w B' br bs r stg S cs := by
  unfold RegC at h ⊢
  cases hi : r.img with
  | none => rw [hi] at h; exact h
  | some x =>
  obtain ⟨b, v⟩ := x
  rw [hi] at h
  obtain ⟨A, c, h1, h2, h3, h4⟩ := h
  exact ⟨A, c, h1, h2, h3, fun g hg => ⟨Nat.le_trans hB (h4 g hg).1, (h4 g hg).2⟩⟩
theorem regc_below {w w' : World} {B br bs : Nat} {r : Reg} {stg : Bool} {S cs : List Value} (h : RegC w B br bs r stg S cs) (hb : Below w.heap.size w w') : RegC w' B br bs r stg S cs := by
  unfold RegC at h ⊢
  cases hi : r.img with
  | none => rw [hi] at h; exact h
  | some x =>
  obtain ⟨b, v⟩ := x
  rw [hi] at h
  obtain ⟨A, c, h1, h2, h3, h4⟩ := h
  exact ⟨A, c, h1, h2, (h3.below hb).mono hb.size, h4⟩
theorem regc_grown {w w' : World} {B br bs b : Nat} {r : Reg} {stg : Bool} {S cs : List Value} (h : RegC w B br bs r stg S cs) (hg : w.grownBy w' (some b)) (hb : b < B) : RegC w' B br bs r stg S cs := by
  unfold RegC at h ⊢
  cases hi : r.img with
  | none => rw [hi] at h; exact h
  | some x =>
  obtain ⟨bb, v⟩ := x
  rw [hi] at h
  obtain ⟨A, c, h1, h2, h3, h4⟩ := h
  refine ⟨A, c, h1, h2, fun hne => ?_, h4⟩
  obtain ⟨g, o, hA, hl, hc⟩ := h3 hne
  have hgB := (h4 g (by rw [hA]; rfl)).1
  refine ⟨g, o, hA, Nat.lt_of_lt_of_le hl hg.size, fun j hj => ?_⟩
  rw [← hc j hj]
  unfold World.cell?
  rw [hg.block g hl (by simp; omega)]
structure OpS (w0 w : World) (bl br bs : Nat) (cs : List Value) : Prop where
  lb : Blk w bl (lcells br (.pointer none) 0)
  rb : Blk w br cs
  bel : Below w0.heap.size w0 w
  lt : w0.heap.size ≤ bl ∧ w0.heap.size ≤ br ∧ bl ≠ br
theorem OpS.below {w0 w w' : World} {bl br bs : Nat} {cs : List Value} (h : OpS w0 w bl br bs cs) (hb : Below w.heap.size w w') : OpS w0 w' bl br bs cs := ⟨h.lb.below hb h.lb.lt, h.rb.below hb h.rb.lt, h.bel.trans (hb.mono h.bel.size), h.lt⟩
theorem OpS.sto {w0 w w' : World} {bl br bs : Nat} {cs cs' : List Value} (h : OpS w0 w bl br bs cs) (hb : Blk w' br cs') (hg : w.grownBy w' (some br)) : OpS w0 w' bl br bs cs' := ⟨h.lb.grown hg (fun e => h.lt.2.2 (by injection e with e; exact e.symm)), hb, h.bel.grown hg h.bel.size (fun j e => by injection e with e; have := h.lt.2.1; omega), h.lt⟩
set_option maxRecDepth 100000 in
set_option maxHeartbeats 16000000 in
theorem lopen_calls (w : World) (hG : Gl w) (bp bd : Nat) (O : Nat → Prop) (d : Dk) (hp : PartM w bp bd 0 40) (hd : DkM w bd O d) (hoff : d.off = false) (hpd : d.pend = []) :
    Calls Tryz.prog 6 #[.pointer (some ⟨bp, 0, none⟩), .int .i64 1] w (RetOp w bd (loadF shaF okPF (secAt d.secs)) (logAt d.secs).length) := by
  have HG := Lib.hid hG
  have HP := Lib.hid hp
  have HD := Lib.hid (And.intro hd (And.intro hoff hpd))
  obtain ⟨r, hr⟩ : ∃ r, r = loadF shaF okPF (secAt d.secs) := ⟨_, rfl⟩
  have HR := Lib.hid hr
  rw [← hr]
  have HSZ : Hid (∀ w1, Below w.heap.size w w1 → Calls Tryz.prog 26 #[.pointer (some ⟨bp, 0, none⟩)] w1 (fun e w' => e = .returned (.int .i64 40) ∧ w' = w1)) := Lib.hid fun w1 hb => esize_calls w1 bp bd 0 40 (Blk.below hp hb (Blk.lt hp))
  have HPT : Hid (∀ (w1 : World) (f c : Nat), Below w.heap.size w w1 → 1 ≤ c → f + c ≤ 40 → Calls Tryz.prog 27 #[.pointer (some ⟨bp, 0, none⟩), .agg #[.int .i64 (f : Int), .int .i64 (c : Int)]] w1 (RetNewP w1 bd (0 + f) c)) := Lib.hid fun w1 f c hb h1 h2 => epart_calls w1 bp bd 0 40 f c (Blk.below hp hb (Blk.lt hp)) h1 h2 (by decide) (by decide)
  obtain ⟨zr, hzr⟩ : ∃ zr, zr = zReg := ⟨_, rfl⟩
  have HZR : Hid ((madeCells (Value.agg zReg.toArray).cells (1 * 43)).toList = zr ∧ zr.length = 43) := Lib.hid (by rw [hzr]; exact ⟨made_reg, rfl⟩)
  obtain ⟨S, hS⟩ : ∃ S, S = zStg := ⟨_, rfl⟩
  have HS : Hid (S = zStg ∧ S.length = 36 ∧ ∀ v ∈ S, v.oneCell' = true) := Lib.hid (by rw [hS]; exact ⟨rfl, rfl, scells_one _ _ _ _⟩)
  have HBR : Hid (∀ w bs, (Instr.build 89 #[(0, .pointer (some ⟨bs, 0, none⟩)), (2, .int .i64 1)]).run Tryz.prog w = .ok (.agg (rcells bs 0 1 false none 0 0 0 false S).toArray) w) := Lib.hid fun w bs => by rw [hS]; exact build_reg w bs
  clear hr hzr hS hG hp hd hoff hpd
  go_enter Tryz.func6, Tryz.ntmps6
  go_wp2_with fail
  with_reducible refine (HSZ.out w (Below.refl _ _)).mono ?_
  rintro e w0 ⟨rfl, rfl⟩
  go_wp2_with (((with_reducible show wpList _ _ _ (Oper.mk _ (Op.makeSlice 81 _ _) _ _ _ _ :: _) _ _); refine wpList_makeC Tryz.underlying81 infoRg rfl _ _ rfl 1 (by decide) (by decide) zr HZR.out.1 rfl rfl ?_))
  intro w1 hb1 hg1 hs1
  obtain ⟨br, hbr⟩ : ∃ b, b = w0.heap.size := ⟨_, rfl⟩
  have HBRE := Lib.hid hbr
  rw [← hbr] at hb1 ⊢
  have HB1 := Lib.hid hb1
  have HE1 : Hid (Below w0.heap.size w0 w1) := Lib.hid (gbelow hg1)
  have HZ1 := Lib.hid hs1
  clear hb1 hg1 hs1 hbr
  go_wp2_with (((with_reducible show wpList _ _ _ (Oper.mk _ (Op.box 84 _) _ _ _ _ :: _) _ _); refine wpList_boxS rfl _ rfl (lcells br (.pointer none) 0) (by rfl) ?_))
  intro w2 hb2 hg2 hs2
  obtain ⟨bl, hbl⟩ : ∃ b, b = w1.heap.size := ⟨_, rfl⟩
  have HBLE := Lib.hid hbl
  rw [← hbl] at hb2 ⊢
  have HO2 : Hid (OpS w0 w2 bl br 0 zr) := Lib.hid ⟨hb2, HB1.out.grown hg2 (by simp), HE1.out.trans ((gbelow hg2).mono HE1.out.size), by have := HZ1.out; have := HBRE.out; omega⟩
  have k0 : w2.cell? ⟨bl, 0, none⟩ = some (.slice (some ⟨br, 0, none⟩) 1 1) := hb2.cell rfl
  clear hb2 hg2 hs2 hbl HB1 HE1
  go_wp2_with fail
  clear k0
  go_loopw [37] (fun s37 wr => (s37 = .int .i64 0 ∧ Hid (OpS w0 wr bl br 0 zr)) ∨ (s37 = .int .i64 1 ∧ Hid (∃ bs cs, OpS w0 wr bl br 0 cs ∧ PartM wr bs bd 0 24 ∧ w0.heap.size ≤ bs ∧ bs ≠ bl ∧ bs ≠ br ∧ ∃ B1, bl < B1 ∧ w0.heap.size ≤ B1 ∧ RegC wr B1 br bs r false S cs))) (fun s37 _ => 1 - (intOf s37).toNat)
  case atStart => exact .inl ⟨rfl, HO2⟩
  case round =>
    clear HO2
    rcases hrel with ⟨rfl, ho⟩ | ⟨rfl, ho⟩
    · have HPA : Hid (Calls Tryz.prog 27 #[.pointer (some ⟨bp, 0, none⟩), .agg #[.int .i64 0, .int .i64 24]] wr (RetNewP wr bd 0 24)) := Lib.hid (HPT.out wr 0 24 ho.out.bel (by decide) (by decide))
      go_wp2_with fail
      go_at_call 27
      with_reducible refine HPA.out.mono ?_
      rintro e w3 ⟨bs, rfl, hps, hlt, hb3⟩
      have HO3 : Hid (OpS w0 w3 bl br 0 zr) := Lib.hid (ho.out.below hb3)
      have HPS : Hid (PartM w3 bs bd 0 24 ∧ w0.heap.size ≤ bs ∧ bs ≠ bl ∧ bs ≠ br) := Lib.hid ⟨hps, Nat.le_trans ho.out.bel.size hlt, fun e => by have := ho.out.lb.lt; omega, fun e => by have := ho.out.rb.lt; omega⟩
      have k0 : w3.cell? ⟨bl, 0, none⟩ = some (.slice (some ⟨br, 0, none⟩) 1 1) := HO3.out.lb.cell rfl
      obtain ⟨RC, hRC⟩ : ∃ RC, RC = rcells bs 0 1 false none 0 0 0 false S := ⟨_, rfl⟩
      have HRC : Hid (RC.length = 43 ∧ ∀ v ∈ RC, v.oneCell' = true) := Lib.hid (by rw [hRC]; exact ⟨by show S.length + 7 = 43; rw [HS.out.2.1], rcells_one HS.out.2.2⟩)
      have HBC : Hid (∀ w, (Instr.build 89 #[(0, .pointer (some ⟨bs, 0, none⟩)), (2, .int .i64 1)]).run Tryz.prog w = .ok (.agg RC.toArray) w) := Lib.hid fun w => by rw [hRC]; exact HBR.out w bs
      have HRCE := Lib.hid hRC
      clear hps hlt hb3 hRC ho HPA
      go_wp2_with (first | ((with_reducible show wpList _ _ _ (Oper.mk _ (Op.build 89 _) _ _ _ _ :: _) _ _); refine wpList_buildS rfl _ _ rfl #[(0, .pointer (some ⟨bs, 0, none⟩)), (2, .int .i64 1)] RC.toArray (by simp only [List.map_toArray, List.map_cons, List.map_nil]; rfl) (HBC.out _) ?_) | ((with_reducible show wpList _ _ _ (Oper.mk _ (Op.store 89 _ _) _ _ _ _ :: _) _ _); refine wpList_storeS sReg rfl _ _ rfl br _ RC rfl rfl HO3.out.rb HZR.out.2 HRC.out.1 HRC.out.2 ?_))
      intro w4 hb4 hg4
      have HO4 : Hid (OpS w0 w4 bl br 0 RC) := Lib.hid (HO3.out.sto hb4 hg4)
      have HPS4 : Hid (PartM w4 bs bd 0 24) := Lib.hid (Blk.grown HPS.out.1 hg4 (fun e => HPS.out.2.2.2 (by injection e with e; exact e.symm)))
      have k0 : w4.cell? ⟨bl, 0, none⟩ = some (.slice (some ⟨br, 0, none⟩) 1 1) := HO4.out.lb.cell rfl
      have HLC : Hid (Calls Tryz.prog 28 #[.pointer (some ⟨br, 0, none⟩), .int .i64 0] w4 (RetLd w4 br bs r S)) := Lib.hid (by
        rw [HR.out]
        have hgl := HG.out.below' HO4.out.bel
        refine load_calls w4 hgl br bs bd O d S HPS4.out (HD.out.1.below HO4.out.bel) HD.out.2.1 HD.out.2.2 (fun e => by have := HD.out.1.own br e; have := HO4.out.lt.2.1; omega) HPS.out.2.2.2 (by have := HG.out.size; have := HO4.out.lt.2.1; omega) (by rw [← HRCE.out]; exact HO4.out.rb))
      clear hb4 hg4 HO3 HBC
      go_wp2_with fail
      go_at_call 28
      with_reducible refine HLC.out.mono ?_
      rintro e w5 ⟨rfl, hg5, cs, hb5, hrc⟩
      have HNX : Hid (∃ bs cs, OpS w0 w5 bl br 0 cs ∧ PartM w5 bs bd 0 24 ∧ w0.heap.size ≤ bs ∧ bs ≠ bl ∧ bs ≠ br ∧ ∃ B1, bl < B1 ∧ w0.heap.size ≤ B1 ∧ RegC w5 B1 br bs r false S cs) := Lib.hid ⟨bs, cs, HO4.out.sto hb5 hg5, Blk.grown HPS4.out hg5 (fun e => HPS.out.2.2.2 (by injection e with e; exact e.symm)), HPS.out.2.1, HPS.out.2.2.1, HPS.out.2.2.2, _, HO4.out.lb.lt, HO4.out.bel.size, hrc⟩
      clear hg5 hb5 hrc HLC HO4 HPS4 k0
      go_wp2_with fail
      go_roundw
      case rel => exact .inr ⟨rfl, HNX⟩
      case measure => simp [intOf]
    · obtain ⟨bs, cs, hop, hps, hbs, n1, n2, B1, hB1, hB2, hrc⟩ := ho.out
      have HOP := Lib.hid hop
      have HPS := Lib.hid (And.intro hps (And.intro hbs (And.intro n1 (And.intro n2 (And.intro hB1 (And.intro hB2 hrc))))))
      have HSZ' := Lib.hid (HSZ.out wr hop.bel)
      clear hop hps hbs n1 n2 hB1 hB2 hrc ho
      go_wp2_with fail
      go_at_call 26
      with_reducible refine HSZ'.out.mono ?_
      rintro e wr' ⟨rfl, rfl⟩
      clear HSZ'
      go_wp2_with (((with_reducible show wpList _ _ _ (Oper.mk _ (Op.store 3 _ _) _ _ _ _ :: _) _ _); refine wpList_storeB rfl 3 _ _ rfl bl 2 _ (.int .i64 16) (by show 2 < 4; decide) rfl (by rfl) HOP.out.lb (by kernel_rfl) rfl ?_))
      intro w6 hb6 hg6 hs6
      have HLB6 : Hid (Blk w6 bl (lcells br (.pointer none) 16)) := Lib.hid hb6.out
      have HRB6 : Hid (Blk w6 br cs ∧ RegC w6 B1 br bs r false S cs) := Lib.hid ⟨HOP.out.rb.grown hg6.out (fun e => HOP.out.lt.2.2 (by injection e)), regc_grown HPS.out.2.2.2.2.2.2 hg6.out HPS.out.2.2.2.2.1⟩
      have HPS6 : Hid (PartM w6 bs bd 0 24) := Lib.hid (Blk.grown HPS.out.1 hg6.out (fun e => HPS.out.2.2.1 (by injection e with e; exact e.symm)))
      have HE6 : Hid (Below w0.heap.size w0 w6) := Lib.hid (HOP.out.bel.grown hg6.out HOP.out.bel.size (fun j e => by injection e with e; have := HOP.out.lt.1; omega))
      have k2 : w6.cell? ⟨bl, 2, none⟩ = some (.int .i64 16) := HLB6.out.cell rfl
      have HPA : Hid (Calls Tryz.prog 27 #[.pointer (some ⟨bp, 0, none⟩), .agg #[.int .i64 24, .int .i64 16]] w6 (RetNewP w6 bd 24 16)) := Lib.hid (HPT.out w6 24 16 HE6.out (by decide) (by decide))
      clear hb6 hg6 hs6
      go_wp2_with fail
      go_at_call 27
      with_reducible refine HPA.out.mono ?_
      rintro e w7 ⟨bq, rfl, hpq, hlt, hb7⟩
      have HLB7 : Hid (Blk w7 bl (lcells br (.pointer none) 16)) := Lib.hid (HLB6.out.below hb7 HLB6.out.lt)
      have HRB7 : Hid (Blk w7 br cs ∧ RegC w7 B1 br bs r false S cs) := Lib.hid ⟨HRB6.out.1.below hb7 HRB6.out.1.lt, regc_below HRB6.out.2 hb7⟩
      have HPS7 : Hid (PartM w7 bs bd 0 24 ∧ PartM w7 bq bd 24 16) := Lib.hid ⟨Blk.below HPS6.out hb7 (Blk.lt HPS6.out), hpq⟩
      have HE7 : Hid (Below w0.heap.size w0 w7) := Lib.hid (HE6.out.trans (hb7.mono HE6.out.size))
      have HBQ : Hid (w0.heap.size ≤ bq ∧ bl < bq ∧ br < bq ∧ bs < bq) := Lib.hid ⟨Nat.le_trans HE6.out.size hlt, Nat.lt_of_lt_of_le HLB6.out.lt hlt, Nat.lt_of_lt_of_le HRB6.out.1.lt hlt, Nat.lt_of_lt_of_le (Blk.lt HPS6.out) hlt⟩
      have HAO : Hid (Calls Tryz.prog 29 #[.pointer (some ⟨bq, 0, none⟩)] w7 (RetLo w7 bq (logAt d.secs).length)) := Lib.hid (aopen_calls w7 (HG.out.below' HE7.out) bq bd O d hpq (HD.out.1.below HE7.out) HD.out.2.1 HD.out.2.2)
      obtain ⟨ln, hln⟩ : ∃ ln, ln = (logAt d.secs).length := ⟨_, rfl⟩
      have HLN := Lib.hid hln
      rw [← hln] at HAO
      clear hpq hlt hb7 hln HPA HLB6 HRB6 HPS6 HE6 k2
      go_wp2_with fail
      go_at_call 29
      with_reducible refine HAO.out.mono ?_
      rintro e w8 ⟨bg, Ae, ce, rfl, hli, hbg, hae, hb8⟩
      have HLB8 : Hid (Blk w8 bl (lcells br (.pointer none) 16)) := Lib.hid (HLB7.out.below hb8 HLB7.out.lt)
      have HRB8 : Hid (Blk w8 br cs ∧ RegC w8 B1 br bs r false S cs) := Lib.hid ⟨HRB7.out.1.below hb8 HRB7.out.1.lt, regc_below HRB7.out.2 hb8⟩
      have HPS8 : Hid (PartM w8 bs bd 0 24 ∧ PartM w8 bq bd 24 16) := Lib.hid ⟨Blk.below HPS7.out.1 hb8 (Blk.lt HPS7.out.1), Blk.below HPS7.out.2 hb8 (Blk.lt HPS7.out.2)⟩
      have HLI := Lib.hid hli
      have HE8 : Hid (Below w0.heap.size w0 w8) := Lib.hid (HE7.out.trans (hb8.mono HE7.out.size))
      have HQ7 : Hid (bq < w7.heap.size ∧ w7.heap.size ≤ bg ∧ (∀ g, Ae.map (·.block) = some g → w7.heap.size ≤ g) ∧ w0.heap.size ≤ w7.heap.size) := Lib.hid ⟨Blk.lt HPS7.out.2, hbg, hae, HE7.out.size⟩
      clear hli hbg hae hb8 HAO HLB7 HRB7 HPS7 HE7
      go_wp2_with (((with_reducible show wpList _ _ _ (Oper.mk _ (Op.store 82 _ _) _ _ _ _ :: _) _ _); refine wpList_storeB rfl 82 _ _ rfl bl 1 _ (.pointer (some ⟨bg, 0, none⟩)) (by show 1 < 4; decide) rfl (by rfl) HLB8.out (by kernel_rfl) rfl ?_))
      intro w9 hb9 hg9 hs9
      have HRES : Hid (RetOp w0 bd r ln (.returned (.tuple #[.pointer (some ⟨bl, 0, none⟩), .int .i64 0])) w9) := Lib.hid (by
        have q := HQ7.out
        have qq := HBQ.out
        have ql := HOP.out.lt
        have hgg := hg9.out
        refine ⟨bl, br, bg, bs, bq, Ae, ce, rfl, ⟨hb9.out, ⟨cs, HRB8.out.1.grown hgg (fun e => ql.2.2 (by injection e)), ?_⟩, HLI.out.upd (Upd.grown (O := fun k => k = bl) hgg (fun j e => by injection e with e; exact e.symm)) (by omega) (fun g hg e => by have := q.2.2.1 g hg; omega), Blk.grown HPS8.out.1 hgg (fun e => HPS.out.2.2.1 (by injection e with e; exact e.symm)), Blk.grown HPS8.out.2 hgg (fun e => by injection e with e; omega), ?_, ?_, ?_⟩, HE8.out.grown hgg HE8.out.size (fun j e => by injection e with e; omega)⟩
        · have := regc_grown HRB8.out.2 hgg HPS.out.2.2.2.2.1
          rw [← HS.out.1]
          exact regc_base this HPS.out.2.2.2.2.2.1
        · exact ⟨ql.1, ql.2.1, by omega, HPS.out.2.1, qq.1, fun g hg => Nat.le_trans q.2.2.2 (q.2.2.1 g hg)⟩
        · exact ⟨ql.2.2, by omega, by omega, HPS.out.2.2.1, HPS.out.2.2.2.1, by omega, by omega, by omega, by omega⟩
        · intro g hg
          have h1 := q.2.2.1 g hg
          exact ⟨by omega, by omega, fun e => HLI.out.ne (by rw [hg, e]), by omega, by omega⟩)
      clear hb9 hg9 hs9
      go_wp2_with fail
      go_ret2
      have h := HRES.out
      rw [HLN.out] at h
      exact h
end Go.Proofs.YtjfpoahmjgeogaaGreatDoor
