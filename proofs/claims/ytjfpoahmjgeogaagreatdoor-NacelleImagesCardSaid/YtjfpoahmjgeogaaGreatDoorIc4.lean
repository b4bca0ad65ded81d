/- Bundle 4 of the texts ShaProc, Late, LoadM, ShaNew, CopyB, Conv, MonoB, SliceB, ShaWrite, MakeB. -/
import Derived.Test.YtjfpoahmjgeogaaGreatDoorIc3
import Derived.Test.YtjfpoahmjgeogaaGreatDoorIc2
import Derived.Test.YtjfpoahmjgeogaaGreatDoorIc1
import Derived.Lib.Hide
import Derived.Laws.IdiomCopy
import Derived.Laws.BytesArg
import Derived.Deep.DeepCutAuto
import Derived.Laws.MakeOwn
import Derived.Great.BuildSlice
/- sha: process. -/
namespace Nac.Sha
open Go Go.RowKit
theorem S8.len (s : S8) : s.l.length = 8 := rfl
def sumTo (s t : S8) (i : Nat) : List Int := (addS s t).l.take i ++ s.l.drop i
theorem sumTo_len (s t : S8) {i : Nat} (h : i ≤ 8) : (sumTo s t i).length = 8 := by
  unfold sumTo
  rw [List.length_append, List.length_take, List.length_drop, S8.len, S8.len]
  omega
theorem sumTo_set (s t : S8) {i : Nat} (h : i < 8) : (sumTo s t i).getD i 0 = s.l.getD i 0 ∧ (sumTo s t i).set i (ad (s.l.getD i 0) (t.l.getD i 0)) = sumTo s t (i + 1) := by
  rcases (by omega : i = 0 ∨ i = 1 ∨ i = 2 ∨ i = 3 ∨ i = 4 ∨ i = 5 ∨ i = 6 ∨ i = 7) with rfl | rfl | rfl | rfl | rfl | rfl | rfl | rfl <;> exact ⟨rfl, rfl⟩
end Nac.Sha
namespace Go.Proofs.YtjfpoahmjgeogaaGreatDoor
open Go.RowKit Nac Nac.Sha
theorem sS8 : SInfo 165 8 := ⟨by kernel_rfl, _, Tryz.underlying165, rfl⟩
theorem zS8 : ((Tryz.prog.info? 165).bind (·.zero)) = some (.agg (u32s (List.replicate 8 0)).toArray) := by kernel_rfl
theorem zE64 : ((Tryz.prog.info? 194).bind (·.zero)) = some (.agg (u32s (List.replicate 64 0)).toArray) := by kernel_rfl
theorem u32s_one (l : List Int) : ∀ v ∈ u32s l, v.oneCell' = true := fun v hv => by obtain ⟨z, _, rfl⟩ := List.mem_map.1 hv; rfl
def ShaG (w : World) : Prop := w.rangeAt 0 0 (u32s ini.l) ∧ w.rangeAt 1 0 (u32s consts)
theorem ShaG.const {w : World} (h : ShaG w) {t : Nat} (ht : t < 64) : w.cell? ⟨1, t, none⟩ = some (.int .u32 (consts.getD t 0)) := by
  have := h.2 t _ (u32s_get (l := consts) ht)
  rwa [Nat.zero_add] at this
theorem ShaG.below {w w' : World} {B : Nat} (h : ShaG w) (hb : Below B w w') (hB : 2 ≤ B) : ShaG w' :=
  ⟨fun j v hj => (hb.cell (p := ⟨0, 0 + j, none⟩) (Nat.lt_of_lt_of_le (by simp) hB)).trans (h.1 j v hj), fun j v hj => (hb.cell (p := ⟨1, 0 + j, none⟩) (Nat.lt_of_lt_of_le (by simp) hB)).trans (h.2 j v hj)⟩
def RetProc (w : World) (s : S8) (L : List UInt8) (e : Ending) (w' : World) : Prop := e = .returned (.agg (u32s (procF s L).l).toArray) ∧ Below w.heap.size w w'
structure PrM (w0 : World) (B0 B2 B3 B4 : Nat) (s q : S8) (L : List UInt8) (w : World) : Prop where
  st : Blk w B0 (u32s s.l)
  res : Blk w B2 (u32s (List.replicate 8 0))
  ws : Blk w B3 (u32s (expandF L))
  q : Blk w B4 (u32s q.l)
  g : ShaG w
  bel : Below w0.heap.size w0 w
def PrR1 (w0 : World) (B0 B2 B3 B4 : Nat) (s : S8) (L : List UInt8) (sl : Value) (w : World) : Prop :=
  ∃ t : Nat, t ≤ 64 ∧ sl = .int .i64 (t : Int) ∧ PrM w0 B0 B2 B3 B4 s (roundsF (expandF L) t s) L w
def PrR2 (w0 : World) (B0 B2 B4 : Nat) (s q : S8) (sl : Value) (w : World) : Prop :=
  ∃ i : Nat, i ≤ 8 ∧ sl = .int .i64 (i : Int) ∧ Blk w B0 (u32s (sumTo s q i)) ∧ Blk w B2 (u32s (List.replicate 8 0)) ∧ Blk w B4 (u32s q.l) ∧ Below w0.heap.size w0 w
set_option maxRecDepth 100000 in
set_option maxHeartbeats 4000000 in
theorem process_calls (w : World) (s : S8) (L : List UInt8) (hL : L.length = 64) (hG : ShaG w) (h2 : 2 ≤ w.heap.size) : Calls Tryz.prog 84 #[.agg (u32s s.l).toArray, .agg (L.map bv).toArray] w (RetProc w s L) := by
  have HL := Lib.hid hL
  have HG0 := Lib.hid hG
  have HZ2 := Lib.hid h2
  obtain ⟨sl, hsl⟩ : ∃ sl, sl = u32s s.l := ⟨_, rfl⟩
  obtain ⟨bl, hbl⟩ : ∃ bl, bl = L.map bv := ⟨_, rfl⟩
  have HSL := Lib.hid hsl
  have HBL := Lib.hid hbl
  rw [← hsl, ← hbl]
  have HL8 : Hid (sl.length = 8) := Lib.hid (by rw [hsl, u32s_len]; rfl)
  have HL64 : Hid (bl.length = 64) := Lib.hid (by rw [hbl, List.length_map]; exact hL)
  clear hL hG h2 hsl hbl
  go_enter Tryz.func84, Tryz.ntmps84
  go_wp2_with ((with_reducible show wpList _ _ _ (Oper.mk _ (Op.box 165 _) _ _ _ _ :: _) _ _); refine wpList_boxS rfl _ rfl sl rfl ?_)
  intro w1 hb1 hg1 hs1
  have HB1 := Lib.hid hb1
  have HG1 := Lib.hid hg1
  have HS1 := Lib.hid hs1
  clear hb1 hg1 hs1
  go_wp2_with ((with_reducible show wpList _ _ _ (Oper.mk _ (Op.box 166 _) _ _ _ _ :: _) _ _); refine wpList_boxS rfl _ rfl bl rfl ?_)
  intro w2 hb2 hg2 hs2
  have HB2 := Lib.hid hb2
  have HG2 := Lib.hid hg2
  have HS2 := Lib.hid hs2
  clear hb2 hg2 hs2
  go_wp2_with ((with_reducible show wpList _ _ _ (Oper.mk _ (Op.alloc 165) _ _ _ _ :: _) _ _); refine wpList_allocS _ zS8 rfl rfl ?_)
  intro w3 hb3 hg3 hs3
  have HW3 : Hid (Blk w3 w.heap.size sl ∧ Blk w3 w1.heap.size bl ∧ Blk w3 w2.heap.size (u32s (List.replicate 8 0)) ∧ Below w.heap.size w w3) := Lib.hid <| by
    have h1 := HS1.out
    have h2 := HS2.out
    refine ⟨(HB1.out.grown HG2.out (by simp)).grown hg3 (by simp), HB2.out.grown hg3 (by simp), hb3, ?_⟩
    exact ((gbelow HG1.out).trans ((gbelow HG2.out).mono (by omega))).trans ((gbelow hg3).mono (by omega))
  have HN : Hid (w1.heap.size = w.heap.size + 1 ∧ w2.heap.size = w.heap.size + 2 ∧ w3.heap.size = w.heap.size + 3) := Lib.hid ⟨HS1.out, by rw [HS2.out, HS1.out], by rw [hs3, HS2.out, HS1.out]⟩
  clear HB1 HG1 HS1 HB2 HG2 HS2 hb3 hg3 hs3
  obtain ⟨el, hel⟩ : ∃ el, el = u32s (expandF L) := ⟨_, rfl⟩
  have HEL := Lib.hid hel
  have HE64 : Hid (el.length = 64) := Lib.hid (by rw [hel, u32s_len, expand_len])
  clear hel
  have HEX : Hid (Calls Tryz.prog 104 #[.agg bl.toArray] w3 fun e w' => e = .returned (.agg el.toArray) ∧ Below w3.heap.size w3 w') := Lib.hid (by rw [HBL.out, HEL.out]; exact expand_calls w3 L HL.out)
  have HSL8 : Hid (sl.length = 8) := HL8
  go_wp2_with first | ((with_reducible show wpList _ _ _ (Oper.mk _ (Op.load 166 _) _ _ _ _ :: _) _ _); refine wpList_loadS sB64 rfl _ rfl w1.heap.size _ rfl HW3.out.2.1 HL64.out ?_) | (go_at_call 104; with_reducible refine HEX.out.mono ?_; rintro e w4 ⟨rfl, hb4⟩; have HB4 := Lib.hid hb4; clear hb4) | ((with_reducible show wpList _ _ _ (Oper.mk _ (Op.alloc 194) _ _ _ _ :: _) _ _); refine wpList_allocS _ zE64 rfl rfl ?_; intro w5 hb5 hg5 hs5; have HB5 := Lib.hid hb5; have HG5 := Lib.hid hg5; have HS5 := Lib.hid hs5; clear hb5 hg5 hs5) | ((with_reducible show wpList _ _ _ (Oper.mk _ (Op.store 194 _ _) _ _ _ _ :: _) _ _); refine wpList_storeS sW64 rfl _ _ rfl w4.heap.size _ el rfl rfl HB5.out (by rfl) HE64.out (by rw [HEL.out]; exact u32s_one _) ?_; intro w6 hb6 hg6; have HB6 := Lib.hid hb6; have HG6 := Lib.hid hg6; clear hb6 hg6) | ((with_reducible show wpList _ _ _ (Oper.mk _ (Op.load 165 _) _ _ _ _ :: _) _ _); refine wpList_loadS sS8 rfl _ rfl w.heap.size sl rfl (by have hn := HN.out; have h4 := HB4.out.size; exact ((HW3.out.1.below HB4.out (by omega)).grown HG5.out (by simp)).grown HG6.out (by simp; omega)) HL8.out ?_) | ((with_reducible show wpList _ _ _ (Oper.mk _ (Op.alloc 165) _ _ _ _ :: _) _ _); refine wpList_allocS _ zS8 rfl rfl ?_; intro w7 hb7 hg7 hs7; have HB7 := Lib.hid hb7; have HG7 := Lib.hid hg7; have HS7 := Lib.hid hs7; clear hb7 hg7 hs7) | ((with_reducible show wpList _ _ _ (Oper.mk _ (Op.store 165 _ _) _ _ _ _ :: _) _ _); refine wpList_storeS sS8 rfl _ _ rfl w6.heap.size _ sl rfl rfl HB7.out (by rfl) HL8.out (by rw [HSL.out]; exact u32s_one _) ?_)
  intro w8 hb8 hg8
  have HP : Hid (PrM w w.heap.size w2.heap.size w4.heap.size w6.heap.size s s L w8 ∧ w.heap.size < w2.heap.size ∧ w2.heap.size < w4.heap.size ∧ w4.heap.size < w6.heap.size) := Lib.hid <| by
    have hn := HN.out
    have h4 := HB4.out.size
    have h5 := HS5.out
    have h6 := HG6.out.size
    have h7 := HS7.out
    obtain ⟨a1, a2, a3, a4⟩ := HW3.out
    have b4 : Below w.heap.size w w4 := a4.trans (HB4.out.mono (by omega))
    have b5 : Below w.heap.size w w5 := b4.trans ((gbelow HG5.out).mono (by omega))
    have b6 : Below w.heap.size w w6 := b5.grown HG6.out b5.size (fun j e => by injection e with e; omega)
    have b7 : Below w.heap.size w w7 := b6.trans ((gbelow HG7.out).mono (by omega))
    have b8 : Below w.heap.size w w8 := b7.grown hg8 b7.size (fun j e => by injection e with e; omega)
    refine ⟨⟨?_, ?_, ?_, ?_, HG0.out.below b8 HZ2.out, b8⟩, by omega, by omega, by omega⟩
    · rw [← HSL.out]
      exact ((((a1.below HB4.out (by omega)).grown HG5.out (by simp)).grown HG6.out (by simp; omega)).grown HG7.out (by simp)).grown hg8 (by simp; omega)
    · exact ((((a3.below HB4.out (by omega)).grown HG5.out (by simp)).grown HG6.out (by simp; omega)).grown HG7.out (by simp)).grown hg8 (by simp; omega)
    · rw [← HEL.out]
      exact (HB6.out.grown HG7.out (by simp)).grown hg8 (by simp; omega)
    · rw [← HSL.out]
      exact hb8
  obtain ⟨B0, hB0⟩ : ∃ B, B = w.heap.size := ⟨_, rfl⟩
  obtain ⟨B1, hB1⟩ : ∃ B, B = w1.heap.size := ⟨_, rfl⟩
  obtain ⟨B2, hB2⟩ : ∃ B, B = w2.heap.size := ⟨_, rfl⟩
  obtain ⟨B3, hB3⟩ : ∃ B, B = w4.heap.size := ⟨_, rfl⟩
  obtain ⟨B4, hB4⟩ : ∃ B, B = w6.heap.size := ⟨_, rfl⟩
  have HE0 := Lib.hid hB0
  rw [← hB0, ← hB2, ← hB3, ← hB4] at HP
  rw [← hB0, ← hB1, ← hB2, ← hB3, ← hB4]
  clear hB0 hB1 hB2 hB3 hB4 hb8 hg8 HB4 HB5 HG5 HS5 HB6 HG6 HB7 HG7 HS7 HW3 HN HEX HSL8
  go_wp2
  go_loopw [20] (fun s20 wr => PrR1 w B0 B2 B3 B4 s L s20 wr) (fun s20 _ => 64 - (intOf s20).toNat)
  case atStart => exact ⟨0, by decide, rfl, HP.out.1⟩
  case round =>
    have HO : Hid (B0 < B2 ∧ B2 < B3 ∧ B3 < B4) := Lib.hid HP.out.2
    clear HP
    obtain ⟨t, ht, rfl, hm⟩ := hrel
    obtain ⟨q, hq⟩ : ∃ q, q = roundsF (expandF L) t s := ⟨_, rfl⟩
    rw [← hq] at hm
    have HQ := Lib.hid hq
    have HM := Lib.hid hm
    clear hq hm
    by_cases hlt : t < 64
    · have HLT := Lib.hid hlt
      obtain ⟨a, b, c, d, e, f, g, h⟩ := q
      obtain ⟨kt, hkt⟩ : ∃ k, k = consts.getD t 0 := ⟨_, rfl⟩
      obtain ⟨wt, hwt⟩ : ∃ k, k = (expandF L).getD t 0 := ⟨_, rfl⟩
      have HRD : Hid (roundsF (expandF L) (t + 1) s = roundF ⟨a, b, c, d, e, f, g, h⟩ kt wt) := Lib.hid <| by
        rw [HQ.out, hkt, hwt]
        rfl
      have MC0 : Hid (∀ (w' : World), w'.heap = wr.heap → w'.cell? ⟨B4, 0, none⟩ = some (.int .u32 a) ∧ w'.cell? ⟨B4, 1, none⟩ = some (.int .u32 b) ∧ w'.cell? ⟨B4, 2, none⟩ = some (.int .u32 c) ∧ w'.cell? ⟨B4, 3, none⟩ = some (.int .u32 d) ∧ w'.cell? ⟨B4, 4, none⟩ = some (.int .u32 e) ∧ w'.cell? ⟨B4, 5, none⟩ = some (.int .u32 f) ∧ w'.cell? ⟨B4, 6, none⟩ = some (.int .u32 g) ∧ w'.cell? ⟨B4, 7, none⟩ = some (.int .u32 h)) := Lib.hid <| by
        intro w' e'
        have hb := HM.out.q.keep (w' := w') (by rw [e'])
        exact ⟨hb.cell (j := 0) rfl, hb.cell (j := 1) rfl, hb.cell (j := 2) rfl, hb.cell (j := 3) rfl, hb.cell (j := 4) rfl, hb.cell (j := 5) rfl, hb.cell (j := 6) rfl, hb.cell (j := 7) rfl⟩
      have KC0 : Hid (∀ (w' : World), w'.heap = wr.heap → w'.cell? ⟨1, t, none⟩ = some (.int .u32 kt)) := Lib.hid <| by
        intro w' e'
        have := HM.out.g.const HLT.out
        rw [hkt, ← this]
        unfold World.cell?
        rw [e']
      have WC0 : Hid (∀ (w' : World), w'.heap = wr.heap → w'.cell? ⟨B3, t, none⟩ = some (.int .u32 wt)) := Lib.hid <| by
        intro w' e'
        have hb := HM.out.ws.keep (w' := w') (by rw [e'])
        rw [hwt]
        exact hb.cell (u32s_get (by rw [expand_len]; exact HLT.out))
      have MC : Hid (∀ (w' : World), w' = wr.drew → w'.cell? ⟨B4, 0, none⟩ = some (.int .u32 a) ∧ w'.cell? ⟨B4, 1, none⟩ = some (.int .u32 b) ∧ w'.cell? ⟨B4, 2, none⟩ = some (.int .u32 c) ∧ w'.cell? ⟨B4, 3, none⟩ = some (.int .u32 d) ∧ w'.cell? ⟨B4, 4, none⟩ = some (.int .u32 e) ∧ w'.cell? ⟨B4, 5, none⟩ = some (.int .u32 f) ∧ w'.cell? ⟨B4, 6, none⟩ = some (.int .u32 g) ∧ w'.cell? ⟨B4, 7, none⟩ = some (.int .u32 h)) := Lib.hid fun w' e' => MC0.out w' (by rw [e']; rfl)
      clear hkt hwt ht
      go_wp2_with fail
      refine region_vals [.pointer (some ⟨B4, 0, none⟩), .int .u32 a, .pointer (some ⟨B4, 1, none⟩), .int .u32 b, .pointer (some ⟨B4, 2, none⟩), .int .u32 c, .pointer (some ⟨B4, 4, none⟩), .int .u32 e, .pointer (some ⟨B4, 5, none⟩), .int .u32 f, .pointer (some ⟨B4, 6, none⟩), .int .u32 g, .int .u32 a, .int .u32 b, .int .u32 c, .int .u32 e, .int .u32 f, .int .u32 g] [some 23, some 24, some 25, some 26, some 27, some 28, some 29, some 30, some 31, some 32, some 33, some 34, some 8, some 9, some 10, some 11, some 12, some 13] (fun _ w' => w' = wr.drew) (by kernel_rfl) (by kernel_rfl) (by kernel_rfl) rfl rfl rfl (fun ii hii => ?_) ?_
      · match ii, hii with
        | 0, _ => exact vstep_pure rfl (vwant_none rfl) (fun _ _ h => h) (fun LL aa ww cc => ⟨.pointer (some ⟨B4, 0, none⟩), by have e0 : aa.tmps.getD 6 undef = .pointer (some ⟨B4, 0, none⟩) := (cc.orig 6 (by kernel_rfl)).trans rfl; simp only [execOp, Act.eval]; go_simp, rfl⟩)
        | 1, _ => exact vstep_pure rfl (vwant_none rfl) (fun _ _ h => h) (fun LL aa ww cc => ⟨.int .u32 a, by have e0 : aa.tmps.getD 23 undef = .pointer (some ⟨B4, 0, none⟩) := cc.slot 0 23 (by kernel_rfl) rfl; obtain ⟨m0, m1, m2, m3, m4, m5, m6, m7⟩ := MC.out _ cc.world; simp only [execOp, Act.eval]; go_simp, rfl⟩)
        | 2, _ => exact vstep_pure rfl (vwant_none rfl) (fun _ _ h => h) (fun LL aa ww cc => ⟨.pointer (some ⟨B4, 1, none⟩), by have e0 : aa.tmps.getD 6 undef = .pointer (some ⟨B4, 0, none⟩) := (cc.orig 6 (by kernel_rfl)).trans rfl; simp only [execOp, Act.eval]; go_simp, rfl⟩)
        | 3, _ => exact vstep_pure rfl (vwant_none rfl) (fun _ _ h => h) (fun LL aa ww cc => ⟨.int .u32 b, by have e0 : aa.tmps.getD 25 undef = .pointer (some ⟨B4, 1, none⟩) := cc.slot 2 25 (by kernel_rfl) rfl; obtain ⟨m0, m1, m2, m3, m4, m5, m6, m7⟩ := MC.out _ cc.world; simp only [execOp, Act.eval]; go_simp, rfl⟩)
        | 4, _ => exact vstep_pure rfl (vwant_none rfl) (fun _ _ h => h) (fun LL aa ww cc => ⟨.pointer (some ⟨B4, 2, none⟩), by have e0 : aa.tmps.getD 6 undef = .pointer (some ⟨B4, 0, none⟩) := (cc.orig 6 (by kernel_rfl)).trans rfl; simp only [execOp, Act.eval]; go_simp, rfl⟩)
        | 5, _ => exact vstep_pure rfl (vwant_none rfl) (fun _ _ h => h) (fun LL aa ww cc => ⟨.int .u32 c, by have e0 : aa.tmps.getD 27 undef = .pointer (some ⟨B4, 2, none⟩) := cc.slot 4 27 (by kernel_rfl) rfl; obtain ⟨m0, m1, m2, m3, m4, m5, m6, m7⟩ := MC.out _ cc.world; simp only [execOp, Act.eval]; go_simp, rfl⟩)
        | 6, _ => exact vstep_pure rfl (vwant_none rfl) (fun _ _ h => h) (fun LL aa ww cc => ⟨.pointer (some ⟨B4, 4, none⟩), by have e0 : aa.tmps.getD 6 undef = .pointer (some ⟨B4, 0, none⟩) := (cc.orig 6 (by kernel_rfl)).trans rfl; simp only [execOp, Act.eval]; go_simp, rfl⟩)
        | 7, _ => exact vstep_pure rfl (vwant_none rfl) (fun _ _ h => h) (fun LL aa ww cc => ⟨.int .u32 e, by have e0 : aa.tmps.getD 29 undef = .pointer (some ⟨B4, 4, none⟩) := cc.slot 6 29 (by kernel_rfl) rfl; obtain ⟨m0, m1, m2, m3, m4, m5, m6, m7⟩ := MC.out _ cc.world; simp only [execOp, Act.eval]; go_simp, rfl⟩)
        | 8, _ => exact vstep_pure rfl (vwant_none rfl) (fun _ _ h => h) (fun LL aa ww cc => ⟨.pointer (some ⟨B4, 5, none⟩), by have e0 : aa.tmps.getD 6 undef = .pointer (some ⟨B4, 0, none⟩) := (cc.orig 6 (by kernel_rfl)).trans rfl; simp only [execOp, Act.eval]; go_simp, rfl⟩)
        | 9, _ => exact vstep_pure rfl (vwant_none rfl) (fun _ _ h => h) (fun LL aa ww cc => ⟨.int .u32 f, by have e0 : aa.tmps.getD 31 undef = .pointer (some ⟨B4, 5, none⟩) := cc.slot 8 31 (by kernel_rfl) rfl; obtain ⟨m0, m1, m2, m3, m4, m5, m6, m7⟩ := MC.out _ cc.world; simp only [execOp, Act.eval]; go_simp, rfl⟩)
        | 10, _ => exact vstep_pure rfl (vwant_none rfl) (fun _ _ h => h) (fun LL aa ww cc => ⟨.pointer (some ⟨B4, 6, none⟩), by have e0 : aa.tmps.getD 6 undef = .pointer (some ⟨B4, 0, none⟩) := (cc.orig 6 (by kernel_rfl)).trans rfl; simp only [execOp, Act.eval]; go_simp, rfl⟩)
        | 11, _ => exact vstep_pure rfl (vwant_none rfl) (fun _ _ h => h) (fun LL aa ww cc => ⟨.int .u32 g, by have e0 : aa.tmps.getD 33 undef = .pointer (some ⟨B4, 6, none⟩) := cc.slot 10 33 (by kernel_rfl) rfl; obtain ⟨m0, m1, m2, m3, m4, m5, m6, m7⟩ := MC.out _ cc.world; simp only [execOp, Act.eval]; go_simp, rfl⟩)
        | 12, _ => exact vstep_copy rfl (vwant_none rfl) (fun _ _ h => h) 24 (Or.inr rfl) 1 (by kernel_rfl) rfl (fun _ h => h)
        | 13, _ => exact vstep_copy rfl (vwant_none rfl) (fun _ _ h => h) 26 (Or.inr rfl) 3 (by kernel_rfl) rfl (fun _ h => h)
        | 14, _ => exact vstep_copy rfl (vwant_none rfl) (fun _ _ h => h) 28 (Or.inr rfl) 5 (by kernel_rfl) rfl (fun _ h => h)
        | 15, _ => exact vstep_copy rfl (vwant_none rfl) (fun _ _ h => h) 30 (Or.inr rfl) 7 (by kernel_rfl) rfl (fun _ h => h)
        | 16, _ => exact vstep_copy rfl (vwant_none rfl) (fun _ _ h => h) 32 (Or.inr rfl) 9 (by kernel_rfl) rfl (fun _ h => h)
        | 17, _ => exact vstep_copy rfl (vwant_none rfl) (fun _ _ h => h) 34 (Or.inr rfl) 11 (by kernel_rfl) rfl (fun _ h => h)
        | n + 18, h => exact absurd h (by show ¬ (n + 18 < 18); omega)
      intro L5 wd hall hJ
      have HWD : Hid (wd.heap = wr.heap ∧ wd = wr.drew) := Lib.hid ⟨by rw [hJ]; rfl, hJ⟩
      clear hall hJ MC
      simp only [List.zip_cons_cons, List.zip_nil_right, putsL]
      go_simp
      refine (by assumption : ∀ (a : Act) (w : World), Code.wp _ _ _ a w → _) _ _ ?_
      have MC : Hid (∀ (w' : World), w' = wd.drew → w'.cell? ⟨B4, 0, none⟩ = some (.int .u32 a) ∧ w'.cell? ⟨B4, 1, none⟩ = some (.int .u32 b) ∧ w'.cell? ⟨B4, 2, none⟩ = some (.int .u32 c) ∧ w'.cell? ⟨B4, 3, none⟩ = some (.int .u32 d) ∧ w'.cell? ⟨B4, 4, none⟩ = some (.int .u32 e) ∧ w'.cell? ⟨B4, 5, none⟩ = some (.int .u32 f) ∧ w'.cell? ⟨B4, 6, none⟩ = some (.int .u32 g) ∧ w'.cell? ⟨B4, 7, none⟩ = some (.int .u32 h)) := Lib.hid fun w' e' => MC0.out w' (by rw [e']; exact HWD.out.1)
      have KC : Hid (∀ (w' : World), w' = wd.drew → w'.cell? ⟨1, t, none⟩ = some (.int .u32 kt)) := Lib.hid fun w' e' => KC0.out w' (by rw [e']; exact HWD.out.1)
      have WC : Hid (∀ (w' : World), w' = wd.drew → w'.cell? ⟨B3, t, none⟩ = some (.int .u32 wt)) := Lib.hid fun w' e' => WC0.out w' (by rw [e']; exact HWD.out.1)
      have RT : Hid (∀ (x : Int) (n : Nat) (w' : World), 1 ≤ n → n < 32 → w' = wd.drew → Calls Tryz.prog 105 #[.int .u32 x, .int .i64 n] w' fun e w'' => ∃ v, e = .returned v ∧ v = .int .u32 (rotI x n) ∧ w'' = wd.drew) := Lib.hid <| by
        intro x n w' h1 h2 e'
        refine (rotate_calls w' x n h1 h2).mono ?_
        rintro e w'' ⟨rfl, rfl⟩
        exact ⟨_, rfl, rfl, e'⟩
      go_wp2_with fail
      refine region_vals [.pointer (some ⟨B4, 7, none⟩), .int .u32 h, .int .u32 e, .int .u32 (rotI e 6), .int .u32 e, .int .u32 (rotI e 11), .int .u32 (xo (rotI e 6) (rotI e 11)), .int .u32 e, .int .u32 (rotI e 25), .int .u32 (xo (xo (rotI e 6) (rotI e 11)) (rotI e 25)), .int .u32 (ad h (xo (xo (rotI e 6) (rotI e 11)) (rotI e 25))), .int .u32 e, .int .u32 f, .int .u32 (an e f), .int .u32 e, .int .u32 (bits .xor .u32 4294967295 e), .int .u32 g, .int .u32 (an (bits .xor .u32 4294967295 e) g), .int .u32 (orr (an e f) (an (bits .xor .u32 4294967295 e) g)), .int .u32 (ad (ad h (xo (xo (rotI e 6) (rotI e 11)) (rotI e 25))) (orr (an e f) (an (bits .xor .u32 4294967295 e) g))), .int .i64 (t : Int), .pointer (some ⟨1, t, none⟩), .int .u32 kt, .int .u32 (ad (ad (ad h (xo (xo (rotI e 6) (rotI e 11)) (rotI e 25))) (orr (an e f) (an (bits .xor .u32 4294967295 e) g))) kt), .int .i64 (t : Int), .pointer (some ⟨B3, t, none⟩), .int .u32 wt, .int .u32 (ad (ad (ad (ad h (xo (xo (rotI e 6) (rotI e 11)) (rotI e 25))) (orr (an e f) (an (bits .xor .u32 4294967295 e) g))) kt) wt), .int .u32 (ad (ad (ad (ad h (xo (xo (rotI e 6) (rotI e 11)) (rotI e 25))) (orr (an e f) (an (bits .xor .u32 4294967295 e) g))) kt) wt)] [some 35, some 36, some 37, some 38, some 39, some 40, some 41, some 42, some 43, some 44, some 45, some 46, some 47, some 48, some 49, some 50, some 51, some 52, some 53, some 54, some 55, some 56, some 57, some 58, some 59, some 60, some 61, some 62, some 14] (fun _ w' => w' = wd.drew) (by kernel_rfl) (by kernel_rfl) (by kernel_rfl) rfl rfl rfl (fun ii hii => ?_) ?_
      · match ii, hii with
        | 0, _ => exact vstep_pure rfl (vwant_none rfl) (fun _ _ h => h) (fun LL aa ww cc => ⟨.pointer (some ⟨B4, 7, none⟩), by have e0 : aa.tmps.getD 6 undef = .pointer (some ⟨B4, 0, none⟩) := (cc.orig 6 (by kernel_rfl)).trans rfl; simp only [execOp, Act.eval]; go_simp, rfl⟩)
        | 1, _ => exact vstep_pure rfl (vwant_none rfl) (fun _ _ h => h) (fun LL aa ww cc => ⟨.int .u32 h, by have e0 : aa.tmps.getD 35 undef = .pointer (some ⟨B4, 7, none⟩) := cc.slot 0 35 (by kernel_rfl) rfl; obtain ⟨m0, m1, m2, m3, m4, m5, m6, m7⟩ := MC.out _ cc.world; simp only [execOp, Act.eval]; go_simp, rfl⟩)
        | 2, _ => exact vstep_first rfl (vwant_none rfl) (fun _ _ h => h) 11 (Or.inl rfl) (by kernel_rfl) rfl
        | 3, _ => exact vstep_call rfl (vwant_none rfl) _ _ _ rfl (enters_of Tryz.func105 (by kernel_rfl) rfl) (fun LL aa ww cc => by have e0 : aa.tmps.getD 37 undef = .int .u32 e := cc.slot 2 37 (by kernel_rfl) rfl; simp only [List.map_toArray, List.map_cons, List.map_nil, Act.eval, e0]; exact (fun _ w9 h9 _ => RT.out e 6 w9 (by decide) (by decide) h9) LL ww cc.world cc.fresh)
        | 4, _ => exact vstep_first rfl (vwant_none rfl) (fun _ _ h => h) 11 (Or.inl rfl) (by kernel_rfl) rfl
        | 5, _ => exact vstep_call rfl (vwant_none rfl) _ _ _ rfl (enters_of Tryz.func105 (by kernel_rfl) rfl) (fun LL aa ww cc => by have e0 : aa.tmps.getD 39 undef = .int .u32 e := cc.slot 4 39 (by kernel_rfl) rfl; simp only [List.map_toArray, List.map_cons, List.map_nil, Act.eval, e0]; exact (fun _ w9 h9 _ => RT.out e 11 w9 (by decide) (by decide) h9) LL ww cc.world cc.fresh)
        | 6, _ => exact vstep_pure rfl (vwant_none rfl) (fun _ _ h => h) (fun LL aa ww cc => ⟨.int .u32 (xo (rotI e 6) (rotI e 11)), by have e0 : aa.tmps.getD 38 undef = .int .u32 (rotI e 6) := cc.slot 3 38 (by kernel_rfl) rfl; have e1 : aa.tmps.getD 40 undef = .int .u32 (rotI e 11) := cc.slot 5 40 (by kernel_rfl) rfl; simp only [execOp, Act.eval]; go_simp <;> rfl, rfl⟩)
        | 7, _ => exact vstep_first rfl (vwant_none rfl) (fun _ _ h => h) 11 (Or.inl rfl) (by kernel_rfl) rfl
        | 8, _ => exact vstep_call rfl (vwant_none rfl) _ _ _ rfl (enters_of Tryz.func105 (by kernel_rfl) rfl) (fun LL aa ww cc => by have e0 : aa.tmps.getD 42 undef = .int .u32 e := cc.slot 7 42 (by kernel_rfl) rfl; simp only [List.map_toArray, List.map_cons, List.map_nil, Act.eval, e0]; exact (fun _ w9 h9 _ => RT.out e 25 w9 (by decide) (by decide) h9) LL ww cc.world cc.fresh)
        | 9, _ => exact vstep_pure rfl (vwant_none rfl) (fun _ _ h => h) (fun LL aa ww cc => ⟨.int .u32 (xo (xo (rotI e 6) (rotI e 11)) (rotI e 25)), by have e0 : aa.tmps.getD 41 undef = .int .u32 (xo (rotI e 6) (rotI e 11)) := cc.slot 6 41 (by kernel_rfl) rfl; have e1 : aa.tmps.getD 43 undef = .int .u32 (rotI e 25) := cc.slot 8 43 (by kernel_rfl) rfl; simp only [execOp, Act.eval]; go_simp <;> rfl, rfl⟩)
        | 10, _ => exact vstep_pure rfl (vwant_none rfl) (fun _ _ h => h) (fun LL aa ww cc => ⟨.int .u32 (ad h (xo (xo (rotI e 6) (rotI e 11)) (rotI e 25))), by have e0 : aa.tmps.getD 36 undef = .int .u32 h := cc.slot 1 36 (by kernel_rfl) rfl; have e1 : aa.tmps.getD 44 undef = .int .u32 (xo (xo (rotI e 6) (rotI e 11)) (rotI e 25)) := cc.slot 9 44 (by kernel_rfl) rfl; simp only [execOp, Act.eval]; go_simp <;> rfl, rfl⟩)
        | 11, _ => exact vstep_first rfl (vwant_none rfl) (fun _ _ h => h) 11 (Or.inl rfl) (by kernel_rfl) rfl
        | 12, _ => exact vstep_first rfl (vwant_none rfl) (fun _ _ h => h) 12 (Or.inl rfl) (by kernel_rfl) rfl
        | 13, _ => exact vstep_pure rfl (vwant_none rfl) (fun _ _ h => h) (fun LL aa ww cc => ⟨.int .u32 (an e f), by have e0 : aa.tmps.getD 46 undef = .int .u32 e := cc.slot 11 46 (by kernel_rfl) rfl; have e1 : aa.tmps.getD 47 undef = .int .u32 f := cc.slot 12 47 (by kernel_rfl) rfl; simp only [execOp, Act.eval]; go_simp <;> rfl, rfl⟩)
        | 14, _ => exact vstep_first rfl (vwant_none rfl) (fun _ _ h => h) 11 (Or.inl rfl) (by kernel_rfl) rfl
        | 15, _ => exact vstep_pure rfl (vwant_none rfl) (fun _ _ h => h) (fun LL aa ww cc => ⟨.int .u32 (bits .xor .u32 4294967295 e), by have e0 : aa.tmps.getD 49 undef = .int .u32 e := cc.slot 14 49 (by kernel_rfl) rfl; simp only [execOp, Act.eval]; go_simp <;> rfl, rfl⟩)
        | 16, _ => exact vstep_first rfl (vwant_none rfl) (fun _ _ h => h) 13 (Or.inl rfl) (by kernel_rfl) rfl
        | 17, _ => exact vstep_pure rfl (vwant_none rfl) (fun _ _ h => h) (fun LL aa ww cc => ⟨.int .u32 (an (bits .xor .u32 4294967295 e) g), by have e0 : aa.tmps.getD 50 undef = .int .u32 (bits .xor .u32 4294967295 e) := cc.slot 15 50 (by kernel_rfl) rfl; have e1 : aa.tmps.getD 51 undef = .int .u32 g := cc.slot 16 51 (by kernel_rfl) rfl; simp only [execOp, Act.eval]; go_simp <;> rfl, rfl⟩)
        | 18, _ => exact vstep_pure rfl (vwant_none rfl) (fun _ _ h => h) (fun LL aa ww cc => ⟨.int .u32 (orr (an e f) (an (bits .xor .u32 4294967295 e) g)), by have e0 : aa.tmps.getD 48 undef = .int .u32 (an e f) := cc.slot 13 48 (by kernel_rfl) rfl; have e1 : aa.tmps.getD 52 undef = .int .u32 (an (bits .xor .u32 4294967295 e) g) := cc.slot 17 52 (by kernel_rfl) rfl; simp only [execOp, Act.eval]; go_simp <;> rfl, rfl⟩)
        | 19, _ => exact vstep_pure rfl (vwant_none rfl) (fun _ _ h => h) (fun LL aa ww cc => ⟨.int .u32 (ad (ad h (xo (xo (rotI e 6) (rotI e 11)) (rotI e 25))) (orr (an e f) (an (bits .xor .u32 4294967295 e) g))), by have e0 : aa.tmps.getD 45 undef = .int .u32 (ad h (xo (xo (rotI e 6) (rotI e 11)) (rotI e 25))) := cc.slot 10 45 (by kernel_rfl) rfl; have e1 : aa.tmps.getD 53 undef = .int .u32 (orr (an e f) (an (bits .xor .u32 4294967295 e) g)) := cc.slot 18 53 (by kernel_rfl) rfl; simp only [execOp, Act.eval]; go_simp <;> rfl, rfl⟩)
        | 20, _ => exact vstep_first rfl (vwant_none rfl) (fun _ _ h => h) 7 (Or.inl rfl) (by kernel_rfl) rfl
        | 21, _ => exact vstep_pure rfl (vwant_none rfl) (fun _ _ h => h) (fun LL aa ww cc => ⟨.pointer (some ⟨1, t, none⟩), by have e0 : aa.tmps.getD 55 undef = .int .i64 (t : Int) := cc.slot 20 55 (by kernel_rfl) rfl; have q1 : (t : Int) < 64 := (by have := HLT.out; omega); simp only [execOp, Act.eval]; go_simp, rfl⟩)
        | 22, _ => exact vstep_pure rfl (vwant_none rfl) (fun _ _ h => h) (fun LL aa ww cc => ⟨.int .u32 kt, by have e0 : aa.tmps.getD 56 undef = .pointer (some ⟨1, t, none⟩) := cc.slot 21 56 (by kernel_rfl) rfl; have m := KC.out _ cc.world; simp only [execOp, Act.eval]; go_simp, rfl⟩)
        | 23, _ => exact vstep_pure rfl (vwant_none rfl) (fun _ _ h => h) (fun LL aa ww cc => ⟨.int .u32 (ad (ad (ad h (xo (xo (rotI e 6) (rotI e 11)) (rotI e 25))) (orr (an e f) (an (bits .xor .u32 4294967295 e) g))) kt), by have e0 : aa.tmps.getD 54 undef = .int .u32 (ad (ad h (xo (xo (rotI e 6) (rotI e 11)) (rotI e 25))) (orr (an e f) (an (bits .xor .u32 4294967295 e) g))) := cc.slot 19 54 (by kernel_rfl) rfl; have e1 : aa.tmps.getD 57 undef = .int .u32 kt := cc.slot 22 57 (by kernel_rfl) rfl; simp only [execOp, Act.eval]; go_simp <;> rfl, rfl⟩)
        | 24, _ => exact vstep_first rfl (vwant_none rfl) (fun _ _ h => h) 7 (Or.inl rfl) (by kernel_rfl) rfl
        | 25, _ => exact vstep_pure rfl (vwant_none rfl) (fun _ _ h => h) (fun LL aa ww cc => ⟨.pointer (some ⟨B3, t, none⟩), by have e0 : aa.tmps.getD 5 undef = .pointer (some ⟨B3, 0, none⟩) := (cc.orig 5 (by kernel_rfl)).trans rfl; have e1 : aa.tmps.getD 59 undef = .int .i64 (t : Int) := cc.slot 24 59 (by kernel_rfl) rfl; have q1 : (t : Int) < 64 := (by have := HLT.out; omega); simp only [execOp, Act.eval]; go_simp, rfl⟩)
        | 26, _ => exact vstep_pure rfl (vwant_none rfl) (fun _ _ h => h) (fun LL aa ww cc => ⟨.int .u32 wt, by have e0 : aa.tmps.getD 60 undef = .pointer (some ⟨B3, t, none⟩) := cc.slot 25 60 (by kernel_rfl) rfl; have m := WC.out _ cc.world; simp only [execOp, Act.eval]; go_simp, rfl⟩)
        | 27, _ => exact vstep_pure rfl (vwant_none rfl) (fun _ _ h => h) (fun LL aa ww cc => ⟨.int .u32 (ad (ad (ad (ad h (xo (xo (rotI e 6) (rotI e 11)) (rotI e 25))) (orr (an e f) (an (bits .xor .u32 4294967295 e) g))) kt) wt), by have e0 : aa.tmps.getD 58 undef = .int .u32 (ad (ad (ad h (xo (xo (rotI e 6) (rotI e 11)) (rotI e 25))) (orr (an e f) (an (bits .xor .u32 4294967295 e) g))) kt) := cc.slot 23 58 (by kernel_rfl) rfl; have e1 : aa.tmps.getD 61 undef = .int .u32 wt := cc.slot 26 61 (by kernel_rfl) rfl; simp only [execOp, Act.eval]; go_simp <;> rfl, rfl⟩)
        | 28, _ => exact vstep_copy rfl (vwant_none rfl) (fun _ _ h => h) 62 (Or.inr rfl) 27 (by kernel_rfl) rfl (fun _ h => h)
        | n + 29, h => exact absurd h (by show ¬ (n + 29 < 29); omega)
      intro L6 we hall hJ
      have HWE : Hid (we.heap = wr.heap ∧ we = wr.drew.drew) := Lib.hid ⟨by rw [hJ]; exact HWD.out.1, by rw [hJ, HWD.out.2]⟩
      clear hall hJ MC KC WC RT KC0 WC0
      obtain ⟨t1, ht1⟩ : ∃ x, x = t1F ⟨a, b, c, d, e, f, g, h⟩ kt wt := ⟨_, rfl⟩
      have et1 : ad (ad (ad (ad h (xo (xo (rotI e 6) (rotI e 11)) (rotI e 25))) (orr (an e f) (an (bits .xor .u32 4294967295 e) g))) kt) wt = t1 := ht1.symm
      rw [et1]
      have HT1 := Lib.hid ht1
      clear et1 ht1
      simp only [List.zip_cons_cons, List.zip_nil_right, putsL]
      go_simp
      refine (by assumption : ∀ (a : Act) (w : World), Code.wp _ _ _ a w → _) _ _ ?_
      have R2 : Hid (Calls Tryz.prog 105 #[.int .u32 a, .int .i64 2] we fun e w' => e = .returned (.int .u32 (rotI a 2)) ∧ w' = we) := Lib.hid (rotate_calls we a 2 (by decide) (by decide))
      have R13 : Hid (Calls Tryz.prog 105 #[.int .u32 a, .int .i64 13] we fun e w' => e = .returned (.int .u32 (rotI a 13)) ∧ w' = we) := Lib.hid (rotate_calls we a 13 (by decide) (by decide))
      have R22 : Hid (Calls Tryz.prog 105 #[.int .u32 a, .int .i64 22] we fun e w' => e = .returned (.int .u32 (rotI a 22)) ∧ w' = we) := Lib.hid (rotate_calls we a 22 (by decide) (by decide))
      have m3 := (MC0.out we HWE.out.1).2.2.2.1
      have HBQ : Hid (Blk we B4 (u32s [a, b, c, d, e, f, g, h])) := Lib.hid (HM.out.q.keep (by rw [HWE.out.1]))
      obtain ⟨t2, ht2⟩ : ∃ x, x = t2F ⟨a, b, c, d, e, f, g, h⟩ := ⟨_, rfl⟩
      have HT2 := Lib.hid ht2
      clear MC0 ht2
      have HRF : Hid (roundF ⟨a, b, c, d, e, f, g, h⟩ kt wt = ⟨(t1 + (bits .xor .u32 (bits .xor .u32 (rotI a 2) (rotI a 13)) (rotI a 22) + bits .or .u32 (bits .or .u32 (bits .and .u32 a b) (bits .and .u32 a c)) (bits .and .u32 b c))) % 4294967296, a, b, c, (d + t1) % 4294967296, e, f, g⟩) := Lib.hid <| by
        unfold roundF
        rw [← HT1.out]
        unfold t2F ad xo orr an
        simp only [IntKind.wrap_u32', Int.add_emod_emod]
      go_wp2_with first | (go_at_call 105; first | (with_reducible refine R2.out.mono ?_; rintro e w' ⟨rfl, rfl⟩) | (with_reducible refine R13.out.mono ?_; rintro e w' ⟨rfl, rfl⟩) | (with_reducible refine R22.out.mono ?_; rintro e w' ⟨rfl, rfl⟩)) | ((with_reducible show wpList _ _ _ (Oper.mk _ (Op.store 165 _ _) _ _ _ _ :: _) _ _); go_loud (refine wpList_storeS sS8 rfl _ _ rfl B4 (u32s [a, b, c, d, e, f, g, h]) (u32s [(t1 + (bits .xor .u32 (bits .xor .u32 (rotI a 2) (rotI a 13)) (rotI a 22) + bits .or .u32 (bits .or .u32 (bits .and .u32 a b) (bits .and .u32 a c)) (bits .and .u32 b c))) % 4294967296, a, b, c, (d + t1) % 4294967296, e, f, g]) rfl rfl HBQ.out rfl rfl (u32s_one _) ?_))
      intro wf hbf hgf
      have HF : Hid (PrR1 w B0 B2 B3 B4 s L (.int .i64 ((t + 1 : Nat) : Int)) wf) := Lib.hid <| by
        have ho := HO.out
        have he := HE0.out
        have hm := HM.out
        have hk := HWE.out.1
        refine ⟨t + 1, HLT.out, rfl, (hm.st.keep (by rw [hk])).grown hgf (by simp; omega), (hm.res.keep (by rw [hk])).grown hgf (by simp; omega), (hm.ws.keep (by rw [hk])).grown hgf (by simp; omega), ?_, ?_, ?_⟩
        · rw [HRD.out, HRF.out]
          exact hbf
        · have hb : Below w.heap.size w wr := hm.bel
          have hbe : Below w.heap.size w w' := by rw [HWE.out.2]; exact hb.drew.drew
          exact HG0.out.below (hbe.grown hgf hbe.size fun j e => by injection e with e; omega) HZ2.out
        · have hbe : Below w.heap.size w w' := by rw [HWE.out.2]; exact hm.bel.drew.drew
          exact hbe.grown hgf hbe.size fun j e => by injection e with e; omega
      clear hbf hgf R2 R13 R22 m3 HBQ HRF HT1 HT2 HWD HWE HRD HM HQ
      go_wp2
      go_roundw
      case rel => first | exact HF.out | (have e5 : ((t : Int) + 1) = ((t + 1 : Nat) : Int) := by omega
                                          rw [e5]; exact HF.out)
      case measure => simp [intOf]; have := HLT.out; omega
    · have e64 : (t : Int) = 64 := by omega
      rw [e64]
      have ht64 : t = 64 := by omega
      clear e64 hlt ht
      subst ht64
      obtain ⟨w9, hw9⟩ : ∃ w9, w9 = wr := ⟨_, rfl⟩
      rw [← hw9] at HM ⊢
      clear hw9
      go_wp2
      go_loopw [98] (fun s98 wr => PrR2 w B0 B2 B4 s q s98 wr) (fun s98 _ => 8 - (intOf s98).toNat)
      case atStart =>
        have hm := HM.out
        exact ⟨0, by decide, rfl, hm.st, hm.res, hm.q, hm.bel⟩
      case round =>
        clear HM
        obtain ⟨i, hi, rfl, h0, h2, h4, hbel⟩ := hrel
        have H0 := Lib.hid h0
        have H2 := Lib.hid h2
        have H4 := Lib.hid h4
        have HBEL := Lib.hid hbel
        clear h0 h2 h4 hbel
        by_cases hlt : i < 8
        · have HLT := Lib.hid hlt
          obtain ⟨x, hx⟩ : ∃ x, x = s.l.getD i 0 := ⟨_, rfl⟩
          obtain ⟨y, hy⟩ : ∃ y, y = q.l.getD i 0 := ⟨_, rfl⟩
          have HX : Hid ((sumTo s q i).getD i 0 = x ∧ (sumTo s q i).set i (ad x y) = sumTo s q (i + 1)) := Lib.hid (by rw [hx, hy]; exact sumTo_set s q hlt)
          have MC : Hid (∀ (w' : World), w' = wr.drew → w'.cell? ⟨B0, i, none⟩ = some (.int .u32 x) ∧ w'.cell? ⟨B4, i, none⟩ = some (.int .u32 y)) := Lib.hid <| by
            intro w' e
            subst e
            have h1 := H0.out.drew.cell (u32s_get (l := sumTo s q i) (k := i) (by rw [sumTo_len s q (by omega)]; exact hlt))
            rw [HX.out.1] at h1
            have h2 := H4.out.drew.cell (u32s_get (l := q.l) (k := i) (by rw [S8.len]; exact hlt))
            rw [← hy] at h2
            exact ⟨h1, h2⟩
          clear hx hy hi
          go_wp2_with fail
          refine region_tail 8 [.int .i64 (i : Int), .pointer (some ⟨B0, i, none⟩), .int .u32 x, .int .i64 (i : Int), .pointer (some ⟨B4, i, none⟩), .int .u32 y, .int .u32 (ad x y), .pointer (some ⟨B0, i, none⟩)] [some 101, some 102, some 103, some 104, some 105, some 106, some 107, some 108] (fun _ w' => w' = wr.drew) (by kernel_rfl) (by kernel_rfl) (by kernel_rfl) (by kernel_rfl) rfl rfl rfl (fun ii hii => ?_) ?_
          · match ii, hii with
            | 0, _ => exact vstep_first rfl (vwant_none rfl) (fun _ _ h => h) 16 (Or.inl rfl) (by kernel_rfl) rfl
            | 1, _ => exact vstep_pure rfl (vwant_none rfl) (fun _ _ h => h) (fun LL aa ww cc => ⟨.pointer (some ⟨B0, i, none⟩), by have e0 : aa.tmps.getD 2 undef = .pointer (some ⟨B0, 0, none⟩) := (cc.orig 2 (by kernel_rfl)).trans rfl; have e1 : aa.tmps.getD 101 undef = .int .i64 (i : Int) := cc.slot 0 101 (by kernel_rfl) rfl; have q1 : (i : Int) < 8 := (by have := HLT.out; omega); simp only [execOp, Act.eval]; go_simp, rfl⟩)
            | 2, _ => exact vstep_pure rfl (vwant_none rfl) (fun _ _ h => h) (fun LL aa ww cc => ⟨.int .u32 x, by have e0 : aa.tmps.getD 102 undef = .pointer (some ⟨B0, i, none⟩) := cc.slot 1 102 (by kernel_rfl) rfl; obtain ⟨m0, m1⟩ := MC.out _ cc.world; simp only [execOp, Act.eval]; go_simp, rfl⟩)
            | 3, _ => exact vstep_first rfl (vwant_none rfl) (fun _ _ h => h) 16 (Or.inl rfl) (by kernel_rfl) rfl
            | 4, _ => exact vstep_pure rfl (vwant_none rfl) (fun _ _ h => h) (fun LL aa ww cc => ⟨.pointer (some ⟨B4, i, none⟩), by have e0 : aa.tmps.getD 6 undef = .pointer (some ⟨B4, 0, none⟩) := (cc.orig 6 (by kernel_rfl)).trans rfl; have e1 : aa.tmps.getD 104 undef = .int .i64 (i : Int) := cc.slot 3 104 (by kernel_rfl) rfl; have q1 : (i : Int) < 8 := (by have := HLT.out; omega); simp only [execOp, Act.eval]; go_simp, rfl⟩)
            | 5, _ => exact vstep_pure rfl (vwant_none rfl) (fun _ _ h => h) (fun LL aa ww cc => ⟨.int .u32 y, by have e0 : aa.tmps.getD 105 undef = .pointer (some ⟨B4, i, none⟩) := cc.slot 4 105 (by kernel_rfl) rfl; obtain ⟨m0, m1⟩ := MC.out _ cc.world; simp only [execOp, Act.eval]; go_simp, rfl⟩)
            | 6, _ => exact vstep_pure rfl (vwant_none rfl) (fun _ _ h => h) (fun LL aa ww cc => ⟨.int .u32 (ad x y), by have e0 : aa.tmps.getD 103 undef = .int .u32 x := cc.slot 2 103 (by kernel_rfl) rfl; have e1 : aa.tmps.getD 106 undef = .int .u32 y := cc.slot 5 106 (by kernel_rfl) rfl; simp only [execOp, Act.eval]; go_simp <;> rfl, rfl⟩)
            | 7, _ => exact vstep_pure rfl (vwant_none rfl) (fun _ _ h => h) (fun LL aa ww cc => ⟨.pointer (some ⟨B0, i, none⟩), by have e0 : aa.tmps.getD 2 undef = .pointer (some ⟨B0, 0, none⟩) := (cc.orig 2 (by kernel_rfl)).trans rfl; have e1 : aa.tmps.getD 101 undef = .int .i64 (i : Int) := cc.slot 0 101 (by kernel_rfl) rfl; have q1 : (i : Int) < 8 := (by have := HLT.out; omega); simp only [execOp, Act.eval]; go_simp, rfl⟩)
            | n + 8, h => exact absurd h (by show ¬ (n + 8 < 8); omega)
          · intro L6 w6 hall hJ
            have HBD : Hid (Blk w6 B0 (u32s (sumTo s q i)) ∧ Blk w6 B2 (u32s (List.replicate 8 0)) ∧ Blk w6 B4 (u32s q.l) ∧ Below w.heap.size w w6) := Lib.hid <| by
              rw [hJ]
              exact ⟨H0.out.drew, H2.out.drew, H4.out.drew, HBEL.out.drew⟩
            clear hall hJ MC H0 H2 H4 HBEL
            simp only [List.zip_cons_cons, List.zip_nil_right, putsL]
            go_simp
            go_wp2_with ((with_reducible show wpList _ _ _ (Oper.mk _ (Op.store _ _ _) _ _ _ _ :: _) _ _); refine wpList_storeB rfl _ _ _ rfl B0 i (u32s (sumTo s q i)) _ (by rw [u32s_len, sumTo_len s q (by have := HLT.out; omega)]; exact HLT.out) rfl rfl HBD.out.1 (by kernel_rfl) rfl ?_)
            intro w7 hb7 hg7 hs7
            have HF : Hid (PrR2 w B0 B2 B4 s q (.int .i64 ((i + 1 : Nat) : Int)) w7) := Lib.hid <| by
              have ho := HO.out
              have he := HE0.out
              obtain ⟨c0, c2, c4, cb⟩ := HBD.out
              refine ⟨i + 1, HLT.out, rfl, ?_, c2.grown hg7.out (by simp; omega), c4.grown hg7.out (by simp; omega), cb.grown hg7.out cb.size fun j e => by injection e with e; omega⟩
              have h7 := hb7.out
              have e : (u32s (sumTo s q i)).set i (.int .u32 (ad x y)) = u32s (sumTo s q (i + 1)) := by
                unfold u32s
                rw [← HX.out.2, List.map_set]
              rw [e] at h7
              exact h7
            clear hb7 hg7 hs7 HBD HX
            go_wp2
            go_roundw
            case rel => first | exact HF.out | (have e5 : ((i : Int) + 1) = ((i + 1 : Nat) : Int) := by omega
                                                rw [e5]; exact HF.out)
            case measure => simp [intOf]; have := HLT.out; omega
        · have hi8 : i = 8 := by omega
          subst hi8
          obtain ⟨pl, hpl⟩ : ∃ pl, pl = u32s (procF s L).l := ⟨_, rfl⟩
          have HPL := Lib.hid hpl
          have HB : Hid (Blk wr B0 pl) := Lib.hid <| by
            have h0 := H0.out
            have e : sumTo s q 8 = (procF s L).l := by
              unfold procF
              rw [← HQ.out]
              rfl
            rw [e] at h0
            rw [hpl]
            exact h0
          have HP8 : Hid (pl.length = 8) := Lib.hid (by rw [hpl, u32s_len]; rfl)
          clear H0 H4 hpl
          go_wp2_with first | ((with_reducible show wpList _ _ _ (Oper.mk _ (Op.load 165 _) _ _ _ _ :: _) _ _); refine wpList_loadS sS8 rfl _ rfl B0 pl rfl HB.out HP8.out ?_) | ((with_reducible show wpList _ _ _ (Oper.mk _ (Op.store _ _ _) _ _ _ _ :: _) _ _); refine wpList_storeS sS8 rfl _ _ rfl B2 (u32s (List.replicate 8 0)) pl rfl rfl H2.out (by rfl) HP8.out (by rw [HPL.out]; exact u32s_one _) ?_)
          intro w7 hb7 hg7
          have HR : Hid (Below w.heap.size w w7) := Lib.hid <| by
            have ho := HO.out
            have he := HE0.out
            refine HBEL.out.grown hg7 HBEL.out.size fun j e => ?_
            injection e with e
            omega
          have l1 := Lib.hid (run_loadS sS8 B2 _ hb7 HP8.out)
          clear hg7 hb7 HB H2 HBEL
          go_wp2
          exact bodyPost_ret (v := .agg pl.toArray) (by simp [results, Tryz.results84, asAddr, l1.out]) rfl ⟨by rw [HPL.out], HR.out⟩
end Go.Proofs.YtjfpoahmjgeogaaGreatDoor
/- As XTailM, where some of the first operations (F: pure, each of a known value) may also come between or behind the last ones ('late stores'). Over whatever program. -/
namespace Nac
open Go Go.RowKit
def readsOf (o : Oper) : Option (List Tmp) := match o.op with
  | .store _ (.tmp x) (.tmp y) => some [x, y]
  | .assign (.tmp x) => some [x]
  | .move (.tmp x) => some [x]
  | _ => none
def lateReads (ops : Array Oper) (F : List Nat) (i : Nat) : Bool := match ops[i]? with
  | none => false
  | some o => o.guard.isNone && match readsOf o with
    | none => false
    | some rs => F.all fun f => (closOf ops i (depsOf ops i)).contains f || rs.all fun x => dstOf ops f != some x
def lateB (ops : Array Oper) (p : Nat) (F : List Nat) : Bool := decide (p ≤ ops.size) && F.all (fun f => decide (f < p)) && (List.range ops.size).all fun i => decide (i < p) || ((List.range i).all (fun j => F.contains j || (closOf ops i (depsOf ops i)).contains j) && lateReads ops F i)
def DoesOp (P : Program) (o : Oper) (a : Act) (w : World) (v : Value) (w' : World) : Prop := (execOp a.eval o).run P w = .ok (.value v) w' ∨ (v = undef ∧ (execOp a.eval o).run P w = .ok .skip w')
def TailOK (P : Program) (Q : Exit → Act → World → Prop) : List Oper → Act → World → Prop
  | [], a, w => Q .normal a w
  | o :: l, a, w => ∃ v w', (∀ a' : Act, (∀ rs, readsOf o = some rs → ∀ x ∈ rs, a'.tmps.getD x undef = a.tmps.getD x undef) → DoesOp P o a' w v w') ∧ TailOK P Q l (a.put o.dst v) w'
def FStep (P : Program) (ops : Array Oper) (D : Nat → VD) (a0 : Act) (W0 : World) (i : Nat) : Prop :=
  ∀ o, ops[i]? = some o → o.guard = none ∧ ∃ v, D i = .is v ∧ ∀ a w, MCtx ops D a0 W0 i a w → ∀ w2, (execOp a.eval o).run P w2 = .ok (.value v) w2
def VD.any : VD := .pr (fun _ _ => True) (fun _ _ _ _ _ => trivial)
section
variable {P : Program} {ops : Array Oper} {Q : Exit → Act → World → Prop} {D : Nat → VD} {a0 : Act} {W0 : World}
theorem put_get (a : Act) (d : Option Tmp) (v : Value) (t : Nat) (h : ∀ d', d = some d' → d' < a.tmps.size) : (a.put d v).tmps.getD t undef = if d = some t then v else a.tmps.getD t undef := by
  cases d with
  | none => simp [Act.put]
  | some d' =>
    simp only [Act.put]
    rw [getD_put _ _ _ _ (h d' rfl)]
    simp
theorem dist_of {n : Nat} (hd : distinctB ops n = true) : ∀ x y d, x < ops.size → y < ops.size → dstOf ops x = some d → d < n ∧ (dstOf ops y = some d → x = y) := by
  intro x y d hx hy hxd
  unfold distinctB at hd
  rw [List.all_eq_true] at hd
  have h1 := hd x (by simpa using hx)
  rw [Bool.and_eq_true, List.all_eq_true] at h1
  obtain ⟨h1, h2⟩ := h1
  have h2 := h2 y (by simpa using hy)
  rw [hxd] at h1 h2
  refine ⟨by simpa using h1, fun hyd => ?_⟩
  rw [hyd] at h2
  simpa using h2
theorem dst_in {k d : Nat} (hk : dstOf ops k = some d) : k < ops.size := by
  rcases Nat.lt_or_ge k ops.size with h | h
  · exact h
  · simp [dstOf, Array.getElem?_eq_none h] at hk
theorem deps_listed {listed : Array Bool} {i : Nat} {o : Oper} (hc : ∀ i o, ops[i]? = some o → listed.getD i false = true → ∀ e ∈ o.after, Region.binds .any e = true → listed.getD e.on false = true) (ho : ops[i]? = some o)
    (hr : ∀ e ∈ o.after, Region.binds .any e = true → listed.getD e.on false = true) : ∀ j, (closOf ops i (depsOf ops i)).contains j = true → listed.getD j false = true := by
  intro j hj
  refine clos_listed hc i _ ?_ j (by simpa using hj)
  intro x hx
  unfold depsOf at hx
  simp only [ho, List.mem_map, List.mem_filter, Array.mem_toList_iff] at hx
  obtain ⟨e, ⟨he, hb⟩, rfl⟩ := hx
  exact hr e he hb
theorem mctx_of {listed : Array Bool} {a : Act} {w : World} {i : Nat} {o : Oper} (hI : MInv ops D a0 W0 listed a w) (ho : ops[i]? = some o) (h2 : listed.getD i false = false)
    (hready : ∀ e ∈ o.after, Region.binds .any e = true → listed.getD e.on false = true) : MCtx ops D a0 W0 i a w := by
  have hpc := preds_closed hI.closed 3 i (fun o' ho' => by rw [ho] at ho'; obtain rfl := Option.some.inj ho'; exact hready)
  refine ⟨hI.below, hI.tsize, fun k d hk hkd => hI.done k d (hpc k hk) hkd, fun t ht => hI.rest t fun k hl hkd => ?_⟩
  unfold origB at ht
  rw [List.all_eq_true] at ht
  have h3 := ht k (by simpa using dst_in hkd)
  rw [hkd] at h3
  simp only [bne_self_eq_false, Bool.false_or, List.contains_iff_mem] at h3
  have := preds_closed hI.closed 3 k (fun o' ho' e he hb' => hI.closed k o' ho' hl e he hb') i h3
  rw [h2] at this
  cases this
theorem wpOp_ok {x : Nat} {o : Oper} (ho : ops[x]? = some o) (hg : o.guard = none) {K : Act → World → Prop} {a : Act} {w w' : World} {v : Value} (hr : (execOp a.eval o).run P w = .ok (.value v) w') (hK : K (a.put o.dst v) w') : wpOp P ops Q x K a w := by
  unfold wpOp
  rw [ho]
  simp only
  have hw : Region.wanted o (yielded ops a.tmps) = true := by simp [Region.wanted, hg]
  rw [if_pos hw]
  refine Or.inl ?_
  unfold Oper.wp
  rw [hr]
  exact hK
theorem wpOp_does {x : Nat} {o : Oper} (ho : ops[x]? = some o) (hg : o.guard = none) {K : Act → World → Prop} {a : Act} {w w' : World} {v : Value} (hr : DoesOp P o a w v w') (hK : K (a.put o.dst v) w') : wpOp P ops Q x K a w := by
  rcases hr with hr | ⟨rfl, hr⟩
  · exact wpOp_ok ho hg hr hK
  unfold wpOp
  rw [ho]
  simp only
  have hw : Region.wanted o (yielded ops a.tmps) = true := by simp [Region.wanted, hg]
  rw [if_pos hw]
  refine Or.inl ?_
  unfold Oper.wp
  rw [hr]
  exact hK
structure LateB (ops : Array Oper) (p : Nat) (F : List Nat) : Prop where
  le : p ≤ ops.size
  small : ∀ f ∈ F, f < p
  chain : ∀ i, i < ops.size → p ≤ i → ∀ j, j < i → j ∉ F → (closOf ops i (depsOf ops i)).contains j = true
  reads : ∀ i o, ops[i]? = some o → p ≤ i → o.guard = none ∧ ∃ rs, readsOf o = some rs ∧ ∀ f ∈ F, (closOf ops i (depsOf ops i)).contains f = true ∨ ∀ x ∈ rs, dstOf ops f ≠ some x
theorem lateB_of {p : Nat} {F : List Nat} (h : lateB ops p F = true) : LateB ops p F := by
  unfold lateB at h
  rw [Bool.and_eq_true, Bool.and_eq_true, List.all_eq_true, List.all_eq_true] at h
  obtain ⟨⟨h1, h2⟩, h3⟩ := h
  refine ⟨by simpa using h1, fun f hf => by simpa using h2 f hf, fun i hi hp j hj hF => ?_, fun i o ho hp => ?_⟩
  · have h4 := h3 i (by simpa using hi)
    rw [show decide (i < p) = false by simpa using hp, Bool.false_or, Bool.and_eq_true, List.all_eq_true] at h4
    have h5 := h4.1 j (by simpa using hj)
    rw [show F.contains j = false by simpa using hF, Bool.false_or] at h5
    exact h5
  · have hi : i < ops.size := (Array.getElem?_eq_some_iff.1 ho).1
    have h4 := h3 i (by simpa using hi)
    rw [show decide (i < p) = false by simpa using hp, Bool.false_or, Bool.and_eq_true] at h4
    have h5 := h4.2
    unfold lateReads at h5
    rw [ho] at h5
    simp only [Bool.and_eq_true] at h5
    refine ⟨by simpa using h5.1, ?_⟩
    have h6 := h5.2
    cases hrs : readsOf o with
    | none => rw [hrs] at h6; cases h6
    | some rs =>
    rw [hrs] at h6
    refine ⟨rs, rfl, fun f hf => ?_⟩
    simp only [List.all_eq_true] at h6
    have h7 := h6 f hf
    rw [Bool.or_eq_true] at h7
    rcases h7 with h7 | h7
    · exact .inl h7
    · rw [List.all_eq_true] at h7
      exact .inr fun x hx e => by simpa [e] using h7 x hx
theorem act_eq {a b : Act} (h1 : a.defers = b.defers) (h2 : a.tmps.size = b.tmps.size) (h3 : ∀ t, a.tmps.getD t undef = b.tmps.getD t undef) : a = b := by
  obtain ⟨tm, df⟩ := a
  obtain ⟨tm', df'⟩ := b
  simp only at h1 h2 h3
  subst h1
  congr 1
  apply Array.ext h2
  intro i g1 g2
  have := h3 i
  rw [Array.getD_eq_getD_getElem?, Array.getD_eq_getD_getElem?, Array.getElem?_eq_getElem g1, Array.getElem?_eq_getElem g2] at this
  exact this
theorem late_B {p : Nat} {F : List Nat} (hL : LateB ops p F) (hd : distinctB ops a0.tmps.size = true) (hbk : backB ops = true) (hDp : ∀ i, p ≤ i → ∀ v w, (D i).ok v w) (fstep : ∀ f ∈ F, FStep P ops D a0 W0 f) (wB : World) :
    ∀ (fuel : Nat) (listed : Array Bool) (a b : Act) (w : World) (i : Nat), falses listed ≤ fuel → MInv ops D a0 W0 listed a wB → p ≤ i → i ≤ ops.size → (∀ j, p ≤ j → j < i → listed.getD j false = true) → (∀ j, i ≤ j → listed.getD j false = false) → (∀ j, j < p → j ∉ F → listed.getD j false = true) →
      b.defers = a0.defers → b.tmps.size = a0.tmps.size → (∀ t, (∀ f ∈ F, listed.getD f false = false → dstOf ops f ≠ some t) → a.tmps.getD t undef = b.tmps.getD t undef) → (∀ f ∈ F, ∀ d v, dstOf ops f = some d → D f = .is v → b.tmps.getD d undef = v) →
      TailOK P Q (ops.toList.drop i) b w → wpAny P .any ops Q fuel listed a w := by
  have hend : ∀ (listed : Array Bool) (a b : Act) (w : World) (i : Nat), MInv ops D a0 W0 listed a wB → i ≤ ops.size → p ≤ i → (∀ j, i ≤ j → listed.getD j false = false) → b.defers = a0.defers → b.tmps.size = a0.tmps.size → (∀ t, (∀ f ∈ F, listed.getD f false = false → dstOf ops f ≠ some t) → a.tmps.getD t undef = b.tmps.getD t undef) →
      TailOK P Q (ops.toList.drop i) b w → (∀ j, j < ops.size → listed.getD j false = true) → Q .normal a w := by
    intro listed a b w i hI hi hp hz hbd hbs hab h hl
    have hin : i = ops.size := by
      rcases Nat.lt_or_ge i ops.size with h1 | h1
      · have := hl i h1; rw [hz i (Nat.le_refl _)] at this; cases this
      · omega
    rw [hin, List.drop_eq_nil_of_le (by simp)] at h
    have e : a = b := act_eq (hI.defers.trans hbd.symm) (hI.tsize.trans hbs.symm) fun t => hab t fun f hf hl' => by
      have := hl f (by have := hL.small f hf; have := hL.le; omega)
      rw [this] at hl'; cases hl'
    rw [e]
    exact h
  intro fuel
  induction fuel with
  | zero =>
    intro listed a b w i hf hI hp hi h1 hz hA hbd hbs hab hbv h
    have hl : ∀ j, j < ops.size → listed.getD j false = true := fun j hj => falses_zero listed (by omega) j (by rw [hI.size]; exact hj)
    refine ⟨?_, hend listed a b w i hI hi hp hz hbd hbs hab h hl⟩
    apply List.eq_nil_iff_forall_not_mem.2
    intro x hx
    obtain ⟨g1, g2, _⟩ := ready_of hx hI.size
    rw [hl x g1] at g2
    cases g2
  | succ fuel ih =>
  intro listed a b w i hf hI hp hi h1 hz hA hbd hbs hab hbv h
  refine ⟨fun hr => hend listed a b w i hI hi hp hz hbd hbs hab h fun j hj => ?_, fun x hx => ?_⟩
  · cases hb : listed.getD j false
    · exact absurd hr (ready_ex hbk hI.size j hj hb)
    · rfl
  obtain ⟨g1, g2, o, ho, hready⟩ := ready_of hx hI.size
  have hls : x < listed.size := by rw [hI.size]; exact g1
  have hfl : falses (listed.setIfInBounds x true) ≤ fuel := by
    have := falses_set listed x hls g2
    omega
  have hdo : dstOf ops x = o.dst := by simp [dstOf, ho]
  have hlt : ∀ (a' : Act), a'.tmps.size = a0.tmps.size → ∀ d', o.dst = some d' → d' < a'.tmps.size := fun a' hs d' hd' => by
    rw [hs]; exact (dist_of hd x x d' g1 g1 (by rw [hdo, hd'])).1
  rcases Nat.lt_or_ge x p with hxp | hxp
  · have hxF : x ∈ F := by
      apply Classical.byContradiction
      intro hn
      rw [hA x hxp hn] at g2
      cases g2
    obtain ⟨hg, v, hDv, hex⟩ := fstep x hxF o ho
    refine wpOp_ok ho hg (hex a wB (mctx_of hI ho g2 hready) w) ?_
    refine ih _ _ b w i hfl (mono_put hI g1 ho hd hready (by rw [hDv]; rfl) (Below.refl _ _)) hp hi (fun j hj1 hj2 => ?_) (fun j hj => ?_) (fun j hj1 hj2 => ?_) hbd hbs (fun t ht => ?_) hbv h
    · rw [getD_setIf _ _ _ hls, if_neg (by omega)]; exact h1 j hj1 hj2
    · rw [getD_setIf _ _ _ hls, if_neg (by omega)]; exact hz j hj
    · rw [getD_setIf _ _ _ hls, if_neg (fun e => hj2 (by rw [← e]; exact hxF))]; exact hA j hj1 hj2
    · rw [put_get _ _ _ _ (hlt a hI.tsize)]
      by_cases hdt : o.dst = some t
      · rw [if_pos hdt]
        exact (hbv x hxF t v (by rw [hdo]; exact hdt) hDv).symm
      · rw [if_neg hdt]
        refine hab t fun f hf hl' => ?_
        by_cases hfx : f = x
        · rw [hfx, hdo]; exact hdt
        · exact ht f hf (by rw [getD_setIf _ _ _ hls, if_neg (fun e => hfx e.symm)]; exact hl')
  · have hall : ∀ j, j < x → j ∉ F → listed.getD j false = true := fun j hj hF => deps_listed hI.closed ho hready j (hL.chain x g1 hxp j hj hF)
    have hxi : x = i := by
      rcases Nat.lt_or_ge x i with h2 | h2
      · rw [h1 x hxp h2] at g2; cases g2
      rcases Nat.lt_or_ge i x with h3 | h3
      · have := hall i h3 (fun hF => by have := hL.small i hF; omega)
        rw [hz i (Nat.le_refl _)] at this; cases this
      · omega
    subst hxi
    have hdr : ops.toList.drop x = o :: ops.toList.drop (x + 1) := by
      rw [List.drop_eq_getElem_cons (by simpa using g1)]
      congr 1
      have := Array.getElem?_eq_getElem g1
      rw [this] at ho
      simpa using Option.some.inj ho
    rw [hdr] at h
    obtain ⟨v, w', hex, hrest⟩ := h
    obtain ⟨hg, rs, hrs, hfr⟩ := hL.reads x o ho hxp
    refine wpOp_does ho hg (hex a fun rs' hrs' y hy => hab y fun f hf hl' => ?_) ?_
    · rw [hrs] at hrs'
      obtain rfl := Option.some.inj hrs'
      rcases hfr f hf with h2 | h2
      · rw [deps_listed hI.closed ho hready f h2] at hl'; cases hl'
      · exact h2 y hy
    refine ih _ _ (b.put o.dst v) w' (x + 1) hfl (mono_put hI g1 ho hd hready (hDp x hxp v wB) (Below.refl _ _)) (by omega) g1 (fun j hj1 hj2 => ?_) (fun j hj => ?_) (fun j hj1 hj2 => ?_) (by rw [put_defers]; exact hbd) (by rw [put_size]; exact hbs) (fun t ht => ?_) (fun f hf d u hfd hDf => ?_) hrest
    · rw [getD_setIf _ _ _ hls]
      split
      · rfl
      · exact h1 j hj1 (by omega)
    · rw [getD_setIf _ _ _ hls, if_neg (by omega)]; exact hz j (by omega)
    · rw [getD_setIf _ _ _ hls, if_neg (by omega)]; exact hA j hj1 hj2
    · rw [put_get _ _ _ _ (hlt a hI.tsize), put_get _ _ _ _ (hlt b hbs)]
      split
      · rfl
      · refine hab t fun f hf hl' => ht f hf ?_
        rw [getD_setIf _ _ _ hls, if_neg (by have := hL.small f hf; omega)]
        exact hl'
    · rw [put_get _ _ _ _ (hlt b hbs), if_neg]
      · exact hbv f hf d u hfd hDf
      · intro e
        have hfs := hL.small f hf
        have := (dist_of hd x f d g1 (by omega) (by rw [hdo]; exact e)).2 hfd
        omega
theorem late_A {p : Nat} {F : List Nat} (hL : LateB ops p F) (hd : distinctB ops a0.tmps.size = true) (hbk : backB ops = true) (hDp : ∀ i, p ≤ i → ∀ v w, (D i).ok v w) (fstep : ∀ f ∈ F, FStep P ops D a0 W0 f)
    (step : ∀ i, i < p → i ∉ F → MStep P ops Q D a0 W0 i)
    (fin : ∀ listed a w, MInv ops D a0 W0 listed a w → (∀ j, p ≤ j → listed.getD j false = false) → (∀ j, j < p → j ∉ F → listed.getD j false = true) →
      ∃ b : Act, b.defers = a0.defers ∧ b.tmps.size = a0.tmps.size ∧ (∀ t, (∀ f ∈ F, listed.getD f false = false → dstOf ops f ≠ some t) → a.tmps.getD t undef = b.tmps.getD t undef) ∧ (∀ f ∈ F, ∀ d v, dstOf ops f = some d → D f = .is v → b.tmps.getD d undef = v) ∧ TailOK P Q (ops.toList.drop p) b w) :
    ∀ (fuel : Nat) (listed : Array Bool) (a : Act) (w : World), falses listed ≤ fuel → (∀ j, p ≤ j → listed.getD j false = false) → MInv ops D a0 W0 listed a w → wpAny P .any ops Q fuel listed a w := by
  have hall : ∀ (fuel : Nat) (listed : Array Bool) (a : Act) (w : World), falses listed ≤ fuel → (∀ j, p ≤ j → listed.getD j false = false) → MInv ops D a0 W0 listed a w → (∀ j, j < p → j ∉ F → listed.getD j false = true) → wpAny P .any ops Q fuel listed a w := by
    intro fuel listed a w hf hz hI hl
    obtain ⟨b, hb1, hb2, hb3, hb4, hb5⟩ := fin listed a w hI hz hl
    exact late_B hL hd hbk hDp fstep w fuel listed a b w p hf hI (Nat.le_refl _) hL.le (fun j h1 h2 => by omega) hz hl hb1 hb2 hb3 hb4 hb5
  intro fuel
  induction fuel with
  | zero =>
    intro listed a w hf hz hI
    exact hall 0 listed a w hf hz hI fun i hi _ => falses_zero listed (by omega) i (by rw [hI.size]; have := hL.le; omega)
  | succ fuel ih =>
  intro listed a w hf hz hI
  by_cases hdone : ∀ j, j < p → j ∉ F → listed.getD j false = true
  · exact hall _ listed a w hf hz hI hdone
  have hnd : ∃ j, j < p ∧ j ∉ F ∧ listed.getD j false = false := by
    apply Classical.byContradiction
    intro h
    refine hdone fun j hj hF => ?_
    cases hb : listed.getD j false
    · exact absurd ⟨j, hj, hF, hb⟩ h
    · rfl
  obtain ⟨j0, hj0, hF0, hl0⟩ := hnd
  refine ⟨fun hr => absurd hr (ready_ex hbk hI.size j0 (by have := hL.le; omega) hl0), fun i hi => ?_⟩
  obtain ⟨h1, h2, o, ho, hready⟩ := ready_of hi hI.size
  have hip : i < p := by
    rcases Nat.lt_or_ge i p with h | h
    · exact h
    · have := deps_listed hI.closed ho hready j0 (hL.chain i h1 h j0 (by omega) hF0)
      rw [hl0] at this
      cases this
  have hctx := mctx_of hI ho h2 hready
  have hfl : falses (listed.setIfInBounds i true) ≤ fuel := by
    have := falses_set listed i (by rw [hI.size]; exact h1) h2
    omega
  have hz' : ∀ j, p ≤ j → (listed.setIfInBounds i true).getD j false = false := fun j hj => by
    rw [getD_setIf _ _ _ (by rw [hI.size]; exact h1), if_neg (by omega)]
    exact hz j hj
  by_cases hiF : i ∈ F
  · obtain ⟨hg, v, hDv, hex⟩ := fstep i hiF o ho
    exact wpOp_ok ho hg (hex a w hctx w) (ih _ _ _ hfl hz' (mono_put hI h1 ho hd hready (by rw [hDv]; rfl) (Below.refl _ _)))
  have hs := step i hip hiF o ho a w hctx
  unfold wpOp
  rw [ho]
  simp only
  split
  · rename_i hw
    rw [if_pos hw] at hs
    refine Or.inl (Oper.wp_mono ?_ hs)
    rintro a' w' ⟨v, rfl, hv, hb⟩
    exact ih _ _ _ hfl hz' (mono_put hI h1 ho hd hready hv hb)
  · rename_i hw
    rw [if_neg hw] at hs
    exact ih _ _ _ hfl hz' (mono_put hI h1 ho hd hready hs (Below.refl _ _))
theorem region_late {id : Nat} {a0 : Act} {w0 : World} (p : Nat) (F : List Nat) (D : Nat → VD) (ds : List (Option Tmp)) (hm : P.follows .mixedOrders = true) (hd : distinctB ops a0.tmps.size = true) (hbk : backB ops = true)
    (hch : lateB ops p F = true) (hds : (ops.toList.take p).map (·.dst) = ds) (hDp : ∀ i, p ≤ i → ∀ v w, (D i).ok v w)
    (fstep : ∀ f ∈ F, FStep P ops D a0 w0.drew f)
    (step : ∀ i, i < p → i ∉ F → MStep P ops Q D a0 w0.drew i)
    (fin : ∀ V w, V.length = ds.length → Below w0.heap.size w0 w → (∀ i d, ds[i]? = some (some d) → (D i).ok (V.getD i undef) w) → TailOK P Q (ops.toList.drop p) (putsL (ds.zip V) a0) w) :
    (Code.region id ops true).wp P Q a0 w0 := by
  refine wp_region_any hm ?_
  have hL := lateB_of hch
  have hg : ∀ i, (Array.replicate ops.size false).getD i false = false := by
    intro i
    rw [Array.getD_eq_getD_getElem?, Array.getElem?_replicate]
    split <;> rfl
  refine late_A (D := D) (a0 := a0) (W0 := w0.drew) hL hd hbk hDp fstep step (fun listed a w hI hz hA => ?_) _ _ _ _ ?_ (fun j _ => hg j) ⟨by simp, Below.refl _ _, rfl, rfl, fun i o _ h => (by rw [hg] at h; cases h), fun i d h => (by rw [hg] at h; cases h), fun _ _ => rfl⟩
  · have hb : Below w0.heap.size w0 w := ⟨hI.below.os, hI.below.tape, hI.below.output, hI.below.size, hI.below.block⟩
    have hdsl : ds.length = p := by
      rw [← hds, List.length_map, List.length_take]
      have := hL.le
      simp
      omega
    have hdi : ∀ i, i < p → ds[i]? = some (dstOf ops i) := by
      intro i hi
      have hio : i < ops.size := by have := hL.le; omega
      rw [← hds, List.getElem?_map, List.getElem?_take_of_lt hi, Array.getElem?_toList]
      unfold dstOf
      rw [Array.getElem?_eq_getElem hio]
      rfl
    let vF : Nat → Value := fun i => match D i with | .is v => v | .pr _ _ => undef
    let V : List Value := (List.range p).map fun i => match dstOf ops i with
      | none => undef
      | some d => if listed.getD i false = true then a.tmps.getD d undef else vF i
    have hVl : V.length = ds.length := by simp [V, hdsl]
    have hV : ∀ i d, i < p → dstOf ops i = some d → V[i]? = some (if listed.getD i false = true then a.tmps.getD d undef else vF i) := by
      intro i d hi hid
      simp only [V, List.getElem?_map, List.getElem?_range hi, Option.map_some, hid]
    have hVF : ∀ i d, i < p → dstOf ops i = some d → listed.getD i false = false → ∃ v, D i = .is v ∧ vF i = v := by
      intro i d hi hid hl
      have hiF : i ∈ F := by
        apply Classical.byContradiction
        intro hn
        rw [hA i hi hn] at hl; cases hl
      have hio : i < ops.size := by have := hL.le; omega
      obtain ⟨_, v, hDv, _⟩ := fstep i hiF _ (Array.getElem?_eq_getElem hio)
      exact ⟨v, hDv, by simp only [vF, hDv]⟩
    have hget : ∀ i d, i < p → dstOf ops i = some d → (putsL (ds.zip V) a0).tmps.getD d undef = if listed.getD i false = true then a.tmps.getD d undef else vF i := by
      intro i d hi hid
      have hio : i < ops.size := by have := hL.le; omega
      refine putsL_get d _ _ a0 (dist_of hd i i d hio hio hid).1 (fun x hx hxd => ?_) (fun hn => ?_)
      · obtain ⟨k, hk⟩ := List.mem_iff_getElem?.1 hx
        obtain ⟨k1, k2⟩ := List.getElem?_zip_eq_some.1 hk
        have hkp : k < p := by have := (List.getElem?_eq_some_iff.1 k1).1; omega
        rw [hdi k hkp] at k1
        injection k1 with k1
        rw [hxd] at k1
        have hik := (dist_of hd i k d hio (by have := hL.le; omega) hid).2 k1
        subst hik
        rw [hV i d hi hid] at k2
        exact Option.some.inj k2
      · exact absurd rfl (hn (some d, _) (List.mem_iff_getElem?.2 ⟨i, List.getElem?_zip_eq_some.2 ⟨by rw [hdi i hi, hid], hV i d hi hid⟩⟩))
    refine ⟨putsL (ds.zip V) a0, putsL_defers _ _, putsL_size _ _, fun t ht => ?_, fun f hf d v hfd hDf => ?_, fin V w hVl hb fun i d hid => ?_⟩
    · by_cases hex : ∃ i, i < p ∧ dstOf ops i = some t
      · obtain ⟨i, hi, hit⟩ := hex
        rw [hget i t hi hit]
        cases hl : listed.getD i false with
        | true => rw [if_pos rfl]
        | false =>
        by_cases hiF : i ∈ F
        · exact absurd hit (ht i hiF hl)
        · rw [hA i hi hiF] at hl; cases hl
      · have h1 : a.tmps.getD t undef = a0.tmps.getD t undef := hI.rest t fun i hl hit => by
          rcases Nat.lt_or_ge i p with h | h
          · exact hex ⟨i, h, hit⟩
          · rw [hz i h] at hl; cases hl
        rw [h1]
        by_cases hts : t < a0.tmps.size
        · refine (putsL_get t _ _ a0 hts (fun x hx hxt => ?_) (fun _ => rfl)).symm
          obtain ⟨k, hk⟩ := List.mem_iff_getElem?.1 hx
          obtain ⟨k1, k2⟩ := List.getElem?_zip_eq_some.1 hk
          have hkp : k < p := by have := (List.getElem?_eq_some_iff.1 k1).1; omega
          rw [hdi k hkp] at k1
          injection k1 with k1
          exact absurd ⟨k, hkp, by rw [k1]; exact hxt⟩ hex
        · have e1 : a0.tmps.getD t undef = undef := by rw [Array.getD_eq_getD_getElem?, Array.getElem?_eq_none (Nat.le_of_not_lt hts)]; rfl
          have e2 : (putsL (ds.zip V) a0).tmps.getD t undef = undef := by rw [Array.getD_eq_getD_getElem?, Array.getElem?_eq_none (by rw [putsL_size]; exact Nat.le_of_not_lt hts)]; rfl
          rw [e1, e2]
    · have hfp := hL.small f hf
      rw [hget f d hfp hfd]
      cases hl : listed.getD f false with
      | true =>
        rw [if_pos rfl]
        have := hI.done f d hl hfd
        rw [hDf] at this
        exact this
      | false =>
      rw [if_neg (by simp)]
      simp only [vF, hDf]
    · have hip : i < p := by have := (List.getElem?_eq_some_iff.1 hid).1; omega
      rw [hdi i hip] at hid
      injection hid with hid
      rw [List.getD_eq_getElem?_getD, hV i d hip hid, Option.getD_some]
      cases hl : listed.getD i false with
      | true => rw [if_pos rfl]; exact hI.done i d hl hid
      | false =>
      rw [if_neg (by simp)]
      obtain ⟨v, h1, h2⟩ := hVF i d hip hid hl
      rw [h1, h2]
      rfl
  · unfold falses
    simp
theorem getD_any (l : List VD) (i : Nat) (h : l.length ≤ i) : ∀ v w, (l.getD i VD.any).ok v w := fun v w => by
  rw [List.getD_eq_getElem?_getD, List.getElem?_eq_none h]; trivial
theorem fstep_of {i : Nat} {o : Oper} (ho : ops[i]? = some o) (hg : o.guard = none) (v : Value) (hD : D i = .is v) (h : ∀ a w, MCtx ops D a0 W0 i a w → ∀ w2, (execOp a.eval o).run P w2 = .ok (.value v) w2) : FStep P ops D a0 W0 i := by
  intro o' ho'
  rw [ho] at ho'
  obtain rfl := Option.some.inj ho'
  exact ⟨hg, v, hD, h⟩
theorem tailok_copy {o : Oper} {l : List Oper} {a : Act} {w : World} (x : Tmp) (hop : o.op = .assign (.tmp x) ∨ o.op = .move (.tmp x)) (v : Value) (hx : a.tmps.getD x undef = v) (h : TailOK P Q l (a.put o.dst v) w) : TailOK P Q (o :: l) a w := by
  refine ⟨v, w, fun a' hr => .inl ?_, h⟩
  have e : a'.tmps.getD x undef = v := by
    rw [← hx]
    rcases hop with hop | hop <;> exact hr [x] (by unfold readsOf; rw [hop]) x (by simp)
  rcases hop with hop | hop <;> simp [execOp, hop, Act.eval, e]
end
end Nac
/- A load of more than one cell in a region that draws; a slice from a place on. -/
namespace Go.Proofs.YtjfpoahmjgeogaaGreatDoor
open Go.RowKit Nac
section
variable {ops : Array Oper} {Q : Exit → Act → World → Prop} {D : Nat → VD} {a0 : Act} {W0 : World} {i : Nat} {o : Oper}
theorem mstep_loadO (ho : ops[i]? = some o) (hw : ∀ a w, MCtx ops D a0 W0 i a w → Region.wanted o (yielded ops a.tmps) = true) (x : Tmp) (ty : TypeId) (hop : o.op = .load ty (.tmp x))
    (kx : Nat) (hkx : (preds ops 3 i).contains kx = true) (hx : dstOf ops kx = some x) (p r : Value) (hDx : D kx = .is p) (hD : D i = .is r) (hr : ∀ w, Below W0.heap.size W0 w → (Instr.loadAt ty p).run Tryz.prog w = .ok r w) : MStep Tryz.prog ops Q D a0 W0 i :=
  mstep_pure ho hw fun a w c => by
    have h := c.pred kx x (by simpa using hkx) hx
    rw [hDx] at h
    have h : a.tmps.getD x undef = p := h
    refine ⟨r, ?_, by rw [hD]; rfl⟩
    simp only [execOp, hop, Act.eval, h]
    rw [Sem.run_bind, hr w c.below]
    rfl
theorem mstep_loadI (ho : ops[i]? = some o) (hw : ∀ a w, MCtx ops D a0 W0 i a w → Region.wanted o (yielded ops a.tmps) = true) (x : Tmp) (ty : TypeId) (hop : o.op = .load ty (.tmp x))
    (ht : origB ops i x = true) (p r : Value) (hp : a0.tmps.getD x undef = p) (hD : D i = .is r) (hr : ∀ w, Below W0.heap.size W0 w → (Instr.loadAt ty p).run Tryz.prog w = .ok r w) : MStep Tryz.prog ops Q D a0 W0 i :=
  mstep_pure ho hw fun a w c => by
    have h : a.tmps.getD x undef = p := (c.orig x ht).trans hp
    refine ⟨r, ?_, by rw [hD]; rfl⟩
    simp only [execOp, hop, Act.eval, h]
    rw [Sem.run_bind, hr w c.below]
    rfl
theorem run_loadAtM {T : TypeId} {n : Nat} (hS : SInfo T n) (w : World) (b k : Nat) (cs : List Value) (hb : w.rangeAt b k cs) (hl : cs.length = n) : (Instr.loadAt T (.pointer (some ⟨b, k, none⟩))).run Tryz.prog w = .ok (.agg cs.toArray) w := by
  obtain ⟨d, hu, hd⟩ := hS.row
  exact run_loadAt_mid w b k T cs d hb hu hd (by rw [hS.info, hl])
end
theorem wpList_loadM {w : World} {ops : Array Oper} {rest : List Oper} {o : Oper} {a : Act} {Q : Exit → Act → World → Prop} {T : TypeId} {n : Nat} (hS : SInfo T n) (hg : o.guard = none) (x : Operand) (hop : o.op = .load T x) (b p : Nat) (cs : List Value) (hx : a.eval x = .pointer (some ⟨b, p, none⟩)) (hb : w.rangeAt b p cs) (hl : cs.length = n)
    (h : wpList Tryz.prog ops Q rest (a.put o.dst (.agg cs.toArray)) w) : wpList Tryz.prog ops Q (o :: rest) a w := by
  obtain ⟨d, hu, hd⟩ := hS.row
  exact wpList_load_mid hg T x hop b p hx cs d hb hu hd (by rw [hS.info, hl]) h
def sliceAdr (A : Option Addr) (c i n : Nat) : Option Addr := if c = i then A else A.map (·.add (i * n))
theorem run_sliceLo {T e : TypeId} {n : Nat} (hu : Tryz.prog.underlying T = some (.slice e)) (hz : (Tryz.prog.info? e).map (·.size) = some n) (w : World) (A : Option Addr) (L c i : Nat) (hi : i ≤ L) : (Instr.sliceAt T (.slice A L c) (some (.int .i64 (i : Int))) Option.none Option.none).run Tryz.prog w = .ok (.slice (sliceAdr A c i n) (L - i) (c - i)) w := by
  cases hq : Tryz.prog.info? e with
  | none => simp [hq] at hz
  | some t =>
  have hs : t.size = n := by simpa [hq] using hz
  simp [Instr.sliceAt, sliceAdr, Instr.slice, run_underlying hu, Instr.sliceBounds, Instr.sliceBound, asIntOf, Go.sizeOf, typeInfo, hq, hs, hi]
section
variable {w : World} {ops : Array Oper} {rest : List Oper} {o : Oper} {a : Act} {Q : Exit → Act → World → Prop}
theorem wpList_storeM {T : TypeId} {n : Nat} (hS : SInfo T n) (hg : o.guard = none) (x y : Operand) (hop : o.op = .store T x y) (b k : Nat) (cs0 cs : List Value) (hx : a.eval x = .pointer (some ⟨b, k, none⟩)) (hy : a.eval y = .agg cs.toArray) (hb : Blk w b cs0) (hl0 : k + n ≤ cs0.length) (hl : cs.length = n) (h1 : ∀ v ∈ cs, v.oneCell' = true)
    (h : ∀ w', Blk w' b (cs0.take k ++ cs ++ cs0.drop (k + cs.length)) → w.grownBy w' (some b) → wpList Tryz.prog ops Q rest (a.put o.dst undef) w') : wpList Tryz.prog ops Q (o :: rest) a w :=
  wpList_store_mid hg T x y hop b k cs.toArray hx hy (hb.there k _ (by simpa [hl] using hl0)) (by rw [hS.info]; simp [hl]) (all_oneCell_toArray h1)
    (h _ (by simpa using hb.setCells cs k (by omega)) (by simpa using grown_setCells b cs k w))
theorem wpList_sliceLo {T e : TypeId} {n : Nat} (hu : Tryz.prog.underlying T = some (.slice e)) (hz : (Tryz.prog.info? e).map (·.size) = some n) (hg : o.guard = Option.none) (x y : Operand) (hop : o.op = .slice T x (some y) Option.none Option.none) (A : Option Addr) (L c i : Nat) (hx : a.eval x = .slice A L c) (hy : a.eval y = .int .i64 (i : Int)) (hi : i ≤ L)
    (h : ∀ A2, Hid (A2 = sliceAdr A c i n) → wpList Tryz.prog ops Q rest (a.put o.dst (.slice A2 (L - i) (c - i))) w) : wpList Tryz.prog ops Q (o :: rest) a w :=
  wpList_plain hg fun _ hK => by
    unfold Oper.wp execOp
    simp only [hop, hx, hy, Option.map_some, Option.map_none, Sem.run_bind, run_sliceLo hu hz w A L c i hi, Result.andThen_ok]
    exact hK _ _ (h _ (Lib.hid rfl))
end
end Go.Proofs.YtjfpoahmjgeogaaGreatDoor
/- sha: New. -/
namespace Nac.Sha
open Go Go.RowKit
def hcells (h : Hs) : List Value := u32s h.st.l ++ h.rest.map bv ++ [.int .i64 (h.len : Int)]
end Nac.Sha
namespace Go.Proofs.YtjfpoahmjgeogaaGreatDoor
open Go.RowKit Nac Nac.Sha
theorem sHash : SInfo 168 73 := ⟨by kernel_rfl, _, Tryz.underlying168, rfl⟩
def RetNewH (w : World) (e : Ending) (w' : World) : Prop := ∃ b, e = .returned (.pointer (some ⟨b, 0, none⟩)) ∧ w.heap.size ≤ b ∧ Blk w' b (hcells newH) ∧ Below w.heap.size w w'
theorem newH_calls (w : World) (hG : ShaG w) : Calls Tryz.prog 57 #[] w (RetNewH w) := by
  have HG := Lib.hid hG
  clear hG
  go_enter Tryz.func57, Tryz.ntmps57
  go_wp2_with first | ((with_reducible show wpList _ _ _ (Oper.mk _ (Op.load 165 _) _ _ _ _ :: _) _ _); refine wpList_loadM sS8 rfl _ rfl 0 0 (u32s ini.l) rfl HG.out.1 rfl ?_) | ((with_reducible show wpList _ _ _ (Oper.mk _ (Op.box 168 _) _ _ _ _ :: _) _ _); refine wpList_boxS rfl _ rfl (hcells newH) rfl ?_)
  intro w1 hb1 hg1 hs1
  have HB := Lib.hid hb1
  have HGR := Lib.hid hg1
  clear hb1 hg1 hs1
  go_wp2
  go_ret
  exact ⟨_, rfl, Nat.le_refl _, HB.out, gbelow HGR.out⟩
end Go.Proofs.YtjfpoahmjgeogaaGreatDoor
/- copy of bytes into a block that is known whole. -/
namespace Go.Proofs.YtjfpoahmjgeogaaGreatDoor
open Go.RowKit Nac
section
variable {w : World} {ops : Array Oper} {rest : List Oper} {o : Oper} {a : Act} {Q : Exit → Act → World → Prop}
theorem wpList_copyB (hg : o.guard = none) (x y : Operand) (hop : o.op = .call { callee := .builtin .copy, args := #[x, y], argTypes := #[36, 36] })
    (b oo m mc : Nat) (cs : List Value) (sb so n nc : Nat) (vs : List Value) (hx : a.eval x = .slice (some ⟨b, oo, none⟩) m mc) (hy : a.eval y = .slice (some ⟨sb, so, none⟩) n nc) (hb : Blk w b cs) (hn : vs.length = Nat.min n m) (hle : oo + vs.length ≤ cs.length)
    (hsrc : ∀ j v, vs[j]? = some v → w.cell? ⟨sb, so + j, none⟩ = some v) (h1 : ∀ v ∈ vs, v.oneCell' = true)
    (h : ∀ w', Hid (Blk w' b (cs.take oo ++ vs ++ cs.drop (oo + vs.length))) → Hid (w.grownBy w' (some b)) → wpList Tryz.prog ops Q rest (a.put o.dst (.int .i64 (vs.length : Int))) w') : wpList Tryz.prog ops Q (o :: rest) a w := by
  have hr := run_copy_cells (P := Tryz.prog) w 36 36 o.type 5 b oo m mc ⟨sb, so, none⟩ n nc vs Tryz.underlying36 (by kernel_rfl) hn
    (fun j v hj => by have := hsrc j v hj; simpa [Addr.add_mid] using this) (fun j hj => (hb.there oo vs.length hle j hj).1) (fun j _ => hb.free _) h1
  refine wpList_plain hg fun K hK => ?_
  unfold Oper.wp execOp
  simp only [hop, resolve, invoke, builtin, Sem.run_bind, Sem.run_pure, Result.andThen_ok, List.map_toArray, List.map_cons, List.map_nil, hx, hy, hr]
  exact hK _ _ (h _ (Lib.hid (hb.setCells vs oo hle)) (Lib.hid (by simpa using grown_setCells b vs oo w)))
end
/- What a conversion of bytes to a string gives, and when two such strings are one. -/
def strB (l : List UInt8) : ByteArray := ⟨l.toArray⟩
theorem strB_toList (l : List UInt8) : (strB l).toList = l := by
  show ByteArray.toList _ = _
  rw [ByteArray.toList_eq]
  rfl
theorem strNums (l : List UInt8) : strOfNums (l.map fun x => (x.toNat : Int)) = strB l := by
  unfold strOfNums strB
  congr 1
  congr 1
  rw [List.map_map]
  have : (fun n : Int => UInt8.ofNat n.toNat) ∘ (fun x : UInt8 => (x.toNat : Int)) = id := by
    funext x
    simp
  rw [this, List.map_id]
theorem run_conv (w : World) {B : Nat} {A : Option Addr} {l : List UInt8} (h : RB w B A l) (n c : Nat) (hn : n = l.length) :
    (convert 36 9 (.slice A n c)).run Tryz.prog w = .ok (.string (strB l)) w := by
  subst hn
  by_cases hl : l = []
  · subst hl
    cases A with
    | none => exact run_convert_bytes_nil w 36 5 Tryz.underlying36 Tryz.underlying5 _ _ 9 Tryz.underlying9
    | some a =>
    rw [run_convert_bytes_string w 36 9 5 (some a) _ c Tryz.underlying36 Tryz.underlying5 Tryz.underlying9,
      run_bytesToString w a _ c [] (by simp [loadCells, loadCellsFrom])]
    rfl
  · obtain ⟨b, o, rfl, _, hc⟩ := h hl
    have := run_convert_bytes_arg (P := Tryz.prog) w 36 5 Tryz.underlying36 Tryz.underlying5 b o l.length c (l.map fun x => (x.toNat : Int)) (by simp)
      (fun i hi => by rw [hc i hi]; simp [hi]) 9 Tryz.underlying9
    rw [this, strNums]
/- Bytes in regions that draw. -/
def RBy (l : List UInt8) (v : Value) (w : World) : Prop := ∃ A c, v = .slice A l.length c ∧ RB w w.heap.size A l
theorem rby_mono (l : List UInt8) : ∀ v w w', RBy l v w → Below w.heap.size w w' → RBy l v w' := fun _ _ _ ⟨A, c, h1, h3⟩ hb => ⟨A, c, h1, (h3.below hb).mono hb.size⟩
def byt (l : List UInt8) : VD := .pr (RBy l) (rby_mono l)
section
variable {ops : Array Oper} {Q : Exit → Act → World → Prop} {D : Nat → VD} {a0 : Act} {W0 : World} {i : Nat} {o : Oper}
theorem mstep_conv (ho : ops[i]? = some o) (hw : ∀ a w, MCtx ops D a0 W0 i a w → Region.wanted o (yielded ops a.tmps) = true) (x : Tmp) (hop : o.op = .convert 36 9 (.tmp x))
    (kx : Nat) (hkx : (preds ops 3 i).contains kx = true) (hx : dstOf ops kx = some x) (l : List UInt8) (hDx : D kx = byt l) (hD : D i = .is (.string (strB l))) : MStep Tryz.prog ops Q D a0 W0 i :=
  mstep_one ho hw x kx hkx hx fun a w h => by
    rw [hDx] at h
    obtain ⟨A, c, h1, h3⟩ := h
    refine ⟨.string (strB l), ?_, by rw [hD]; rfl⟩
    simp only [execOp, hop, Act.eval, h1]
    rw [Sem.run_bind, run_conv w h3 l.length c rfl]
    rfl
end
end Go.Proofs.YtjfpoahmjgeogaaGreatDoor
/- Slices of bytes that came in: the operation, in a walk and in a region that draws. -/
namespace Nac
open Go
theorem RB.cut {w : World} {B : Nat} {A : Option Addr} {l : List UInt8} (h : RB w B A l) (lo hi c : Nat) (hle : lo ≤ hi) (hhl : hi ≤ l.length) (hlc : l.length ≤ c) :
    RB w B (if c = lo then A else A.map (·.add (lo * 1))) ((l.take hi).drop lo) := fun hne => by
  have hlt : lo < hi := by
    rcases Nat.lt_or_ge lo hi with h | h
    · exact h
    · exact absurd (List.drop_of_length_le (by simp; omega)) hne
  obtain ⟨b, o, rfl, hb, hc⟩ := h (by rintro rfl; simp at hne)
  rw [if_neg (by omega)]
  refine ⟨b, o + lo, ?_, hb, fun j hj => ?_⟩
  · simp only [Option.map_some, Nat.mul_one]
    unfold Addr.add
    split
    · subst lo; rfl
    · rfl
  · have := hc (lo + j) (by simp at hj; omega)
    rw [List.getElem_drop, List.getElem_take, ← this, Nat.add_assoc]
end Nac
namespace Go.Proofs.YtjfpoahmjgeogaaGreatDoor
open Go.RowKit Nac
theorem run_cut (w : World) (A : Option Addr) (n c : Nat) (hlc : n ≤ c) (lv hv : Option Value) (lo hi : Nat) (h1 : (lv = none ∧ lo = 0) ∨ lv = some (.int .i64 lo)) (h2 : (hv = none ∧ hi = n) ∨ hv = some (.int .i64 hi)) (hle : lo ≤ hi) (hhl : hi ≤ n) :
    (Instr.sliceAt 36 (.slice A n c) lv hv none).run Tryz.prog w = .ok (.slice (if c = lo then A else A.map (·.add (lo * 1))) (hi - lo) (c - lo)) w := by
  have hu := Tryz.underlying36
  have hc1 : (sizeOf 5).run Tryz.prog w = .ok 1 w := by
    obtain ⟨i, hi, _, hs, _⟩ := info_parts Tryz.infoByte
    simp [sizeOf, typeInfo, hi, hs]
  have a5 : hi ≤ c := by omega
  have a6 : lo ≤ n := by omega
  rcases h1 with ⟨rfl, rfl⟩ | rfl <;> rcases h2 with ⟨rfl, rfl⟩ | rfl <;>
    simp [Instr.sliceAt, Instr.slice, run_underlying hu, Instr.sliceBounds, Instr.sliceBound, asIntOf, hc1, a5, a6, hle]
theorem wpList_cut (w : World) {ops : Array Oper} {rest : List Oper} {o : Oper} {a : Act} {Q : Exit → Act → World → Prop} (hg : o.guard = none ∨ Region.wanted o (yielded ops a.tmps) = true) (x : Operand) (lO hO : Option Operand) (hop : o.op = .slice 36 x lO hO none)
    (B : Nat) (A : Option Addr) (n c : Nat) (l : List UInt8) (hn : n = l.length) (hx : a.eval x = .slice A n c) (h : RB w B A l) (hlc : l.length ≤ c) (lo hi : Nat) (h1 : (lO.map a.eval = none ∧ lo = 0) ∨ lO.map a.eval = some (.int .i64 lo)) (h2 : (hO.map a.eval = none ∧ hi = n) ∨ hO.map a.eval = some (.int .i64 hi)) (hle : lo ≤ hi) (hhl : hi ≤ n)
    (hK : ∀ A' m L, Hid (L = (l.take hi).drop lo) → Hid (m = hi - lo) → m = L.length → RB w B A' L → wpList Tryz.prog ops Q rest (a.put o.dst (.slice A' L.length (c - lo))) w) : wpList Tryz.prog ops Q (o :: rest) a w := by
  subst hn
  have hw : Region.wanted o (yielded ops a.tmps) = true := by
    rcases hg with hg | hg
    · simp [Region.wanted, hg]
    · exact hg
  unfold wpList
  rw [if_pos hw]
  refine Or.inl ?_
  unfold Oper.wp
  have hr := run_cut w A l.length c hlc (lO.map a.eval) (hO.map a.eval) lo hi h1 h2 hle hhl
  have hl : ((l.take hi).drop lo).length = hi - lo := by simp; omega
  have e : (execOp a.eval o).run Tryz.prog w = .ok (.value (.slice (if c = lo then A else A.map (·.add (lo * 1))) (hi - lo) (c - lo))) w := by
    simp only [execOp, hop, hx]
    rw [Sem.run_bind, Option.map_none, hr]
    rfl
  rw [e]
  have := hK _ _ _ rfl rfl hl.symm (h.cut lo hi c hle hhl hlc)
  rw [hl] at this
  exact this
def RByc (l : List UInt8) (v : Value) (w : World) : Prop := ∃ A c, v = .slice A l.length c ∧ l.length ≤ c ∧ RB w w.heap.size A l
theorem rbyc_mono (l : List UInt8) : ∀ v w w', RByc l v w → Below w.heap.size w w' → RByc l v w' := fun _ _ _ ⟨A, c, h1, h2, h3⟩ hb => ⟨A, c, h1, h2, (h3.below hb).mono hb.size⟩
def byc (l : List UInt8) : VD := .pr (RByc l) (rbyc_mono l)
section
variable {ops : Array Oper} {Q : Exit → Act → World → Prop} {D : Nat → VD} {a0 : Act} {W0 : World} {i : Nat} {o : Oper}
end
end Go.Proofs.YtjfpoahmjgeogaaGreatDoor
/- sha: Write. -/
namespace Nac.Sha
open Go Go.RowKit
theorem hcells_len (h : Hs) (hr : h.rest.length = 64) : (hcells h).length = 73 := by
  unfold hcells
  rw [List.length_append, List.length_append, u32s_len, List.length_map, hr]
  rfl
theorem hcells_last (h : Hs) (hr : h.rest.length = 64) : (hcells h)[72]? = some (.int .i64 (h.len : Int)) := by
  unfold hcells
  rw [List.getElem?_append_right (by simp [u32s_len, hr, S8.len])]
  simp [u32s_len, hr, S8.len]
theorem hcells_setLen (h : Hs) (hr : h.rest.length = 64) (n : Nat) : (hcells h).set 72 (.int .i64 (n : Int)) = hcells ⟨h.st, h.rest, n⟩ := by
  unfold hcells
  rw [List.set_append_right _ _ (by simp [u32s_len, hr, S8.len])]
  simp [u32s_len, hr, S8.len]
theorem hcells_fed (h : Hs) (hr : h.rest.length = 64) (l : List UInt8) : (hcells h).take (8 + h.len % 64) ++ (l.take (h.takes l)).map bv ++ (hcells h).drop (8 + h.len % 64 + ((l.take (h.takes l)).map bv).length) = hcells ⟨h.st, h.fed l, h.len⟩ := by
  have h8 : (u32s h.st.l).length = 8 := by rw [u32s_len]; rfl
  have ht : h.takes l ≤ 64 - h.len % 64 ∧ h.takes l ≤ l.length := by unfold Hs.takes; omega
  have hm := Nat.mod_lt h.len (show 64 > 0 by decide)
  have e : ((l.take (h.takes l)).map bv).length = h.takes l := by rw [List.length_map, List.length_take]; omega
  rw [e]
  unfold hcells Hs.fed
  rw [List.append_assoc (u32s h.st.l), ← h8, List.take_length_add_append, Nat.add_assoc, List.drop_length_add_append, List.take_append_of_le_length (by rw [List.length_map, hr]; omega), List.drop_append_of_le_length (by rw [List.length_map, hr]; omega)]
  simp only [List.map_append, List.map_take, List.map_drop, List.append_assoc]
theorem hcells_setSt (h : Hs) (s : S8) : (hcells h).take 0 ++ u32s s.l ++ (hcells h).drop (0 + (u32s s.l).length) = hcells ⟨s, h.rest, h.len⟩ := by
  have h8 : (u32s h.st.l).length = 8 := by rw [u32s_len]; rfl
  have h8' : (u32s s.l).length = 8 := by rw [u32s_len]; rfl
  unfold hcells
  rw [h8', ← h8, Nat.zero_add, List.append_assoc (u32s h.st.l), List.drop_left]
  simp
theorem hcells_st (h : Hs) : ∃ pre post, hcells h = pre ++ u32s h.st.l ++ post ∧ pre.length = 0 := ⟨[], h.rest.map bv ++ [.int .i64 (h.len : Int)], by unfold hcells; simp, rfl⟩
theorem hcells_rest (h : Hs) : ∃ pre post, hcells h = pre ++ h.rest.map bv ++ post ∧ pre.length = 8 := ⟨u32s h.st.l, [.int .i64 (h.len : Int)], rfl, by rw [u32s_len]; rfl⟩
end Nac.Sha
namespace Go.Proofs.YtjfpoahmjgeogaaGreatDoor
open Go.RowKit Nac Nac.Sha
def Only (b : Nat) (w w' : World) : Prop := w.grownBy w' (some b)
theorem Only.ge {b : Nat} {w w' : World} (h : Only b w w') : w.heap.size ≤ w'.heap.size := h.size
theorem Only.keep {b : Nat} {w w' : World} (h : Only b w w') (k : Nat) (hk : k < w.heap.size) (hne : k ≠ b) : w'.heap[k]? = w.heap[k]? := h.block k hk (by simp; exact hne)
theorem Only.refl (b : Nat) (w : World) : Only b w w := World.grownBy.refl w _
theorem Only.trans {b : Nat} {w w' w'' : World} (h : Only b w w') (h' : Only b w' w'') : Only b w w'' := World.grownBy.trans h h'
theorem Only.grown {b : Nat} {w w' : World} (h : w.grownBy w' (some b)) : Only b w w' := h
theorem Only.below {b : Nat} {w w' : World} (h : Below w.heap.size w w') : Only b w w' := ⟨h.os, h.tape, h.output, h.size, fun k hk _ => h.block k hk⟩
theorem Only.blk {b k : Nat} {w w' : World} {cs : List Value} (h : Only b w w') (hb : Blk w k cs) (hne : k ≠ b) : Blk w' k cs := hb.keep (h.keep k hb.lt hne)
theorem Only.cell {b : Nat} {w w' : World} (h : Only b w w') {p : Addr} (hp : p.block < w.heap.size) (hne : p.block ≠ b) : w'.cell? p = w.cell? p := by
  unfold World.cell?
  rw [h.keep _ hp hne]
theorem Only.under {b B : Nat} {w0 w w' : World} (h0 : Below B w0 w) (h : Only b w w') (hB : B ≤ b) (hz : B ≤ w.heap.size) : Below B w0 w' :=
  h0.grown h hz (fun j e => by injection e with e; omega)
def RX (w : World) (hb : Nat) (A : Option Addr) (l : List UInt8) : Prop := l ≠ [] → ∃ b o, A = some ⟨b, o, none⟩ ∧ b < w.heap.size ∧ b ≠ hb ∧ ∀ j (h : j < l.length), w.cell? ⟨b, o + j, none⟩ = some (bv l[j])
theorem RX.only {w w' : World} {hb : Nat} {A : Option Addr} {l : List UInt8} (h : RX w hb A l) (ho : Only hb w w') : RX w' hb A l := fun hne => by
  obtain ⟨b, o, hA, hlt, hn, hc⟩ := h hne
  exact ⟨b, o, hA, Nat.lt_of_lt_of_le hlt ho.ge, hn, fun j hj => (ho.cell hlt hn).trans (hc j hj)⟩
theorem RX.drop {w : World} {hb : Nat} {A : Option Addr} {l : List UInt8} (h : RX w hb A l) {k c : Nat} (hc : l.length ≤ c) : RX w hb (sliceAdr A c k 1) (l.drop k) := fun hne => by
  have hk : k < l.length := by
    rcases Nat.lt_or_ge k l.length with h1 | h1
    · exact h1
    · exact absurd (List.drop_of_length_le h1) hne
  obtain ⟨b, o, rfl, hlt, hn, hcc⟩ := h (by rintro rfl; simp at hk)
  refine ⟨b, o + k, ?_, hlt, hn, fun j hj => ?_⟩
  · unfold sliceAdr
    rw [if_neg (by omega), Option.map_some, Addr.add_mid, Nat.mul_one]
  · have := hcc (k + j) (by rw [List.length_drop] at hj; omega)
    rw [List.getElem_drop, ← this, Nat.add_assoc]
theorem ShaG.only {b : Nat} {w w' : World} (h : ShaG w) (ho : Only b w w') (hb : 2 ≤ b) (h2 : 2 ≤ w.heap.size) : ShaG w' :=
  ⟨fun j v hj => (ho.cell (p := ⟨0, 0 + j, none⟩) (Nat.lt_of_lt_of_le (by simp) h2) (by simp; omega)).trans (h.1 j v hj), fun j v hj => (ho.cell (p := ⟨1, 0 + j, none⟩) (Nat.lt_of_lt_of_le (by simp) h2) (by simp; omega)).trans (h.2 j v hj)⟩
structure WrI (w0 : World) (hb : Nat) (h : Hs) (l : List UInt8) (w : World) : Prop where
  blk : Blk w hb (hcells h)
  rest : h.rest.length = 64
  only : Only hb w0 w
  g : ShaG w
  small : h.len + l.length < 4611686018427387904
def WrR (w0 : World) (hb : Nat) (h0 : Hs) (l0 : List UInt8) (s : Value) (w : World) : Prop :=
  ∃ h l A c, s = .slice A l.length c ∧ l.length ≤ c ∧ h.write l = h0.write l0 ∧ h.len + l.length = h0.len + l0.length ∧ RX w hb A l ∧ WrI w0 hb h l w
def lenOfS : Value → Nat
  | .slice _ n _ => n
  | _ => 0
def RetWr (w : World) (hb : Nat) (h : Hs) (l : List UInt8) (e : Ending) (w' : World) : Prop := e = .returned (.tuple #[]) ∧ Blk w' hb (hcells (h.write l)) ∧ (h.write l).rest.length = 64 ∧ (h.write l).len = h.len + l.length ∧ Only hb w w'
theorem write_nil (h : Hs) : h.write [] = h := rfl
theorem write_len : ∀ (n : Nat) (h : Hs) (l : List UInt8), l.length ≤ n → (h.write l).len = h.len + l.length
  | 0, h, l, hl => by
    have : l = [] := List.eq_nil_of_length_eq_zero (by omega)
    subst this
    rfl
  | n + 1, h, l, hl => by
    by_cases hb : l = []
    · subst hb; rfl
    · have hp : 0 < l.length := List.length_pos_iff.2 hb
      have ht : 0 < h.takes l ∧ h.takes l ≤ l.length := by unfold Hs.takes; have := Nat.mod_lt h.len (show 64 > 0 by decide); omega
      rw [write_step hb, write_len n _ _ (by rw [List.length_drop]; omega)]
      show h.len + h.takes l + _ = _
      rw [List.length_drop]
      omega
set_option maxRecDepth 100000 in
set_option maxHeartbeats 4000000 in
theorem write_calls (w : World) (hb : Nat) (h0 : Hs) (l0 : List UInt8) (A0 : Option Addr) (c0 : Nat) (hB : Blk w hb (hcells h0)) (hr : h0.rest.length = 64) (hX : RX w hb A0 l0) (hc : l0.length ≤ c0) (hs : h0.len + l0.length < 4611686018427387904) (hG : ShaG w) (h2 : 4 ≤ hb) :
    Calls Tryz.prog 58 #[.pointer (some ⟨hb, 0, none⟩), .slice A0 l0.length c0] w (RetWr w hb h0 l0) := by
  have H0 : Hid (WrR w hb h0 l0 (.slice A0 l0.length c0) w) := Lib.hid ⟨h0, l0, A0, c0, rfl, hc, rfl, rfl, hX, hB, hr, Only.refl _ _, hG, hs⟩
  have HZ : Hid (4 ≤ hb ∧ hb < w.heap.size) := Lib.hid ⟨h2, hB.lt⟩
  clear hB hr hX hc hs hG h2
  go_enter Tryz.func58, Tryz.ntmps58
  go_wp2_with fail
  go_loopw [1] (fun s wr => WrR w hb h0 l0 s wr) (fun s _ => lenOfS s)
  case atStart => exact H0.out
  case round =>
    clear H0
    obtain ⟨h, l, A, c, rfl, hlc, hwr, hln, hx, hi⟩ := hrel
    have HWR := Lib.hid hwr
    have HLN := Lib.hid hln
    have HX := Lib.hid hx
    have HI := Lib.hid hi
    have HLC := Lib.hid hlc
    clear hwr hln hx hi hlc
    obtain ⟨L, hL⟩ : ∃ L, L = l.length := ⟨_, rfl⟩
    have HL := Lib.hid hL
    rw [← hL]
    clear hL
    by_cases hpos : 0 < L
    · have HP := Lib.hid hpos
      have hgt : (0 : Int) < (L : Int) := by omega
      clear hpos
      obtain ⟨hn, hhn⟩ : ∃ n, n = h.len := ⟨_, rfl⟩
      have HHN := Lib.hid hhn
      have hcl : wr.cell? ⟨hb, 72, none⟩ = some (.int .i64 (hn : Int)) := by rw [hhn]; exact HI.out.blk.cell (hcells_last h HI.out.rest)
      clear hhn
      have hrm : (hn : Int).tmod 64 = ((hn % 64 : Nat) : Int) := by rw [Int.tmod_eq_emod_of_nonneg (by omega)]; omega
      obtain ⟨u, hu⟩ : ∃ u, u = hn % 64 := ⟨_, rfl⟩
      have HU := Lib.hid hu
      rw [← hu] at hrm
      have hu64 : u < 64 := by rw [hu]; exact Nat.mod_lt _ (by decide)
      have HU64 := Lib.hid hu64
      clear hu
      have hne : l ≠ [] := by rintro rfl; have := HL.out; have := HP.out; simp at *; omega
      obtain ⟨sb, so, rfl, hsl, hsn, hsc⟩ := HX.out hne
      have HSC : Hid (sb < wr.heap.size ∧ sb ≠ hb ∧ ∀ j (h : j < l.length), wr.cell? ⟨sb, so + j, none⟩ = some (bv l[j])) := Lib.hid ⟨hsl, hsn, hsc⟩
      have HNE := Lib.hid hne
      obtain ⟨n, hnn⟩ : ∃ n, n = h.takes l := ⟨_, rfl⟩
      have HN := Lib.hid hnn
      obtain ⟨vs, hvs⟩ : ∃ vs, vs = (l.take n).map bv := ⟨_, rfl⟩
      have HVS := Lib.hid hvs
      have hnm : n ≤ 64 - u ∧ n ≤ L ∧ n = Nat.min L (64 - u) := by
        have h1 := HU.out
        have h2 := HL.out
        have h3 := HHN.out
        have h4 : n = min (64 - h.len % 64) l.length := hnn
        rw [← h3, ← h1, ← h2] at h4
        have h5 : n = Nat.min L (64 - u) := by rw [h4, Nat.min_comm]
        omega
      have hvl : vs.length = n := by
        rw [hvs, List.length_map, List.length_take]
        have := HL.out
        omega
      have HVL := Lib.hid hvl
      have HNM := Lib.hid hnm
      have HNP : Hid (0 < n) := Lib.hid (by have h1 : n = min L (64 - u) := hnm.2.2; have h2 := HP.out; have h3 := HU64.out; omega)
      clear hsl hsn hsc hne hnn hvs hnm hvl
      go_wp2_with first | ((with_reducible show wpList _ _ _ (Oper.mk _ (Op.slice 166 _ (some _) none none) _ _ _ _ :: _) _ _); refine wpList_arrLo aB64 rfl _ _ rfl hb 8 u HU64.out rfl rfl ?_; intro oo m hoo) | ((with_reducible show wpList _ _ _ (Oper.mk _ (Op.call (Call.mk (Callee.builtin Builtin.copy) _ _)) _ _ _ _ :: _) _ _); refine wpList_copyB rfl _ _ rfl hb oo m m _ sb so L c vs rfl rfl HI.out.blk (by rw [HVL.out, hoo.out.2]; exact HNM.out.2.2) (by rw [hcells_len h HI.out.rest, HVL.out, hoo.out.1]; have := HNM.out; have := HU64.out; omega) (by intro j v hj; obtain ⟨h1, h2⟩ := List.getElem?_eq_some_iff.1 hj; have h3 := HVL.out; have h4 := HNM.out; have h5 := HL.out; have h6 := HSC.out.2.2 j (by omega); rw [h6, ← h2]; simp only [HVS.out, List.getElem_map, List.getElem_take]) (by intro v hv; rw [HVS.out] at hv; obtain ⟨z, _, rfl⟩ := List.mem_map.1 hv; rfl) ?_)
      intro w1 hb1 hg1
      have hoe := hoo.out
      have HB1 : Hid (Blk w1 hb (hcells ⟨h.st, h.fed l, h.len⟩)) := Lib.hid <| by
        have := hb1.out
        rw [hoe.1, HVS.out, HN.out, HU.out, HHN.out] at this
        rw [← hcells_fed h HI.out.rest l]
        simpa only [List.append_assoc] using this
      have HO1 : Hid (Only hb w w1 ∧ RX w1 hb (some ⟨sb, so, none⟩) l ∧ ShaG w1 ∧ wr.heap.size ≤ w1.heap.size) := Lib.hid ⟨HI.out.only.trans (Only.grown hg1.out), HX.out.only (Only.grown hg1.out), HI.out.g.only (Only.grown hg1.out) (by have := HZ.out; omega) (by have := HI.out.blk.lt; have := HZ.out; omega), hg1.out.size⟩
      have hvl := HVL.out
      rw [hvl]
      have HFL : Hid ((h.fed l).length = 64) := Lib.hid (fed_len HI.out.rest)
      have HSM : Hid (hn + n < 4611686018427387904) := Lib.hid (by have h1 := HI.out.small; have h2 := HHN.out; have h3 := HNM.out; have h4 := HL.out; omega)
      have hcl2 : w1.cell? ⟨hb, 72, none⟩ = some (.int .i64 (hn : Int)) := by rw [HHN.out]; exact HB1.out.cell (hcells_last ⟨h.st, h.fed l, h.len⟩ HFL.out)
      have hwn : IntKind.i64.wrap ((hn : Int) + (n : Int)) = (hn : Int) + (n : Int) := by rw [Go.IntWalk.i64_left]; have := HSM.out; unfold wrap64; omega
      have hwu : IntKind.i64.wrap ((u : Int) + (n : Int)) = (u : Int) + (n : Int) := by rw [Go.IntWalk.i64_left]; have := HNM.out; have := HU64.out; unfold wrap64; omega
      clear hvl hb1 hg1 hoe hoo hcl hrm hu64
      go_wp2_with first | ((with_reducible show wpList _ _ _ (Oper.mk _ (Op.slice 36 _ (some _) none none) _ _ _ _ :: _) _ _); refine wpList_sliceLo (n := 1) Tryz.underlying36 (by kernel_rfl) rfl _ _ rfl (some ⟨sb, so, none⟩) L c n rfl rfl HNM.out.2.1 ?_; intro A2 hA2) | ((with_reducible show wpList _ _ _ (Oper.mk _ (Op.store 3 _ _) _ _ _ _ :: _) _ _); refine wpList_storeB rfl 3 _ _ rfl hb 72 _ (.int .i64 ((hn : Int) + (n : Int))) (by rw [hcells_len _ HFL.out]; decide) rfl (by rfl) HB1.out (by kernel_rfl) rfl ?_)
      intro w2 hb2 hg2 hs2
      have HB2 : Hid (Blk w2 hb (hcells ⟨h.st, h.fed l, hn + n⟩)) := Lib.hid <| by
        have := hb2.out
        rw [show ((hn : Int) + (n : Int)) = ((hn + n : Nat) : Int) by omega, hcells_setLen ⟨h.st, h.fed l, h.len⟩ HFL.out] at this
        exact this
      have HO2 : Hid (Only hb w w2 ∧ RX w2 hb (some ⟨sb, so, none⟩) l ∧ ShaG w2 ∧ wr.heap.size ≤ w2.heap.size) := Lib.hid ⟨HO1.out.1.trans (Only.grown hg2.out), HO1.out.2.1.only (Only.grown hg2.out), HO1.out.2.2.1.only (Only.grown hg2.out) (by have := HZ.out; omega) (by have := HB1.out.lt; have := HZ.out; omega), Nat.le_trans HO1.out.2.2.2 hg2.out.size⟩
      clear hb2 hg2 hs2 HB1 HO1 hcl2
      have HST : Hid (h.step l = ⟨if hn % 64 + n = 64 then procF h.st (h.fed l) else h.st, h.fed l, hn + n⟩) := Lib.hid (by unfold Hs.step; rw [HHN.out, HN.out])
      have HX3 : Hid (∀ w', Only hb w2 w' → ∀ hh : Hs, h.step l = hh → Blk w' hb (hcells hh) → WrR w hb h0 l0 (.slice A2 (L - n) (c - n)) w') := Lib.hid <| by
        intro w' ho hh he hbk
        have hld : L - n = (l.drop n).length := by rw [List.length_drop, HL.out]
        refine ⟨hh, l.drop n, A2, c - n, by rw [hld], by have := HLC.out; have := HL.out; omega, ?_, ?_, ?_, hbk, ?_, HO2.out.1.trans ho, HO2.out.2.2.1.only ho (by have := HZ.out; omega) (by have := HB2.out.lt; have := HZ.out; omega), ?_⟩
        · rw [← he, HN.out, ← write_step HNE.out, HWR.out]
        · rw [← he, HST.out]
          show hn + n + _ = _
          have h1 := HLN.out
          have h2 := HHN.out
          have h3 := HL.out
          have h4 := HNM.out
          rw [List.length_drop]
          omega
        · rw [hA2.out]
          exact (HO2.out.2.1.only ho).drop HLC.out
        · rw [← he, HST.out]
          exact HFL.out
        · rw [← he, HST.out]
          show hn + n + _ < _
          have h1 := HI.out.small
          have h2 := HHN.out
          have h3 := HL.out
          have h4 := HNM.out
          rw [List.length_drop]
          omega
      by_cases hfull : u + n = 64
      · have HFU : Hid (h.step l = ⟨procF h.st (h.fed l), h.fed l, hn + n⟩) := Lib.hid (by rw [HST.out, if_pos (by rw [← HU.out]; exact hfull)])
        have hfi : (u : Int) + (n : Int) = 64 := by omega
        clear hfull HST
        obtain ⟨sl, hsl⟩ : ∃ sl, sl = u32s h.st.l := ⟨_, rfl⟩
        obtain ⟨bl, hbl⟩ : ∃ bl, bl = (h.fed l).map bv := ⟨_, rfl⟩
        obtain ⟨s2, hs2⟩ : ∃ s2, s2 = procF h.st (h.fed l) := ⟨_, rfl⟩
        have LST : Hid (∀ w', Below w2.drew.heap.size w2.drew w' → (Instr.loadAt 165 (.pointer (some ⟨hb, 0, none⟩))).run Tryz.prog w' = .ok (.agg sl.toArray) w') := Lib.hid fun w' hbl' => run_loadAtM sS8 w' hb 0 _ ((HB2.out.keep (hbl'.block hb HB2.out.lt)).range 0 _ (by rw [hsl]; exact hcells_st ⟨h.st, h.fed l, hn + n⟩)) (by rw [hsl, u32s_len]; rfl)
        have LRE : Hid (∀ w', Below w2.drew.heap.size w2.drew w' → (Instr.loadAt 166 (.pointer (some ⟨hb, 8, none⟩))).run Tryz.prog w' = .ok (.agg bl.toArray) w') := Lib.hid fun w' hbl' => run_loadAtM sB64 w' hb 8 _ ((HB2.out.keep (hbl'.block hb HB2.out.lt)).range 8 _ (by rw [hbl]; exact hcells_rest ⟨h.st, h.fed l, hn + n⟩)) (by rw [hbl, List.length_map]; exact HFL.out)
        have PRC : Hid (∀ w', Below w2.drew.heap.size w2.drew w' → Calls Tryz.prog 84 #[.agg sl.toArray, .agg bl.toArray] w' fun e w'' => ∃ v, e = .returned v ∧ (VD.is (.agg (u32s s2.l).toArray)).ok v w'' ∧ Below w'.heap.size w' w'') := Lib.hid fun w' hbl' => by
          have := process_calls w' h.st (h.fed l) HFL.out (HO2.out.2.2.1.below (B := w2.heap.size) ⟨hbl'.os, hbl'.tape, hbl'.output, hbl'.size, hbl'.block⟩ (by have := HB2.out.lt; have := HZ.out; omega)) (by have := HB2.out.lt; have := HZ.out; have := hbl'.size; have : w2.drew.heap.size = w2.heap.size := rfl; omega)
          rw [← hsl, ← hbl] at this
          exact this.mono fun _ _ hh => ⟨_, by rw [hs2]; exact hh.1, rfl, hh.2⟩
        have HS2 := Lib.hid hs2
        clear hsl hbl hs2
        go_wp2_with fail
        refine region_tails 10 (fun ix9 => ([.is (.pointer (some ⟨hb, 0, none⟩)), .is (.pointer (some ⟨hb, 0, none⟩)), .is (.pointer (some ⟨hb, 0, none⟩)), .is (.pointer (some ⟨hb, 0, none⟩)), .is (.agg sl.toArray), .is (.pointer (some ⟨hb, 0, none⟩)), .is (.pointer (some ⟨hb, 0, none⟩)), .is (.pointer (some ⟨hb, 8, none⟩)), .is (.agg bl.toArray), .is (.agg (u32s s2.l).toArray)] : List VD).getD ix9 (.is undef)) [some 36, some 37, some 38, some 39, some 40, some 41, some 42, some 43, some 44, some 45] (by kernel_rfl) (by kernel_rfl) (by kernel_rfl) (by kernel_rfl) rfl (fun ii hii => ?_) ?_
        · match ii, hii with
          | 0, _ => exact mstep_first rfl (mwant_none rfl) 0 (Or.inl rfl) (by kernel_rfl) (fun _ _ => rfl)
          | 1, _ => exact mstep_first rfl (mwant_none rfl) 0 (Or.inl rfl) (by kernel_rfl) (fun _ _ => rfl)
          | 2, _ => exact mstep_pure rfl (mwant_none rfl) (fun aa ww cc => ⟨.pointer (some ⟨hb, 0, none⟩), by have e0 : aa.tmps.getD 37 undef = .pointer (some ⟨hb, 0, none⟩) := cc.slot 1 37 (by kernel_rfl) rfl; simp only [execOp, Act.eval]; go_simp, rfl⟩)
          | 3, _ => exact mstep_pure rfl (mwant_none rfl) (fun aa ww cc => ⟨.pointer (some ⟨hb, 0, none⟩), by have e0 : aa.tmps.getD 38 undef = .pointer (some ⟨hb, 0, none⟩) := cc.slot 2 38 (by kernel_rfl) rfl; simp only [execOp, Act.eval]; go_simp, rfl⟩)
          | 4, _ => exact mstep_loadO rfl (mwant_none rfl) 39 _ rfl 3 (by kernel_rfl) rfl _ _ rfl rfl (fun w hb => LST.out w hb)
          | 5, _ => exact mstep_first rfl (mwant_none rfl) 0 (Or.inl rfl) (by kernel_rfl) (fun _ _ => rfl)
          | 6, _ => exact mstep_pure rfl (mwant_none rfl) (fun aa ww cc => ⟨.pointer (some ⟨hb, 0, none⟩), by have e0 : aa.tmps.getD 41 undef = .pointer (some ⟨hb, 0, none⟩) := cc.slot 5 41 (by kernel_rfl) rfl; simp only [execOp, Act.eval]; go_simp, rfl⟩)
          | 7, _ => exact mstep_pure rfl (mwant_none rfl) (fun aa ww cc => ⟨.pointer (some ⟨hb, 8, none⟩), by have e0 : aa.tmps.getD 42 undef = .pointer (some ⟨hb, 0, none⟩) := cc.slot 6 42 (by kernel_rfl) rfl; simp only [execOp, Act.eval]; go_simp, rfl⟩)
          | 8, _ => exact mstep_loadO rfl (mwant_none rfl) 43 _ rfl 7 (by kernel_rfl) rfl _ _ rfl rfl (fun w hb => LRE.out w hb)
          | 9, _ => exact mstep_call rfl (mwant_none rfl) _ _ _ rfl (enters_of Tryz.func84 (by kernel_rfl) rfl) (fun aa ww cc => by have e0 : aa.tmps.getD 40 undef = .agg sl.toArray := cc.slot 4 40 (by kernel_rfl) rfl; have e1 : aa.tmps.getD 44 undef = .agg bl.toArray := cc.slot 8 44 (by kernel_rfl) rfl; simp only [List.map_toArray, List.map_cons, List.map_nil, Act.eval, e0, e1]; exact (PRC.out) ww cc.below)
          | n + 10, h => exact absurd h (by show ¬ (n + 10 < 10); omega)
        · intro VV w5 hlen hb5 hok
          match VV, hlen with
          | [v0, v1, v2, v3, v4, v5, v6, v7, v8, v9], _ =>
            obtain rfl : v0 = .pointer (some ⟨hb, 0, none⟩) := hok 0 36 rfl
            obtain rfl : v1 = .pointer (some ⟨hb, 0, none⟩) := hok 1 37 rfl
            obtain rfl : v2 = .pointer (some ⟨hb, 0, none⟩) := hok 2 38 rfl
            obtain rfl : v3 = .pointer (some ⟨hb, 0, none⟩) := hok 3 39 rfl
            obtain rfl : v4 = .agg sl.toArray := hok 4 40 rfl
            obtain rfl : v5 = .pointer (some ⟨hb, 0, none⟩) := hok 5 41 rfl
            obtain rfl : v6 = .pointer (some ⟨hb, 0, none⟩) := hok 6 42 rfl
            obtain rfl : v7 = .pointer (some ⟨hb, 8, none⟩) := hok 7 43 rfl
            obtain rfl : v8 = .agg bl.toArray := hok 8 44 rfl
            obtain rfl : v9 = .agg (u32s s2.l).toArray := hok 9 45 rfl
            have HR5 : Hid (Only hb w2 w5 ∧ Blk w5 hb (hcells ⟨h.st, h.fed l, hn + n⟩)) := Lib.hid ⟨Only.below hb5, HB2.out.keep (hb5.block hb HB2.out.lt)⟩
            clear hb5 hok LST LRE PRC
            simp only [List.zip_cons_cons, List.zip_nil_right, putsL]
            go_simp
            go_wp2_with ((with_reducible show wpList _ _ _ (Oper.mk _ (Op.store 165 _ _) _ _ _ _ :: _) _ _); refine wpList_storeM sS8 rfl _ _ rfl hb 0 _ (u32s s2.l) rfl rfl HR5.out.2 (by rw [hcells_len _ HFL.out]; decide) (by rw [u32s_len]; rfl) (u32s_one _) ?_)
            intro w6 hb6 hg6
            have HR6 : Hid (Only hb w2 w6 ∧ Blk w6 hb (hcells ⟨procF h.st (h.fed l), h.fed l, hn + n⟩)) := Lib.hid ⟨HR5.out.1.trans (Only.grown hg6), by rw [← HS2.out, ← hcells_setSt ⟨h.st, h.fed l, hn + n⟩ s2]; exact hb6⟩
            clear hb6 hg6 HR5
            go_wp2_with fail
            go_roundw
            case rel => exact HX3.out w6 HR6.out.1 _ HFU.out HR6.out.2
            case measure => show L - n < L; have := HNP.out; have := HNM.out; omega
      · have HFU : Hid (h.step l = ⟨h.st, h.fed l, hn + n⟩) := Lib.hid (by rw [HST.out, if_neg (by rw [← HU.out]; exact hfull)])
        have hfi : ¬ (u : Int) + (n : Int) = 64 := by omega
        clear hfull HST
        go_wp2_with fail
        go_roundw
        case rel => exact HX3.out w2 (Only.refl _ _) _ HFU.out HB2.out
        case measure => show L - n < L; have := HNP.out; have := HNM.out; omega
    · have hgt : ¬ (0 : Int) < (L : Int) := by omega
      go_wp2_with fail
      have hl0 : l = [] := List.eq_nil_of_length_eq_zero (by have := HL.out; omega)
      subst hl0
      have HWN : h = h0.write l0 := (write_nil h).symm.trans HWR.out
      exact bodyPost_ret (v := .tuple #[]) (by simp [results, Tryz.results58, go_sem]) rfl ⟨rfl, by rw [← HWN]; exact HI.out.blk, by rw [← HWN]; exact HI.out.rest, write_len _ _ _ (Nat.le_refl _), HI.out.only⟩
end Go.Proofs.YtjfpoahmjgeogaaGreatDoor
/- make and slice literals: the new block is known whole. -/
namespace Nac
open Go Go.RowKit
theorem made1 (z : Value) (n : Nat) : (madeCells #[z] (n * 1)).toList = List.replicate n z := by
  apply List.ext_getElem
  · simp [madeCells]
  · intro i h1 h2
    simp [madeCells, Nat.mod_one]
theorem madeEq (v : Value) (m k : Nat) (hm : 0 < m) : (madeCells (List.replicate m v).toArray k).toList = List.replicate k v := by
  apply List.ext_getElem
  · simp [madeCells]
  · intro i h1 h2
    have h3 : i % m < m := Nat.mod_lt _ hm
    simp [madeCells, h3]
end Nac
namespace Go.Proofs.YtjfpoahmjgeogaaGreatDoor
open Go.RowKit Nac
theorem run_make1 {T E : TypeId} {z : Value} {bytes : Nat} (hu : Tryz.prog.underlying T = some (.slice E)) (hinfo : (Tryz.prog.info? E).map (fun i => (i.zero, i.size, i.bytes)) = some (some z, 1, bytes)) (hz : z.cells = #[z]) (hby : bytes ≤ 32) (w : World) (n : Nat) (hn : n ≤ 1000000) :
    ∃ w', (Instr.makeSlice T (.int .i64 (n : Int)) (.int .i64 (n : Int))).run Tryz.prog w = .ok (.slice (some ⟨w.heap.size, 0, none⟩) n n) w' ∧ Blk w' w.heap.size (List.replicate n z) ∧ w.grownBy w' none ∧ w'.heap.size = w.heap.size + 1 := by
  obtain ⟨ti, hi, hzz, hs1, hb1⟩ := info_parts hinfo
  have hb : (ti.bytes : Int) * (n : Int) ≤ 281474976710656 := by
    rw [hb1, ← Int.natCast_mul]
    have : bytes * n ≤ 32 * 1000000 := Nat.mul_le_mul hby hn
    omega
  have hr := run_make (P := Tryz.prog) w T E ti z hu hi hzz .i64 .i64 (n : Int) (n : Int) (by omega) (by omega) hb (by omega)
  rw [hs1, hz] at hr
  simp only [Int.toNat_natCast] at hr
  refine ⟨_, hr, ?_, World.grownBy_alloc w _ none, by simp⟩
  have := Blk.new w (madeCells #[z] (n * 1)).toList E
  rw [Array.toArray_toList] at this
  rw [← made1]
  exact this
theorem run_makeC {T E : TypeId} {z : Value} {size bytes : Nat} (hu : Tryz.prog.underlying T = some (.slice E)) (hinfo : (Tryz.prog.info? E).map (fun i => (i.zero, i.size, i.bytes)) = some (some z, size, bytes)) (w : World) (n : Nat) (hby : bytes * n ≤ 281474976710656) (hn : n ≤ 1000000) (cs : List Value) (hcs : (madeCells z.cells (n * size)).toList = cs) :
    ∃ w', (Instr.makeSlice T (.int .i64 (n : Int)) (.int .i64 (n : Int))).run Tryz.prog w = .ok (.slice (some ⟨w.heap.size, 0, none⟩) n n) w' ∧ Blk w' w.heap.size cs ∧ w.grownBy w' none ∧ w'.heap.size = w.heap.size + 1 := by
  obtain ⟨ti, hi, hzz, hs1, hb1⟩ := info_parts hinfo
  have hb : (ti.bytes : Int) * (n : Int) ≤ 281474976710656 := by
    rw [hb1, ← Int.natCast_mul]
    omega
  have hr := run_make (P := Tryz.prog) w T E ti z hu hi hzz .i64 .i64 (n : Int) (n : Int) (by omega) (by omega) hb (by omega)
  rw [hs1] at hr
  simp only [Int.toNat_natCast] at hr
  refine ⟨_, hr, ?_, World.grownBy_alloc w _ none, by simp⟩
  have := Blk.new w (madeCells z.cells (n * size)).toList E
  rw [Array.toArray_toList] at this
  rw [← hcs]
  exact this
theorem build1_byte (w : World) (x : Int) : (Instr.buildSlice 36 1 #[(0, .int .u8 x)]).run Tryz.prog w = .ok (.slice (some ⟨w.heap.size, 0, none⟩) 1 1) (w.alloc (.cells #[.int .u8 x] 5)) := by
  obtain ⟨ti, hi, hz, hs1, hb1⟩ := info_parts Tryz.infoByte
  refine run_buildSlice w _ _ 1 _ _ ti _ Tryz.underlying36 hi hz (by rw [hs1]; decide) (by rw [hs1]; decide) ?_
  rw [hs1]
  show _ = some #[Value.int .u8 x]
  kernel_rfl
section
variable {w : World} {ops : Array Oper} {rest : List Oper} {o : Oper} {a : Act} {Q : Exit → Act → World → Prop}
theorem wpList_make1 {T E : TypeId} {z : Value} {bytes : Nat} (hu : Tryz.prog.underlying T = some (.slice E)) (hinfo : (Tryz.prog.info? E).map (fun i => (i.zero, i.size, i.bytes)) = some (some z, 1, bytes)) (hz : z.cells = #[z]) (hby : bytes ≤ 32)
    (hg : o.guard = Option.none) (l c : Operand) (hop : o.op = Op.makeSlice T l c) (n : Nat) (hn : n ≤ 1000000) (hl : a.eval l = .int .i64 (n : Int)) (hc : a.eval c = .int .i64 (n : Int))
    (hK : ∀ w', Blk w' w.heap.size (List.replicate n z) → w.grownBy w' none → w'.heap.size = w.heap.size + 1 → wpList Tryz.prog ops Q rest (a.put o.dst (.slice (some ⟨w.heap.size, 0, none⟩) n n)) w') : wpList Tryz.prog ops Q (o :: rest) a w := by
  refine wpList_plain hg fun K hK' => ?_
  obtain ⟨w', hr, h1, h2, h3⟩ := run_make1 hu hinfo hz hby w n hn
  unfold Oper.wp
  simp [execOp, hop, hl, hc, hr, Result.andThen]
  exact hK' _ _ (hK w' h1 h2 h3)
theorem wpList_makeC {T E : TypeId} {z : Value} {size bytes : Nat} (hu : Tryz.prog.underlying T = some (.slice E)) (hinfo : (Tryz.prog.info? E).map (fun i => (i.zero, i.size, i.bytes)) = some (some z, size, bytes))
    (hg : o.guard = Option.none) (l c : Operand) (hop : o.op = Op.makeSlice T l c) (n : Nat) (hby : bytes * n ≤ 281474976710656) (hn : n ≤ 1000000) (cs : List Value) (hcs : (madeCells z.cells (n * size)).toList = cs) (hl : a.eval l = .int .i64 (n : Int)) (hc : a.eval c = .int .i64 (n : Int))
    (hK : ∀ w', Blk w' w.heap.size cs → w.grownBy w' none → w'.heap.size = w.heap.size + 1 → wpList Tryz.prog ops Q rest (a.put o.dst (.slice (some ⟨w.heap.size, 0, none⟩) n n)) w') : wpList Tryz.prog ops Q (o :: rest) a w := by
  refine wpList_plain hg fun K hK' => ?_
  obtain ⟨w', hr, h1, h2, h3⟩ := run_makeC hu hinfo w n hby hn cs hcs
  unfold Oper.wp
  simp [execOp, hop, hl, hc, hr, Result.andThen]
  exact hK' _ _ (hK w' h1 h2 h3)
theorem wpList_byte1 (hg : o.guard = Option.none) (x : Operand) (hop : o.op = .buildSlice 36 1 #[(0, x)]) (v : Int) (hx : a.eval x = .int .u8 v)
    (hK : ∀ w', Blk w' w.heap.size [.int .u8 v] → w.grownBy w' none → w'.heap.size = w.heap.size + 1 → wpList Tryz.prog ops Q rest (a.put o.dst (.slice (some ⟨w.heap.size, 0, none⟩) 1 1)) w') : wpList Tryz.prog ops Q (o :: rest) a w :=
  wpList_plain hg fun _ hk => by
    unfold Oper.wp execOp
    have e : (#[(0, x)] : Array (Nat × Operand)).map (fun p => (p.1, a.eval p.2)) = #[(0, .int .u8 v)] := by simp [hx]
    simp only [hop, e, Sem.run_bind, build1_byte w v, Result.andThen_ok]
    exact hk _ _ (hK _ (Blk.new w _ _) (World.grownBy_alloc w _ none) (by simp))
end
end Go.Proofs.YtjfpoahmjgeogaaGreatDoor
