/- Bundle 5 of the texts ShaSum, OctPut, CrcOn, CrcSeal, OctNumN, OctNum, CrcOpen, OwnI, FaultP, TopFault, RelL, AppM, ImgPlain, ImgPlain2. -/
import Derived.Test.YtjfpoahmjgeogaaGreatDoorIc4
import Derived.Test.YtjfpoahmjgeogaaGreatDoorProg
import Derived.Test.YtjfpoahmjgeogaaGreatDoorIc2
import Derived.Test.YtjfpoahmjgeogaaGreatDoorIc1
import Derived.Lib.Hide
import Derived.Laws.BitsAllLaws
import Derived.Deep.OwnRows
import Derived.WalkKit
import Derived.WalkLawsBesides
import Derived.Maps.AppendAt
import Derived.Great.BuildSlice
/- sha: Sum of what was received; Sum of bytes. -/
namespace Nac.Sha
open Go Go.RowKit
def parts (L : List UInt8) (i : Nat) : List UInt8 := L.take i ++ List.replicate (L.length - i) 0
theorem parts_len (L : List UInt8) {i : Nat} (h : i ≤ L.length) : (parts L i).length = L.length := by simp [parts]; omega
theorem parts_zero (L : List UInt8) : parts L 0 = List.replicate L.length 0 := by simp [parts]
theorem parts_all (L : List UInt8) : parts L L.length = L := by simp [parts]
theorem parts_set (L : List UInt8) {i : Nat} (h : i < L.length) : ((parts L i).map bv).set i (bv L[i]) = (parts L (i + 1)).map bv := by
  have e : (parts L i).set i L[i] = parts L (i + 1) := by
    unfold parts
    have e1 : L.length - i = (L.length - (i + 1)) + 1 := by omega
    have e2 : (L.take i).length = i := by rw [List.length_take]; omega
    rw [List.set_append_right _ _ (by omega), e2, Nat.sub_self, e1, List.replicate_succ, List.set_cons_zero, List.take_succ_eq_append_getElem h, List.append_assoc]
    rfl
  rw [← e, List.map_set]
theorem bv_u8I (x : Int) : bv (u8I x) = .int .u8 (x % 256) := by
  unfold bv u8I
  have h1 : 0 ≤ x % 256 := Int.emod_nonneg _ (by decide)
  have h2 : x % 256 < 256 := Int.emod_lt_of_pos _ (by decide)
  have h3 : (UInt8.ofNat (x % 256).toNat).toNat = (x % 256).toNat := by
    rw [UInt8.toNat_ofNat']
    exact Nat.mod_eq_of_lt (by omega)
  rw [h3]
  congr 1
  omega
theorem tail_len (n : Nat) : (tailF n).length = 8 := rfl
theorem tail_get (n : Nat) {i : Nat} (h : i < (tailF n).length) : (tailF n)[i] = u8I ((n * 8 : Nat) / 2 ^ (8 * (7 - i))) := by simp [tailF]
theorem sum_len (s : S8) : (s.l.map beW).flatten.length = 32 := rfl
theorem sum_get (s : S8) {i : Nat} (h : i < 8) : ∀ (h0 : 4 * i < (s.l.map beW).flatten.length) (h1 : 4 * i + 1 < (s.l.map beW).flatten.length) (h2 : 4 * i + 2 < (s.l.map beW).flatten.length) (h3 : 4 * i + 3 < (s.l.map beW).flatten.length), (s.l.map beW).flatten[4 * i] = u8I (s.l.getD i 0 / 16777216) ∧ (s.l.map beW).flatten[4 * i + 1] = u8I (s.l.getD i 0 / 65536) ∧ (s.l.map beW).flatten[4 * i + 2] = u8I (s.l.getD i 0 / 256) ∧ (s.l.map beW).flatten[4 * i + 3] = u8I (s.l.getD i 0) := by
  obtain ⟨a, b, c, d, e, f, g, k⟩ := s
  intro h0 h1 h2 h3
  rcases (by omega : i = 0 ∨ i = 1 ∨ i = 2 ∨ i = 3 ∨ i = 4 ∨ i = 5 ∨ i = 6 ∨ i = 7) with rfl | rfl | rfl | rfl | rfl | rfl | rfl | rfl <;> exact ⟨rfl, rfl, rfl, rfl⟩
end Nac.Sha
namespace Go.Proofs.YtjfpoahmjgeogaaGreatDoor
open Go.RowKit Nac Nac.Sha
theorem run_index_s8 (s : S8) {k : Nat} (hk : k < 8) (w : World) : (Instr.index 165 (.agg (u32s s.l).toArray) (.int .i64 (k : Int))).run Tryz.prog w = .ok (.int .u32 (s.l.getD k 0)) w := by
  obtain ⟨a, b, c, d, e, f, g, h⟩ := s
  rcases (by omega : k = 0 ∨ k = 1 ∨ k = 2 ∨ k = 3 ∨ k = 4 ∨ k = 5 ∨ k = 6 ∨ k = 7) with rfl | rfl | rfl | rfl | rfl | rfl | rfl | rfl <;> kernel_rfl
theorem zB32 : ((Tryz.prog.info? 45).bind (·.zero)) = some (.agg ((List.replicate 32 (0 : UInt8)).map bv).toArray) := by kernel_rfl
theorem zB8 : ((Tryz.prog.info? 170).bind (·.zero)) = some (.agg ((List.replicate 8 (0 : UInt8)).map bv).toArray) := by kernel_rfl
theorem zHash : ((Tryz.prog.info? 168).bind (·.zero)) = some (.agg (hcells ⟨⟨0, 0, 0, 0, 0, 0, 0, 0⟩, List.replicate 64 0, 0⟩).toArray) := by kernel_rfl
theorem sB32 : SInfo 45 32 := ⟨by kernel_rfl, _, Tryz.underlying45, rfl⟩
theorem aB8 : AInfo 170 5 8 := ⟨by kernel_rfl, by kernel_rfl⟩
def RetSum (w : World) (L : List UInt8) (e : Ending) (w' : World) : Prop := e = .returned (.agg (L.map bv).toArray) ∧ Below w.heap.size w w'
theorem hcells_one (h : Hs) : ∀ v ∈ hcells h, v.oneCell' = true := by
  intro v hv
  unfold hcells at hv
  rcases List.mem_append.1 hv with hv | hv
  · rcases List.mem_append.1 hv with hv | hv
    · exact u32s_one _ v hv
    · obtain ⟨z, _, rfl⟩ := List.mem_map.1 hv; rfl
  · rw [List.mem_singleton] at hv; subst hv; rfl
structure SumM (w0 : World) (B2 c : Nat) (hs : Hs) (w : World) : Prop where
  blk : Blk w c (hcells hs)
  rest : hs.rest.length = 64
  res : Blk w B2 ((List.replicate 32 (0 : UInt8)).map bv)
  bel : Below w0.heap.size w0 w
  g : ShaG w
  n1 : B2 = w0.heap.size
  n2 : c = B2 + 1
  n3 : 4 < B2
  n4 : c < w.heap.size
theorem SumM.only {w0 w w' : World} {B2 c : Nat} {hs hs' : Hs} (h : SumM w0 B2 c hs w) (ho : Only c w w') (hb : Blk w' c (hcells hs')) (hr : hs'.rest.length = 64) : SumM w0 B2 c hs' w' :=
  ⟨hb, hr, ho.blk h.res (by have := h.n2; omega), ho.under h.bel (by have := h.n1; have := h.n2; omega) h.bel.size, h.g.only ho (by have := h.n2; have := h.n3; omega) (by have := h.n4; have := h.n2; have := h.n3; omega), h.n1, h.n2, h.n3, hb.lt⟩
theorem SumM.grown {w0 w w' : World} {B2 c : Nat} {hs : Hs} (h : SumM w0 B2 c hs w) (hg : w.grownBy w' none) : SumM w0 B2 c hs w' :=
  h.only (grown_none hg) (h.blk.grown hg (by simp)) h.rest
theorem SumM.write {w0 w : World} {B2 c : Nat} {hs : Hs} (h : SumM w0 B2 c hs w) (A : Option Addr) (n cc : Nat) (l : List UInt8) (hn : n = l.length) (hX : RX w c A l) (hc : n ≤ cc) (hl : hs.len + n < 4611686018427387904) :
    Calls Tryz.prog 58 #[.pointer (some ⟨c, 0, none⟩), .slice A n cc] w (fun e w' => e = .returned (.tuple #[]) ∧ SumM w0 B2 c (hs.write l) w' ∧ (hs.write l).len = hs.len + n) := by
  subst hn
  exact (write_calls w c hs l A cc h.blk h.rest hX hc hl h.g (by have := h.n2; have := h.n3; omega)).mono fun e w' ⟨h1, h2, h3, h4, h5⟩ => ⟨h1, h.only h5 h2 h3, h4⟩
theorem rx_of_blk {w : World} {c b : Nat} {l : List UInt8} (hb : Blk w b (l.map bv)) (hne : b ≠ c) : RX w c (some ⟨b, 0, none⟩) l := fun _ =>
  ⟨b, 0, rfl, hb.lt, hne, fun j hj => by rw [Nat.zero_add]; exact hb.cell (by rw [List.getElem?_map, List.getElem?_eq_getElem hj]; rfl)⟩
structure FinS (w0 : World) (B2 B9 : Nat) (w : World) : Prop where
  res : Blk w B2 ((List.replicate 32 (0 : UInt8)).map bv)
  bel : Below w0.heap.size w0 w
  n1 : B2 = w0.heap.size
  n2 : B2 < B9
theorem FinS.grown {w0 w w' : World} {B2 B9 : Nat} (h : FinS w0 B2 B9 w) (hg : w.grownBy w' (some B9)) : FinS w0 B2 B9 w' :=
  ⟨h.res.grown hg (by have := h.n2; simp; omega), h.bel.grown hg h.bel.size (fun j e => by injection e with e; have := h.n1; have := h.n2; omega), h.n1, h.n2⟩
set_option maxRecDepth 100000 in
set_option maxHeartbeats 4000000 in
theorem hsum_calls (w : World) (hb : Nat) (h : Hs) (hB : Blk w hb (hcells h)) (hr : h.rest.length = 64) (hs : h.len < 1099511627776) (hG : ShaG w) (h4 : 4 ≤ hb) : Calls Tryz.prog 59 #[.pointer (some ⟨hb, 0, none⟩)] w (RetSum w h.sum) := by
  have HB := Lib.hid hB
  have HRL := Lib.hid hr
  have HSM := Lib.hid hs
  have HG := Lib.hid hG
  have H4 : Hid (4 ≤ hb ∧ hb < w.heap.size) := Lib.hid ⟨h4, hB.lt⟩
  clear hB hr hs hG h4
  go_enter Tryz.func59, Tryz.ntmps59
  go_wp2_with ((with_reducible show wpList _ _ _ (Oper.mk (some 2) (Op.alloc 45) _ _ _ _ :: _) _ _); refine wpList_allocS _ zB32 rfl rfl ?_)
  intro w1 hb1 hg1 hs1
  have HB1 := Lib.hid hb1
  have HG1 := Lib.hid hg1
  have HS1 := Lib.hid hs1
  clear hb1 hg1 hs1
  obtain ⟨cl, hcl⟩ : ∃ cl, cl = hcells h := ⟨_, rfl⟩
  have HCL := Lib.hid hcl
  have HLL : Hid (cl.length = 73) := Lib.hid (by rw [hcl, hcells_len h HRL.out])
  have HBC : Hid (Blk w1 hb cl) := Lib.hid (by rw [hcl]; exact HB.out.grown HG1.out (by simp))
  clear hcl
  go_wp2_with first | ((with_reducible show wpList _ _ _ (Oper.mk _ (Op.load 168 _) _ _ _ _ :: _) _ _); refine wpList_loadS sHash rfl _ rfl hb cl rfl HBC.out HLL.out ?_) | ((with_reducible show wpList _ _ _ (Oper.mk (some 3) (Op.alloc 168) _ _ _ _ :: _) _ _); refine wpList_allocS _ zHash rfl rfl ?_; intro w2 hb2 hg2 hs2; have HB2 := Lib.hid hb2; have HG2 := Lib.hid hg2; have HS2 := Lib.hid hs2; clear hb2 hg2 hs2) | ((with_reducible show wpList _ _ _ (Oper.mk _ (Op.store 168 _ _) _ _ _ _ :: _) _ _); refine wpList_storeS sHash rfl _ _ rfl w1.heap.size _ cl rfl rfl HB2.out (by kernel_rfl) HLL.out (by rw [HCL.out]; exact hcells_one h) ?_)
  intro w3 hb3 hg3
  obtain ⟨c, hc⟩ : ∃ c, c = w1.heap.size := ⟨_, rfl⟩
  obtain ⟨B2, hB2⟩ : ∃ B, B = w.heap.size := ⟨_, rfl⟩
  have HM3 : Hid (SumM w B2 c h w3) := Lib.hid <| by
    have h1 := HS1.out
    have h2 := HS2.out
    have h3 := H4.out
    have b1 : Below w.heap.size w w1 := gbelow HG1.out
    have b2 : Below w.heap.size w w2 := b1.trans ((gbelow HG2.out).mono (by omega))
    have b3 : Below w.heap.size w w3 := b2.grown hg3 b2.size (fun j e => by injection e with e; omega)
    refine ⟨by rw [hc, ← HCL.out]; exact hb3, HRL.out, by rw [hB2]; exact (HB1.out.grown HG2.out (by simp)).grown hg3 (by simp; omega), b3, HG.out.below b3 (by omega), hB2, by omega, by omega, by have := hg3.size; omega⟩
  rw [← hB2, ← hc]
  clear hc hB2 hb3 hg3 HB1 HG1 HS1 HB2 HG2 HS2 HBC HCL HLL
  obtain ⟨hn, hhn⟩ : ∃ n, n = h.len := ⟨_, rfl⟩
  have HHN := Lib.hid hhn
  have hcl3 : w3.cell? ⟨c, 72, none⟩ = some (.int .i64 (hn : Int)) := by rw [hhn]; exact HM3.out.blk.cell (hcells_last h HRL.out)
  have hsmall : hn < 1099511627776 := by rw [hhn]; exact HSM.out
  clear hhn
  have hn0 : IntKind.u64.wrap (hn : Int) = (hn : Int) := by rw [IntKind.wrap_u64]; omega
  have hn1 : IntKind.u64.wrap ((hn : Int) * 8) = (hn : Int) * 8 := by rw [IntKind.wrap_u64]; omega
  go_wp2_with ((with_reducible show wpList _ _ _ (Oper.mk _ (Op.buildSlice 36 _ _) _ _ _ _ :: _) _ _); refine wpList_byte1 rfl _ rfl 128 rfl ?_)
  intro w4 hb4 hg4 hs4
  have HM4 : Hid (SumM w B2 c h w4) := Lib.hid (HM3.out.grown hg4)
  have HW4 : Hid (Calls Tryz.prog 58 #[.pointer (some ⟨c, 0, none⟩), .slice (some ⟨w3.heap.size, 0, none⟩) 1 1] w4 (fun e w' => e = .returned (.tuple #[]) ∧ SumM w B2 c (h.write [128]) w' ∧ (h.write [128]).len = h.len + 1)) := Lib.hid (HM4.out.write _ 1 1 [128] rfl (rx_of_blk hb4 (by have := HM3.out.n4; omega)) (Nat.le_refl _) (by have := HSM.out; omega))
  clear hb4 hg4 hs4 hcl3
  go_wp2_with fail
  go_at_call 58
  with_reducible refine HW4.out.mono ?_
  rintro e w5 ⟨rfl, hm5, hl5⟩
  have HM5 := Lib.hid hm5
  have HL5 := Lib.hid hl5
  clear hm5 hl5 HW4 HM4
  obtain ⟨h1, hh1⟩ : ∃ h1, h1 = h.write [128] := ⟨_, rfl⟩
  have HH1 := Lib.hid hh1
  rw [← hh1] at HM5 HL5
  clear hh1
  have hcl5 : w5.cell? ⟨c, 72, none⟩ = some (.int .i64 ((hn + 1 : Nat) : Int)) := by
    have := HM5.out.blk.cell (hcells_last h1 HM5.out.rest)
    rw [HL5.out, ← HHN.out] at this
    exact this
  obtain ⟨m, hm⟩ : ∃ m, m = hn + 1 := ⟨_, rfl⟩
  rw [← hm] at hcl5
  have HMM := Lib.hid hm
  have hrm : (m : Int).tmod 64 = ((m % 64 : Nat) : Int) := by rw [Int.tmod_eq_emod_of_nonneg (by omega)]; omega
  obtain ⟨u, hu⟩ : ∃ u, u = m % 64 := ⟨_, rfl⟩
  have HU := Lib.hid hu
  rw [← hu] at hrm
  have hu64 : u < 64 := by rw [hu]; exact Nat.mod_lt _ (by decide)
  have HU64 := Lib.hid hu64
  have hsb : IntKind.i64.wrap ((120 : Int) - (u : Int)) = (120 : Int) - (u : Int) := by rw [Go.IntWalk.i64_left]; unfold wrap64; omega
  obtain ⟨z, hz⟩ : ∃ z, z = (120 - u) % 64 := ⟨_, rfl⟩
  have HZ := Lib.hid hz
  have hzm : ((120 : Int) - (u : Int)).tmod 64 = (z : Int) := by rw [Int.tmod_eq_emod_of_nonneg (by omega)]; omega
  clear hm hu hz
  go_wp2_with ((with_reducible show wpList _ _ _ (Oper.mk _ (Op.makeSlice 36 _ _) _ _ _ _ :: _) _ _); refine wpList_make1 Tryz.underlying36 Tryz.infoByte rfl (by decide) rfl _ _ rfl z (by have := HZ.out; omega) rfl rfl ?_)
  intro w6 hb6 hg6 hs6
  have HM6 : Hid (SumM w B2 c h1 w6) := Lib.hid (HM5.out.grown hg6)
  have HW6 : Hid (Calls Tryz.prog 58 #[.pointer (some ⟨c, 0, none⟩), .slice (some ⟨w5.heap.size, 0, none⟩) z z] w6 (fun e w' => e = .returned (.tuple #[]) ∧ SumM w B2 c (h1.write (List.replicate z 0)) w' ∧ (h1.write (List.replicate z 0)).len = h1.len + z)) := Lib.hid (HM6.out.write _ z z (List.replicate z 0) (by simp) (rx_of_blk (by rw [List.map_replicate]; exact hb6) (by have := HM5.out.n4; omega)) (Nat.le_refl _) (by have h1 := HSM.out; have h2 := HL5.out; have h3 := HZ.out; omega))
  clear hb6 hg6 hs6 hcl5 hrm hsb hzm
  go_wp2_with fail
  go_at_call 58
  with_reducible refine HW6.out.mono ?_
  rintro e w7 ⟨rfl, hm7, hl7⟩
  have HM7 := Lib.hid hm7
  have HL7 := Lib.hid hl7
  clear hm7 hl7 HW6 HM6
  go_wp2_with ((with_reducible show wpList _ _ _ (Oper.mk (some 7) (Op.alloc 170) _ _ _ _ :: _) _ _); refine wpList_allocS _ zB8 rfl rfl ?_)
  intro w8 hb8 hg8 hs8
  obtain ⟨h2, hh2⟩ : ∃ h2, h2 = h1.write (List.replicate z 0) := ⟨_, rfl⟩
  rw [← hh2] at HM7 HL7
  have HPD : Hid (h2 = h.padded ∧ h2.len < 1099511628000) := Lib.hid <| by
    have a1 := HH1.out
    have a2 := HZ.out
    have a3 := HU.out
    have a4 := HMM.out
    have a5 := HHN.out
    have a6 := HL5.out
    have a7 := HL7.out
    have a8 := HSM.out
    refine ⟨?_, by omega⟩
    rw [hh2]
    unfold Hs.padded
    rw [← a1]
    congr 2
    rw [a2, a3, a4, a6, a5]
  obtain ⟨B7, hB7⟩ : ∃ B, B = w7.heap.size := ⟨_, rfl⟩
  have HM8 : Hid (SumM w B2 c h2 w8 ∧ Blk w8 B7 ((parts (tailF hn) 0).map bv) ∧ c < B7) := Lib.hid ⟨HM7.out.grown hg8, by rw [parts_zero, hB7]; exact hb8, by rw [hB7]; exact HM7.out.n4⟩
  rw [← hB7]
  clear hh2 hB7 hb8 hg8 hs8 HM7 HL7 HH1 HL5 HM5
  go_wp2_with fail
  go_loopw [30] (fun s30 wr => ∃ i : Nat, i ≤ 8 ∧ s30 = .int .i64 (i : Int) ∧ SumM w B2 c h2 wr ∧ Blk wr B7 ((parts (tailF hn) i).map bv)) (fun s30 _ => 8 - (intOf s30).toNat)
  case atStart => exact ⟨0, by decide, rfl, HM8.out.1, HM8.out.2.1⟩
  case round =>
    obtain ⟨i, hi, rfl, hm, hbt⟩ := hrel
    have HMR := Lib.hid hm
    have HBT := Lib.hid hbt
    have HCB : Hid (c < B7) := Lib.hid HM8.out.2.2
    clear HM8 hm hbt
    by_cases hlt : i < 8
    · have HLT := Lib.hid hlt
      go_wp2_with ((with_reducible show wpList _ _ _ (Oper.mk _ (Op.store 5 _ _) _ _ _ _ :: _) _ _); refine wpList_storeB rfl 5 _ _ rfl B7 i _ (.int .u8 ((hn : Int) * 8 / 2 ^ (8 * (7 - i)) % 256)) (by rw [List.length_map, parts_len _ (by rw [tail_len]; have := HLT.out; omega), tail_len]; exact HLT.out) rfl (by rfl) HBT.out (by kernel_rfl) rfl ?_)
      intro w9 hb9 hg9 hs9
      have HB9 : Hid (Blk w9 B7 ((parts (tailF hn) (i + 1)).map bv)) := Lib.hid <| by
        have hlt := HLT.out
        have := hb9.out
        rw [← parts_set (tailF hn) (by rw [tail_len]; exact hlt), tail_get hn (by rw [tail_len]; exact hlt), bv_u8I]
        rw [show ((hn * 8 : Nat) : Int) = (hn : Int) * 8 by omega]
        exact this
      have HM9 : Hid (SumM w B2 c h2 w9) := Lib.hid <| by
        have h1 := HCB.out
        have hm := HMR.out
        exact ⟨hm.blk.grown hg9.out (by simp; omega), hm.rest, hm.res.grown hg9.out (by have := hm.n2; simp; omega), hm.bel.grown hg9.out hm.bel.size (fun j e => by injection e with e; have := hm.n1; have := hm.n2; omega), hm.g.only (Only.grown hg9.out) (by have := hm.n2; have := hm.n3; omega) (by have := hm.n4; have := hm.n2; have := hm.n3; omega), hm.n1, hm.n2, hm.n3, by have := hg9.out.size; have := hm.n4; omega⟩
      clear hb9 hg9 hs9
      go_wp2_with fail
      go_roundw
      case rel => exact ⟨i + 1, by omega, by go_num, HM9.out, HB9.out⟩
      case measure => simp [intOf]; omega
    · obtain rfl : i = 8 := by omega
      have HBF : Hid (Blk wr B7 ((tailF hn).map bv)) := Lib.hid (by have := HBT.out; rw [show (8 : Nat) = (tailF hn).length from rfl, parts_all] at this; exact this)
      have HW9 : Hid (Calls Tryz.prog 58 #[.pointer (some ⟨c, 0, none⟩), .slice (some ⟨B7, 0, none⟩) 8 8] wr (fun e w' => e = .returned (.tuple #[]) ∧ SumM w B2 c (h2.write (tailF hn)) w' ∧ (h2.write (tailF hn)).len = h2.len + 8)) := Lib.hid (HMR.out.write _ 8 8 (tailF hn) rfl (rx_of_blk HBF.out (by have := HCB.out; omega)) (Nat.le_refl _) (by have := HPD.out.2; omega))
      clear HBT HBF
      go_wp2_with ((with_reducible show wpList _ _ _ (Oper.mk _ (Op.slice 170 _ none none none) _ _ _ _ :: _) _ _); refine wpList_arrAll aB8 (by decide) rfl _ rfl B7 0 rfl ?_)
      go_at_call 58
      with_reducible refine HW9.out.mono ?_
      rintro e w10 ⟨rfl, hm10, -⟩
      have HM10 : Hid (SumM w B2 c (h2.write (tailF hn)) w10) := Lib.hid hm10
      obtain ⟨h3, hh3⟩ : ∃ h3, h3 = h2.write (tailF hn) := ⟨_, rfl⟩
      rw [← hh3] at HM10
      have HH3 : Hid ((h3.st.l.map beW).flatten = h.sum) := Lib.hid (by rw [hh3, HPD.out.1, HHN.out]; rfl)
      clear hm10 hh3 HW9 HMR HCB
      go_wp2_with ((with_reducible show wpList _ _ _ (Oper.mk (some 9) (Op.alloc 45) _ _ _ _ :: _) _ _); refine wpList_allocS _ zB32 rfl rfl ?_)
      intro w11 hb11 hg11 hs11
      obtain ⟨S, hS⟩ : ∃ S, S = (h3.st.l.map beW).flatten := ⟨_, rfl⟩
      have HS32 : Hid (S.length = 32) := Lib.hid (by rw [hS]; exact sum_len _)
      have HSG8 : Hid (∀ i, i < 8 → ∀ (h0 : 4 * i < S.length) (h1 : 4 * i + 1 < S.length) (h2 : 4 * i + 2 < S.length) (h3' : 4 * i + 3 < S.length), S[4 * i] = u8I (h3.st.l.getD i 0 / 16777216) ∧ S[4 * i + 1] = u8I (h3.st.l.getD i 0 / 65536) ∧ S[4 * i + 2] = u8I (h3.st.l.getD i 0 / 256) ∧ S[4 * i + 3] = u8I (h3.st.l.getD i 0)) := Lib.hid (by subst hS; intro i hi; exact sum_get h3.st hi)
      rw [← hS] at HH3
      obtain ⟨B9, hB9⟩ : ∃ B, B = w10.heap.size := ⟨_, rfl⟩
      have HF11 : Hid (FinS w B2 B9 w11) := Lib.hid ⟨HM10.out.res.grown hg11 (by simp), HM10.out.bel.trans ((gbelow hg11).mono (by have := HM10.out.bel.size; omega)), HM10.out.n1, by rw [hB9]; have := HM10.out.n2; have := HM10.out.n4; omega⟩
      have HB11 : Hid (Blk w11 B9 ((parts S 0).map bv)) := Lib.hid (by rw [parts_zero, HS32.out, hB9]; exact hb11)
      obtain ⟨sl, hsl⟩ : ∃ sl, sl = u32s h3.st.l := ⟨_, rfl⟩
      have HRA : Hid (w11.rangeAt c 0 sl ∧ sl.length = 8) := Lib.hid ⟨by rw [hsl]; exact (HM10.out.blk.grown hg11 (by simp)).range 0 _ (hcells_st h3), by rw [hsl, u32s_len]; rfl⟩
      have HIX : Hid (∀ i, i < 8 → ∀ w', (Instr.index 165 (.agg sl.toArray) (.int .i64 ((i : Nat) : Int))).run Tryz.prog w' = .ok (.int .u32 (h3.st.l.getD i 0)) w') := Lib.hid (by rw [hsl]; intro i hi w'; exact run_index_s8 h3.st hi w')
      rw [← hB9]
      clear hS hB9 hb11 hg11 hs11 hsl
      go_wp2_with ((with_reducible show wpList _ _ _ (Oper.mk _ (Op.load 165 _) _ _ _ _ :: _) _ _); refine wpList_loadM sS8 rfl _ rfl c 0 sl rfl HRA.out.1 HRA.out.2 ?_)
      clear HRA
      go_loopw [46] (fun s46 wr => ∃ i : Nat, i ≤ 8 ∧ s46 = .int .i64 (i : Int) ∧ FinS w B2 B9 wr ∧ Blk wr B9 ((parts S (4 * i)).map bv)) (fun s46 _ => 8 - (intOf s46).toNat)
      case atStart => exact ⟨0, by decide, rfl, HF11.out, HB11.out⟩
      case round =>
        clear HF11 HB11 HM10
        obtain ⟨i, hi, rfl, hm, hbt⟩ := hrel
        have HMR := Lib.hid hm
        have HBT := Lib.hid hbt
        clear hm hbt
        by_cases hlt : i < 8
        · have HLT := Lib.hid hlt
          have hix := HIX.out i hlt
          obtain ⟨x, hx⟩ : ∃ x, x = h3.st.l.getD i 0 := ⟨_, rfl⟩
          rw [← hx] at hix
          have HSG : Hid (S[4 * i]'(by rw [HS32.out]; omega) = u8I (x / 16777216) ∧ S[4 * i + 1]'(by rw [HS32.out]; omega) = u8I (x / 65536) ∧ S[4 * i + 2]'(by rw [HS32.out]; omega) = u8I (x / 256) ∧ S[4 * i + 3]'(by rw [HS32.out]; omega) = u8I x) := Lib.hid (by rw [hx]; exact HSG8.out i hlt _ _ _ _)
          clear hx
          go_wp2_with ((with_reducible show wpList _ _ _ (Oper.mk _ (Op.store 5 _ _) _ _ _ _ :: _) _ _); refine wpList_storeB rfl 5 _ _ rfl B9 (4 * i) _ (.int .u8 (x / 16777216 % 256)) (by rw [List.length_map, parts_len _ (by rw [HS32.out]; have := HLT.out; omega), HS32.out]; have := HLT.out; omega) rfl (by rfl) HBT.out (by kernel_rfl) rfl ?_)
          intro w20 hb20 hg20 hs20
          have HB20 : Hid (Blk w20 B9 ((parts S (4 * i + 1)).map bv)) := Lib.hid <| by
            have h1 := hb20.out
            have h2 : S[4 * i]'(by rw [HS32.out]; have := HLT.out; omega) = u8I (x / 16777216) := HSG.out.1
            rw [← parts_set S (by rw [HS32.out]; have := HLT.out; omega), h2, bv_u8I]
            exact h1
          have HM20 : Hid (FinS w B2 B9 w20) := Lib.hid (HMR.out.grown hg20.out)
          clear hb20 hg20 hs20 HBT
          go_wp2_with ((with_reducible show wpList _ _ _ (Oper.mk _ (Op.store 5 _ _) _ _ _ _ :: _) _ _); refine wpList_storeB rfl 5 _ _ rfl B9 (4 * i + 1) _ (.int .u8 (x / 65536 % 256)) (by rw [List.length_map, parts_len _ (by rw [HS32.out]; have := HLT.out; omega), HS32.out]; have := HLT.out; omega) rfl (by rfl) HB20.out (by kernel_rfl) rfl ?_)
          intro w21 hb21 hg21 hs21
          have HB21 : Hid (Blk w21 B9 ((parts S (4 * i + 1 + 1)).map bv)) := Lib.hid <| by
            have h1 := hb21.out
            have h2 : S[4 * i + 1]'(by rw [HS32.out]; have := HLT.out; omega) = u8I (x / 65536) := HSG.out.2.1
            rw [← parts_set S (by rw [HS32.out]; have := HLT.out; omega), h2, bv_u8I]
            exact h1
          have HM21 : Hid (FinS w B2 B9 w21) := Lib.hid (HM20.out.grown hg21.out)
          clear hb21 hg21 hs21 HB20
          go_wp2_with ((with_reducible show wpList _ _ _ (Oper.mk _ (Op.store 5 _ _) _ _ _ _ :: _) _ _); refine wpList_storeB rfl 5 _ _ rfl B9 (4 * i + 2) _ (.int .u8 (x / 256 % 256)) (by rw [List.length_map, parts_len _ (by rw [HS32.out]; have := HLT.out; omega), HS32.out]; have := HLT.out; omega) rfl (by rfl) HB21.out (by kernel_rfl) rfl ?_)
          intro w22 hb22 hg22 hs22
          have HB22 : Hid (Blk w22 B9 ((parts S (4 * i + 2 + 1)).map bv)) := Lib.hid <| by
            have h1 := hb22.out
            have h2 : S[4 * i + 2]'(by rw [HS32.out]; have := HLT.out; omega) = u8I (x / 256) := HSG.out.2.2.1
            rw [← parts_set S (by rw [HS32.out]; have := HLT.out; omega), h2, bv_u8I]
            exact h1
          have HM22 : Hid (FinS w B2 B9 w22) := Lib.hid (HM21.out.grown hg22.out)
          clear hb22 hg22 hs22 HB21
          go_wp2_with ((with_reducible show wpList _ _ _ (Oper.mk _ (Op.store 5 _ _) _ _ _ _ :: _) _ _); refine wpList_storeB rfl 5 _ _ rfl B9 (4 * i + 3) _ (.int .u8 (x % 256)) (by rw [List.length_map, parts_len _ (by rw [HS32.out]; have := HLT.out; omega), HS32.out]; have := HLT.out; omega) rfl (by rfl) HB22.out (by kernel_rfl) rfl ?_)
          intro w23 hb23 hg23 hs23
          have HB23 : Hid (Blk w23 B9 ((parts S (4 * i + 3 + 1)).map bv)) := Lib.hid <| by
            have h1 := hb23.out
            have h2 : S[4 * i + 3]'(by rw [HS32.out]; have := HLT.out; omega) = u8I (x) := HSG.out.2.2.2
            rw [← parts_set S (by rw [HS32.out]; have := HLT.out; omega), h2, bv_u8I]
            exact h1
          have HM23 : Hid (FinS w B2 B9 w23) := Lib.hid (HM22.out.grown hg23.out)
          clear hb23 hg23 hs23 HB22
          clear hix
          go_wp2_with fail
          go_roundw
          case rel => exact ⟨i + 1, by omega, by go_num, HM23.out, by have := HB23.out; rw [show 4 * (i + 1) = 4 * i + 3 + 1 by omega]; exact this⟩
          case measure => simp [intOf]; omega
        · obtain rfl : i = 8 := by omega
          have HBF : Hid (Blk wr B9 (S.map bv)) := Lib.hid (by have := HBT.out; rw [show 4 * 8 = S.length by rw [HS32.out], parts_all] at this; exact this)
          clear HBT HIX HSG8
          obtain ⟨bl, hbl⟩ : ∃ bl, bl = S.map bv := ⟨_, rfl⟩
          have HBL := Lib.hid hbl
          rw [← hbl] at HBF
          have HBL32 : Hid (bl.length = 32) := Lib.hid (by rw [hbl, List.length_map, HS32.out])
          clear hbl
          go_wp2_with (first | ((with_reducible show wpList _ _ _ (Oper.mk _ (Op.load 45 _) _ _ _ _ :: _) _ _); refine wpList_loadS sB32 rfl _ rfl B9 bl rfl HBF.out HBL32.out ?_) | ((with_reducible show wpList _ _ _ (Oper.mk _ (Op.store 45 _ _) _ _ _ _ :: _) _ _); refine wpList_storeS sB32 rfl _ _ rfl B2 _ bl rfl rfl HMR.out.res (by rfl) HBL32.out (by rw [HBL.out]; intro v hv; obtain ⟨q, _, rfl⟩ := List.mem_map.1 hv; rfl) ?_))
          intro w30 hb30 hg30
          have l1 := Lib.hid (run_loadS sB32 B2 bl hb30 HBL32.out)
          have HRES : Hid (Below w.heap.size w w30) := Lib.hid (HMR.out.bel.grown hg30 HMR.out.bel.size (fun j e => by injection e with e; have := HMR.out.n1; omega))
          clear hb30 hg30
          go_wp2
          exact bodyPost_ret (v := .agg bl.toArray) (by simp [results, Tryz.results59, asAddr, l1.out]) rfl ⟨by rw [HBL.out, HH3.out], HRES.out⟩
set_option maxRecDepth 100000 in
set_option maxHeartbeats 4000000 in
theorem sha_calls (w : World) (A : Option Addr) (n c : Nat) (l : List UInt8) (hn : n = l.length) (hA : RB w w.heap.size A l) (hc : n ≤ c) (hl : n < 1099511627776) (hG : ShaG w) (h4 : 4 ≤ w.heap.size) : Calls Tryz.prog 34 #[.slice A n c] w (RetSum w (shaF l)) := by
  have HA := Lib.hid hA
  have HN := Lib.hid hn
  have HC := Lib.hid hc
  have HL := Lib.hid hl
  have HG := Lib.hid hG
  have H4 := Lib.hid h4
  clear hn hA hc hl hG h4
  go_enter Tryz.func34, Tryz.ntmps34
  go_wp2_with ((with_reducible show wpList _ _ _ (Oper.mk (some 2) (Op.alloc 45) _ _ _ _ :: _) _ _); refine wpList_allocS _ zB32 rfl rfl ?_)
  intro w1 hb1 hg1 hs1
  have HB1 := Lib.hid hb1
  have HBE1 : Hid (Below w.heap.size w w1 ∧ w1.heap.size = w.heap.size + 1) := Lib.hid ⟨gbelow hg1, hs1⟩
  have HNW : Hid (Calls Tryz.prog 57 #[] w1 (RetNewH w1)) := Lib.hid (newH_calls w1 (HG.out.below (gbelow hg1) (by have := H4.out; omega)))
  clear hb1 hg1 hs1
  go_wp2_with fail
  go_at_call 57
  with_reducible refine HNW.out.mono ?_
  rintro e w2 ⟨hb, rfl, hlt, hbk, hbel⟩
  have HB2 := Lib.hid hbk
  have HBE2 : Hid (Below w.heap.size w w2 ∧ w.heap.size < hb ∧ Blk w2 w.heap.size ((List.replicate 32 (0 : UInt8)).map bv)) := Lib.hid ⟨HBE1.out.1.trans (hbel.mono (by have := HBE1.out.2; omega)), by have := HBE1.out.2; omega, HB1.out.below hbel (by have := HBE1.out.2; omega)⟩
  have HG2 : Hid (ShaG w2) := Lib.hid (HG.out.below HBE2.out.1 (by have := H4.out; omega))
  have HW2 : Hid (Calls Tryz.prog 58 #[.pointer (some ⟨hb, 0, none⟩), .slice A n c] w2 (RetWr w2 hb newH l)) := Lib.hid <| by
    have hn := HN.out
    subst hn
    refine write_calls w2 hb newH l A c HB2.out rfl ?_ HC.out ?_ HG2.out (by have := H4.out; have := HBE2.out; omega)
    · intro hne
      obtain ⟨b, o, hA, hlt', hcc⟩ := HA.out hne
      exact ⟨b, o, hA, Nat.lt_of_lt_of_le hlt' HBE2.out.1.size, by have := HBE2.out.2.1; omega, fun j hj => (HBE2.out.1.cell hlt').trans (hcc j hj)⟩
    · show 0 + _ < _
      have := HL.out
      omega
  clear hbk hbel hlt HNW HB1 HBE1
  go_wp2_with fail
  go_at_call 58
  with_reducible refine HW2.out.mono ?_
  rintro e w3 ⟨rfl, hb3, hr3, hl3, ho3⟩
  have HS3 : Hid (Calls Tryz.prog 59 #[.pointer (some ⟨hb, 0, none⟩)] w3 (RetSum w3 (newH.write l).sum)) := Lib.hid <|
    hsum_calls w3 hb (newH.write l) hb3 hr3 (by rw [hl3]; show 0 + _ < _; have := HL.out; have := HN.out; omega) (HG2.out.only ho3 (by have := H4.out; have := HBE2.out; omega) (by have := H4.out; have := HBE2.out.1.size; omega)) (by have := H4.out; have := HBE2.out; omega)
  have HBE3 : Hid (Below w.heap.size w w3 ∧ Blk w3 w.heap.size ((List.replicate 32 (0 : UInt8)).map bv)) := Lib.hid ⟨ho3.under HBE2.out.1 (by have := HBE2.out; omega) HBE2.out.1.size, ho3.blk HBE2.out.2.2 (by have := HBE2.out; omega)⟩
  clear hb3 hr3 hl3 ho3 HW2 HB2 HG2 HBE2
  obtain ⟨S, hS⟩ : ∃ S, S = shaF l := ⟨_, rfl⟩
  have HS := Lib.hid hS
  have HS32 : Hid (S.length = 32) := Lib.hid (by rw [hS]; exact sha_len l)
  rw [show (newH.write l).sum = S from hS.symm] at HS3
  obtain ⟨bl, hbl⟩ : ∃ bl, bl = S.map bv := ⟨_, rfl⟩
  have HBL := Lib.hid hbl
  have HBL32 : Hid (bl.length = 32) := Lib.hid (by rw [hbl, List.length_map, HS32.out])
  unfold RetSum at HS3
  rw [← hbl] at HS3
  clear hS hbl
  go_wp2_with fail
  go_at_call 59
  with_reducible refine HS3.out.mono ?_
  rintro e w4 ⟨rfl, hb4⟩
  have HBE4 : Hid (Below w.heap.size w w4 ∧ Blk w4 w.heap.size ((List.replicate 32 (0 : UInt8)).map bv)) := Lib.hid ⟨HBE3.out.1.trans (hb4.mono HBE3.out.1.size), HBE3.out.2.keep (hb4.block _ HBE3.out.2.lt)⟩
  clear hb4 HS3 HBE3
  go_wp2_with (((with_reducible show wpList _ _ _ (Oper.mk _ (Op.store 45 _ _) _ _ _ _ :: _) _ _); refine wpList_storeS sB32 rfl _ _ rfl w.heap.size _ bl rfl rfl HBE4.out.2 (by rfl) HBL32.out (by rw [HBL.out]; intro v hv; obtain ⟨q, _, rfl⟩ := List.mem_map.1 hv; rfl) ?_))
  intro w30 hb30 hg30
  have l1 := Lib.hid (run_loadS sB32 w.heap.size bl hb30 HBL32.out)
  have HRES : Hid (Below w.heap.size w w30) := Lib.hid (HBE4.out.1.grown hg30 HBE4.out.1.size (fun j e => by injection e with e; omega))
  clear hb30 hg30
  go_wp2
  unfold RetSum
  rw [← HS.out, ← HBL.out]
  exact bodyPost_ret (v := .agg bl.toArray) (by simp [results, Tryz.results34, asAddr, l1.out]) rfl ⟨rfl, HRES.out⟩
end Go.Proofs.YtjfpoahmjgeogaaGreatDoor
/- octet.Put and the reference's Put: the bytes of a number of a size from 1 to 8 (and none for other sizes). -/
namespace Go.Proofs.YtjfpoahmjgeogaaGreatDoor
open Go.RowKit Nac Nac.Crc
def pc (n size k : Nat) : Array Value := ((lbs n k ++ List.replicate (size - k) 0).map bv).toArray
theorem pc_zero (n size : Nat) : madeCells #[.int .u8 0] size = pc n size 0 := by
  apply Array.toList_inj.1
  rw [toList_madeCells_one]
  simp [pc, lbs, bv]
theorem lbs_snoc (k : Nat) : ∀ n, lbs n (k + 1) = lbs n k ++ [UInt8.ofNat (n / 256 ^ k)] := by
  induction k with
  | zero => intro n; simp [lbs]
  | succ k ih =>
  intro n
  rw [lbs, ih (n / 256)]
  simp only [lbs, List.cons_append, Nat.div_div_eq_div_mul, Nat.pow_succ]
  rw [Nat.mul_comm 256]
theorem pc_step (n size k : Nat) (hk : k < size) : (pc n size k).setIfInBounds k (bv (UInt8.ofNat (n / 256 ^ k))) = pc n size (k + 1) := by
  apply Array.toList_inj.1
  simp only [pc, Array.toList_setIfInBounds]
  rw [lbs_snoc, show size - k = (size - (k + 1)) + 1 by omega, List.replicate_succ]
  simp [lbs_length]
theorem pc_full (n size : Nat) : pc n size size = ((lbs n size).map bv).toArray := by simp [pc]
theorem pc_cell (n size k j : Nat) (hj : j < size) (hk : k ≤ size) : ∃ v, (pc n size k)[j]? = some v := by
  have : j < (pc n size k).size := by simp [pc, lbs_length]; omega
  exact ⟨_, Array.getElem?_eq_getElem this⟩
theorem byte_eq (n k : Nat) : bv (UInt8.ofNat (n / 256 ^ k)) = .int .u8 ((n : Int) / 2 ^ (8 * k) % 256) := by
  have e : (2 : Int) ^ (8 * k) = ((256 ^ k : Nat) : Int) := by rw [Int.pow_mul]; simp
  rw [e, bv, UInt8.toNat_ofNat']
  congr 1
set_option maxHeartbeats 800000 in
theorem put_calls (w : World) (n size : Nat) (h1 : 1 ≤ size) (h8 : size ≤ 8) :
    Calls Tryz.prog 91 #[.int .u64 n, .int .i64 size] w fun e w' => e = .returned (.slice (some ⟨w.heap.size, 0, none⟩) size size) ∧ w.alloc (.cells ((lbs n size).map bv).toArray 5) = w' := by
  have hmk := run_make_row' (P := Tryz.prog) 36 5 (.int .u8 0) 1 Tryz.underlying36 Tryz.infoByte rfl .i64 .i64 size (by omega) (by omega)
  rw [pc_zero n size] at hmk
  go_enter Tryz.func91, Tryz.ntmps91
  go_wp2
  clear hmk
  go_loopw [6, 17] (fun s6 i wr => ∃ k : Nat, k ≤ size ∧ i = .int .i64 k ∧ wr = w.alloc (.cells (pc n size k) 5)) (fun _ i _ => size - (intOf i).toNat)
  case atStart => exact ⟨0, Nat.zero_le _, rfl, rfl⟩
  case round =>
    obtain ⟨k, hk, rfl, rfl⟩ := hrel
    by_cases hlt : k < size
    · obtain ⟨v, hv⟩ := pc_cell n size k k hlt hk
      have H := Lib.hid (pc_step n size k hlt)
      go_wp2
      go_roundw
      case rel => exact ⟨k + 1, by omega, by go_num, by rw [← H.out, byte_eq]⟩
      case measure => simp [intOf]; omega
    · obtain rfl : k = size := by omega
      go_wp2
      go_ret
      exact ⟨rfl, by rw [pc_full]⟩
/- crc.On and crc.Of: the register goes over the bytes as in the plain facts, by the table of sixteen words. -/
def Nib (w : World) : Prop := ∀ j, j < 16 → w.cell? ⟨4, j, none⟩ = some (.int .u32 ((table.getD j 0 : Nat) : Int))
theorem Nib.below {w w' : World} {B : Nat} (h : Nib w) (hB : 4 < B) (hb : Below B w w') : Nib w' := fun j hj => (hb.cell (p := ⟨4, j, none⟩) hB).trans (h j hj)
theorem not32 (r : W32) : bits .xor .u32 4294967295 (r.toNat : Int) = ((~~~ r).toNat : Int) := by
  have := r.isLt
  have h := u32_xor_nat 4294967295 r.toNat (by omega) (by omega)
  rw [show ((4294967295 : Nat) : Int) = 4294967295 from rfl] at h
  rw [h]
  congr 1
theorem xor32 (r s : W32) : bits .xor .u32 (r.toNat : Int) (s.toNat : Int) = ((r ^^^ s).toNat : Int) := by
  have := r.isLt
  have := s.isLt
  rw [u32_xor_nat _ _ (by omega) (by omega), BitVec.toNat_xor]
theorem and15 (r : W32) : bits .and .u32 (r.toNat : Int) 15 = ((r &&& 15#32).toNat : Int) := by
  have := r.isLt
  have h := u32_and_nat r.toNat 15 (by omega) (by omega)
  rw [show ((15 : Nat) : Int) = 15 from rfl] at h
  rw [h, BitVec.toNat_and]; rfl
theorem nib_facts (r : W32) : ∃ i t : Nat, i < 16 ∧ bits .and .u32 (r.toNat : Int) 15 = (i : Int) ∧ table.getD i 0 = t ∧ bits .xor .u32 ((r.toNat : Int) / 16) (t : Int) = ((nib r).toNat : Int) := by
  have hr := r.isLt
  have hi := and15_lt r
  refine ⟨(r &&& 15#32).toNat, _, hi, and15 r, rfl, ?_⟩
  have ht := table_lt ⟨_, hi⟩
  simp only at ht
  have h := u32_xor_nat (r.toNat / 16) (table.getD (r &&& 15#32).toNat 0) (by omega) (by omega)
  rw [show ((r.toNat / 16 : Nat) : Int) = (r.toNat : Int) / 16 from by omega] at h
  rw [h]
  unfold nib
  rw [BitVec.toNat_xor, BitVec.toNat_ushiftRight, BitVec.toNat_ofNat, Nat.mod_eq_of_lt (by omega), Nat.shiftRight_eq_div_pow]
theorem wide_in (x : UInt8) : (x.toNat : Int) % 4294967296 = ((wide x).toNat : Int) := by
  have := x.toNat_lt
  unfold wide
  rw [BitVec.toNat_ofNat]
  omega
theorem round_facts (r : W32) (x : UInt8) : ∃ r1 r2 r3 i1 t1 i2 t2 : Nat,
    bits .xor .u32 (r.toNat : Int) ((x.toNat : Int) % 4294967296) = (r1 : Int) ∧ i1 < 16 ∧ bits .and .u32 (r1 : Int) 15 = (i1 : Int) ∧ table.getD i1 0 = t1 ∧ bits .xor .u32 ((r1 : Int) / 16) (t1 : Int) = (r2 : Int) ∧
    i2 < 16 ∧ bits .and .u32 (r2 : Int) 15 = (i2 : Int) ∧ table.getD i2 0 = t2 ∧ bits .xor .u32 ((r2 : Int) / 16) (t2 : Int) = (r3 : Int) ∧ r3 = (feed r x).toNat := by
  obtain ⟨i1, t1, h1, a1, b1, c1⟩ := nib_facts (r ^^^ wide x)
  obtain ⟨i2, t2, h2, a2, b2, c2⟩ := nib_facts (nib (r ^^^ wide x))
  exact ⟨_, _, _, i1, t1, i2, t2, by rw [wide_in, xor32], h1, a1, b1, c1, h2, a2, b2, c2, by rw [feed_nib]⟩
set_option maxHeartbeats 400000 in
theorem on_callsW (w : World) (B : Nat) (A : Option Addr) (c : Nat) (l : List UInt8) (sum : W32) (ht : Nib w) (h : RB w B A l) (h8 : l.length ≤ 140737488355328) :
    Calls Tryz.prog 112 #[.int .u32 (sum.toNat : Int), .slice A l.length c] w fun e w' => e = .returned (.int .u32 ((on sum l).toNat : Int)) ∧ w = w' := by
  have hs : IntKind.u32.signed = false := rfl
  have hm : IntKind.u32.max = 4294967295 := by decide
  have hn := not32 sum
  obtain ⟨s, hs0⟩ : ∃ s, s = sum.toNat := ⟨_, rfl⟩
  obtain ⟨r0, hr0⟩ : ∃ r, r = (~~~ sum).toNat := ⟨_, rfl⟩
  rw [← hs0, ← hr0] at hn
  rw [← hs0]
  have HS := Lib.hid hs0; clear hs0
  have HR := Lib.hid hr0; clear hr0
  go_enter Tryz.func112, Tryz.ntmps112
  go_wp2
  clear hn
  go_loop [5, 7, 12] (fun r x i => ∃ k a : Nat, k ≤ l.length ∧ i = .int .i64 k ∧ r = .int .u32 a ∧ a = (reg (~~~ sum) (l.take k)).toNat) (fun _ _ i => l.length - (intOf i).toNat)
  case atStart => exact ⟨0, _, Nat.zero_le _, rfl, rfl, by rw [HR.out]; rfl⟩
  case round =>
    obtain ⟨k, a, hk, rfl, rfl, ha⟩ := hrel
    by_cases hlt : k < l.length
    · obtain ⟨b, o, rfl, _, hc⟩ := h.get hlt
      obtain ⟨r1, r2, r3, i1, t1, i2, t2, e1, l1, e2, e3, e4, l2, e5, e6, e7, e8⟩ := round_facts (reg (~~~ sum) (l.take k)) l[k]
      rw [← ha] at e1
      have c1 := ht i1 l1
      have c2 := ht i2 l2
      rw [e3] at c1
      rw [e6] at c2
      have HA := Lib.hid ha; clear ha
      have H8 := Lib.hid e8; clear e8
      clear e3 e6 ht
      go_wp2
      go_round
      case rel => exact ⟨k + 1, r3, by omega, by go_num, rfl, by rw [H8.out, List.take_succ_eq_append_getElem hlt, reg_snoc]⟩
      case measure => simp [intOf]; omega
    · have HA := Lib.hid ha; clear ha
      go_wp2
      go_ret
      refine ⟨?_, rfl⟩
      show Ending.returned (.int .u32 (bits .xor .u32 4294967295 (a : Int))) = _
      rw [HA.out, List.take_of_length_le (by omega), not32]
      rfl
theorem of_callsW (w : World) (B : Nat) (A : Option Addr) (c : Nat) (l : List UInt8) (ht : Nib w) (h : RB w B A l) (h8 : l.length ≤ 140737488355328) :
    Calls Tryz.prog 97 #[.slice A l.length c] w fun e w' => e = .returned (.int .u32 ((of l).toNat : Int)) ∧ w = w' := by
  have H := Lib.hid (on_callsW w B A c l 0#32 ht h h8)
  clear ht
  go_enter Tryz.func97, Tryz.ntmps97
  go_wp2_with (go_at_call 112; refine H.out.mono ?_; rintro e w' ⟨rfl, rfl⟩)
  go_ret
  exact ⟨rfl, rfl⟩
theorem of_callsW_n (w : World) (B : Nat) (A : Option Addr) (n c : Nat) (l : List UInt8) (hn : n = l.length) (ht : Nib w) (h : RB w B A l) (h8 : l.length ≤ 140737488355328) :
    Calls Tryz.prog 97 #[.slice A n c] w fun e w' => e = .returned (.int .u32 ((of l).toNat : Int)) ∧ w = w' := by
  subst hn; exact of_callsW w B A c l ht h h8
/-! the same, for what may come in -/
section
variable (w : World) (B : Nat) (A : Option Addr) (n c : Nat) (l : List UInt8) (sum : W32)
theorem on_calls (ht : Nib w) (h : RB w B A l) (h8 : l.length ≤ 140737488351232) :
    Calls Tryz.prog 112 #[.int .u32 (sum.toNat : Int), .slice A l.length c] w fun e w' => e = .returned (.int .u32 ((on sum l).toNat : Int)) ∧ w = w' := on_callsW w B A c l sum ht h (by omega)
theorem of_calls (ht : Nib w) (h : RB w B A l) (h8 : l.length ≤ 140737488351232) :
    Calls Tryz.prog 97 #[.slice A l.length c] w fun e w' => e = .returned (.int .u32 ((of l).toNat : Int)) ∧ w = w' := of_callsW w B A c l ht h (by omega)
end
/- crc.Seal: the bytes, and their check in four bytes. -/
def sealedB (l : List UInt8) : List UInt8 := l ++ lbs (of l).toNat 4
set_option maxHeartbeats 1000000 in
theorem seal_calls (w : World) (B : Nat) (A : Option Addr) (c : Nat) (l : List UInt8) (ht : Nib w) (hg : 4 < w.heap.size) (h : RB w B A l) (hB : B ≤ w.heap.size) (h8 : l.length ≤ 140737488351232) :
    Calls Tryz.prog 93 #[.slice A l.length c] w (RetOB w (sealedB l)) := by
  obtain ⟨v, hv⟩ : ∃ v, v = (of l).toNat := ⟨_, rfl⟩
  have hv2 : v < 4294967296 := by rw [hv]; exact (of l).isLt
  have HV := Lib.hid hv; clear hv
  go_enter Tryz.func93, Tryz.ntmps93
  go_wp2_with (at_make; refine wpList_make0_bytes w rfl _ _ rfl w.heap.size .i64 .i64 ((l.length : Int) + 4) (l.length + 4) rfl rfl (by omega) (by omega) (Nat.le_refl _) ?_)
  intro w1 hown1 hgr1
  have hb1 : Below w.heap.size w w1 := (Below.refl _ _).grown hgr1 (Nat.le_refl _) (fun k hk => by cases hk)
  have hr1 := (h.mono hB).below hb1
  go_wp2_with (at_builtin; refine wpList_app_bytes _ rfl _ _ rfl w.heap.size _ _ [] _ rfl rfl hown1 A c l _ rfl rfl hr1 (by simp; omega) hb1.size ?_)
  intro A2 c2 L2 w2 HL2 hown2 hgr2 _
  have hb2 := below_app hb1 hgr2 hown1 hb1.size (Nat.le_refl _)
  have hr2 := (h.mono hB).below hb2
  have ht2 := ht.below hg hb2
  clear hgr1 hgr2 hown1
  go_wp2_with fail
  refine (of_calls _ _ A c l ht2 hr2 h8).mono ?_
  rintro e w' ⟨rfl, rfl⟩
  rw [← HV.out]
  go_wp2_with fail
  refine (put_calls w2 v 4 (by omega) (by omega)).mono ?_
  rintro e w' ⟨rfl, rfl⟩
  go_wp2_with (at_builtin; refine wpList_app_bytes _ rfl _ _ rfl w.heap.size A2 c2 L2 _ rfl rfl (hown2.alloc _) (some ⟨w2.heap.size, 0, none⟩) 4 (lbs v 4) _ rfl (lbs_length 4 v).symm (rb_new w2 _ _) (by rw [lbs_length, HL2.out]; omega) (by have := hb2.size; simp; omega) ?_)
  intro A3 c3 L3 w3 HL3 hown3 hgr3 _
  have hb3 := below_app (hb2.alloc hb2.size _) hgr3 (hown2.alloc _) (by have := hb2.size; simp; omega) (Nat.le_refl _)
  have hL : L3 = sealedB l := by rw [HL3.out, HL2.out, HV.out]; rfl
  have HL := Lib.hid hL; clear hL HL3
  clear hgr3 hown2
  go_wp2
  go_ret
  have := HL.out
  subst this
  exact ⟨A3, c3, rfl, hown3, hb3⟩
/- octet.number and octet.Get: what they return, for whatever bytes. -/
theorem le_take_succ (l : List UInt8) (k : Nat) (hk : k < l.length) : le (l.take (k + 1)) = le (l.take k) + 256 ^ k * l[k].toNat := by
  induction l generalizing k with
  | nil => simp at hk
  | cons x l ih =>
  cases k with
  | zero => simp [le]
  | succ k =>
  simp only [List.take_succ_cons, le, List.getElem_cons_succ]
  rw [ih k (by simpa using hk), Nat.pow_succ, Nat.mul_add, ← Nat.mul_assoc, Nat.mul_comm 256 (256 ^ k), ← Nat.add_assoc]
theorem pow256_lt : ∀ k : Fin 8, 256 ^ k.val * 256 ≤ 18446744073709551616 := by decide
theorem or_step (l : List UInt8) (k : Nat) (hk : k < l.length) (h8 : l.length ≤ 8) :
    bits .or .u64 (le (l.take k) : Int) (IntKind.u64.wrap (IntKind.u64.wrap (l[k].toNat : Int) * 2 ^ (8 * k))) = (le (l.take (k + 1)) : Int) := by
  have hx := l[k].toNat_lt
  have hl : le (l.take k) < 256 ^ k := by have := le_lt (l.take k); rwa [List.length_take, Nat.min_eq_left (by omega)] at this
  have hp := pow256_lt ⟨k, by omega⟩
  simp only at hp
  have e2 : (2 : Int) ^ (8 * k) = ((256 ^ k : Nat) : Int) := by rw [Int.pow_mul]; simp
  have hm : 256 ^ k * l[k].toNat < 18446744073709551616 := by
    have : 256 ^ k * l[k].toNat ≤ 256 ^ k * 255 := Nat.mul_le_mul_left _ (by omega)
    omega
  have hw : IntKind.u64.wrap (IntKind.u64.wrap (l[k].toNat : Int) * 2 ^ (8 * k)) = ((256 ^ k * l[k].toNat : Nat) : Int) := by
    rw [IntKind.wrap_u64 (l[k].toNat : Int), Int.emod_eq_of_lt (by omega) (by omega), e2, ← Int.natCast_mul, IntKind.wrap_u64, Nat.mul_comm]
    generalize 256 ^ k * l[k].toNat = m at hm ⊢
    omega
  rw [hw, bits_or_u64_nat _ _ (by omega) hm, le_take_succ l k hk]
  congr 1
  have e256 : (256 : Nat) ^ k = 2 ^ (8 * k) := by rw [Nat.pow_mul]
  rw [e256] at hl ⊢
  have := Nat.two_pow_add_eq_or_of_lt hl l[k].toNat
  rw [Nat.or_comm, ← this, Nat.add_comm]
set_option maxHeartbeats 400000 in
theorem number_calls (w : World) (B : Nat) (A : Option Addr) (c : Nat) (l : List UInt8) (h : RB w B A l) (h8 : l.length ≤ 8) :
    Calls Tryz.prog 100 #[.slice A l.length c] w fun e w' => e = .returned (.int .u64 (le l : Int)) ∧ w = w' := by
  go_enter Tryz.func100, Tryz.ntmps100
  go_wp2
  go_loop [3, 4, 5, 8] (fun n i0 x i => ∃ k : Nat, k ≤ l.length ∧ i = .int .i64 k ∧ n = .int .u64 (le (l.take k) : Int)) (fun _ _ _ i => l.length - (intOf i).toNat)
  case atStart => exact ⟨0, Nat.zero_le _, rfl, by simp [le]⟩
  case round =>
    obtain ⟨k, hk, rfl, rfl⟩ := hrel
    by_cases hlt : k < l.length
    · obtain ⟨b, o, rfl, _, hc⟩ := h.get hlt
      have H := Lib.hid (or_step l k hlt h8)
      go_wp2
      go_round
      case rel => exact ⟨k + 1, by omega, by go_num, by rw [H.out]⟩
      case measure => simp [intOf]; omega
    · go_wp2
      go_ret
      exact ⟨by rw [List.take_of_length_le (by omega)]; rfl, rfl⟩
/- octet.number and octet.Get: what they return, for whatever bytes. -/
set_option maxHeartbeats 400000 in
theorem get_calls (w : World) (B : Nat) (A : Option Addr) (c : Nat) (l : List UInt8) (h : RB w B A l) (h1 : 1 ≤ l.length) (h8 : l.length ≤ 8) :
    Calls Tryz.prog 96 #[.slice A l.length c] w fun e w' => e = .returned (.tuple #[.int .u64 (le l : Int), .int .i64 0]) ∧ w = w' := by
  have hn := number_calls w B A c l h h8
  have H := Lib.hid hn
  clear hn
  go_enter Tryz.func96, Tryz.ntmps96
  go_wp2_with (go_at_call 100; refine H.out.mono ?_; rintro e w' ⟨rfl, rfl⟩)
  go_ret2
  exact ⟨rfl, rfl⟩
theorem get_calls_n (w : World) (B : Nat) (A : Option Addr) (n c : Nat) (l : List UInt8) (hn : n = l.length) (h : RB w B A l) (h1 : 1 ≤ l.length) (h8 : l.length ≤ 8) :
    Calls Tryz.prog 96 #[.slice A n c] w fun e w' => e = .returned (.tuple #[.int .u64 (le l : Int), .int .i64 0]) ∧ w = w' := by
  subst hn; exact get_calls w B A c l h h1 h8
/- crc.Open: what is before the check, or the error. -/
def openB (l : List UInt8) : List UInt8 × Int := if l.length < 4 then ([], 2) else if good l = true then (l.take (l.length - 4), 0) else ([], 8)
def RetOpen (w : World) (l : List UInt8) (e : Ending) (w' : World) : Prop :=
  ∃ A c, e = .returned (.tuple #[.slice A (openB l).1.length c, .int .i64 (openB l).2]) ∧ OB w' w.heap.size A c (openB l).1 ∧ Below w.heap.size w w'
set_option maxHeartbeats 1000000 in
theorem open_short (w : World) (A : Option Addr) (c : Nat) (l : List UInt8) (h4 : l.length < 4) :
    Calls Tryz.prog 76 #[.slice A l.length c] w (RetOpen w l) := by
  have ho : openB l = ([], 2) := by unfold openB; rw [if_pos h4]
  have HO := Lib.hid ho; clear ho
  go_enter Tryz.func76, Tryz.ntmps76
  go_wp2
  go_ret2
  refine ⟨none, 0, by rw [HO.out]; rfl, by rw [HO.out]; exact OB.nil _ _, Below.refl _ _⟩
set_option maxHeartbeats 1000000 in
theorem open_long (w : World) (B : Nat) (A : Option Addr) (c : Nat) (l : List UInt8) (ht : Nib w) (h : RB w B A l) (hc : l.length ≤ c) (h4 : 4 ≤ l.length) (h8 : l.length ≤ 140737488355328) :
    Calls Tryz.prog 76 #[.slice A l.length c] w (RetOpen w l) := by
  obtain ⟨b, o, rfl, hb, hcell⟩ := h (by rintro rfl; simp at h4)
  obtain ⟨t, ht4⟩ : ∃ t, t = l.drop (l.length - 4) := ⟨_, rfl⟩
  obtain ⟨m, hm4⟩ : ∃ m, m = l.take (l.length - 4) := ⟨_, rfl⟩
  have hrt : RB w B (some ⟨b, o + (l.length - 4), none⟩) t := by rw [ht4]; exact h.drop _
  have hrm : RB w B (some ⟨b, o, none⟩) m := by rw [hm4]; exact h.take _
  have hlt : l.length - (l.length - 4) = t.length := by rw [ht4]; simp
  have hlm : l.length - 4 = m.length := by rw [hm4]; simp
  obtain ⟨a, ha⟩ : ∃ a, a = le t := ⟨_, rfl⟩
  obtain ⟨v, hv⟩ : ∃ v, v = (of m).toNat := ⟨_, rfl⟩
  have hv2 : v < 4294967296 := by rw [hv]; exact (of m).isLt
  have c1 := get_calls_n w B _ _ (c - (l.length - 4)) t hlt hrt (by omega) (by omega)
  have c2 := of_callsW_n w B _ _ c m hlm ht hrm (by omega)
  rw [← ha] at c1
  rw [← hv] at c2
  have C1 := Lib.hid c1; clear c1
  have C2 := Lib.hid c2; clear c2
  have hopen : openB l = if a = v then (m, 0) else ([], 8) := by
    unfold openB
    rw [if_neg (by omega)]
    unfold good
    rw [← ht4, ← hm4, ← ha, ← hv]
    simp only [beq_iff_eq]
  have HA := Lib.hid ha; clear ha
  have HV := Lib.hid hv; clear hv
  have HT := Lib.hid ht4; clear ht4
  have HM := Lib.hid hm4; clear hm4
  have HLT := Lib.hid hlt; clear hlt
  have HLM := Lib.hid hlm; clear hlm
  by_cases hav : a = v
  · rw [if_pos hav] at hopen
    have HO := Lib.hid hopen; clear hopen
    have h1 : a ≤ v := by omega
    have h2 : v ≤ a := by omega
    clear hav
    go_enter Tryz.func76, Tryz.ntmps76
    go_wp2_with fail
    refine C1.out.mono ?_
    rintro e w' ⟨rfl, rfl⟩
    go_wp2_with fail
    refine C2.out.mono ?_
    rintro e w' ⟨rfl, rfl⟩
    go_wp2_with (at_builtin; refine wpList_app_bytes _ rfl _ _ rfl w.heap.size none 0 [] 0 rfl rfl (OB.nil _ _) (some ⟨b, o, none⟩) c m _ rfl HLM.out hrm (by have := HLM.out; simp; omega) (Nat.le_refl _) ?_)
    intro A2 c2 L w2 HL hown hgr _
    have hb2 := below_app (Below.refl _ _) hgr (OB.nil _ _) (Nat.le_refl _) (Nat.le_refl _)
    have HL2 : Hid (L = m) := HL.out
    clear hgr HL
    go_wp2
    go_ret2
    have := HL2.out
    subst this
    exact ⟨A2, c2, by rw [HO.out]; rfl, by rw [HO.out]; exact hown, hb2⟩
  · rw [if_neg hav] at hopen
    have HO := Lib.hid hopen; clear hopen
    go_enter Tryz.func76, Tryz.ntmps76
    go_wp2_with fail
    refine C1.out.mono ?_
    rintro e w' ⟨rfl, rfl⟩
    go_wp2_with fail
    refine C2.out.mono ?_
    rintro e w' ⟨rfl, rfl⟩
    go_wp2
    go_ret2
    exact ⟨none, 0, by rw [HO.out]; rfl, by rw [HO.out]; exact OB.nil _ _, Below.refl _ _⟩
theorem open_callsW (w : World) (B : Nat) (A : Option Addr) (n c : Nat) (l : List UInt8) (hn : n = l.length) (ht : Nib w) (h : RB w B A l) (hc : l.length ≤ c) (h8 : l.length ≤ 140737488355328) :
    Calls Tryz.prog 76 #[.slice A n c] w (RetOpen w l) := by
  subst hn
  by_cases h4 : l.length < 4
  · exact open_short w A c l h4
  · exact open_long w B A c l ht h hc (by omega) h8
theorem open_calls (w : World) (B : Nat) (A : Option Addr) (n c : Nat) (l : List UInt8) (hn : n = l.length) (ht : Nib w) (h : RB w B A l) (hc : l.length ≤ c) (h8 : l.length ≤ 140737488351232) :
    Calls Tryz.prog 76 #[.slice A n c] w (RetOpen w l) := open_callsW w B A n c l hn ht h hc (by omega)
end Go.Proofs.YtjfpoahmjgeogaaGreatDoor
/- Rows of numbers that a call makes itself. -/
namespace Go.Proofs.YtjfpoahmjgeogaaGreatDoor
open Go.RowKit
def RI (w : World) (B : Nat) (A : Option Addr) (l : List Int) : Prop :=
  l ≠ [] → ∃ b o, A = some ⟨b, o, none⟩ ∧ b < B ∧ ∀ j (h : j < l.length), w.cell? ⟨b, o + j, none⟩ = some (.int .i64 l[j])
theorem RI.get {w : World} {B : Nat} {A : Option Addr} {l : List Int} (h : RI w B A l) {k : Nat} (hk : k < l.length) :
    ∃ b o, A = some ⟨b, o, none⟩ ∧ b < B ∧ w.cell? ⟨b, o + k, none⟩ = some (.int .i64 l[k]) := by
  obtain ⟨b, o, hA, hb, hc⟩ := h (by intro e; subst e; simp at hk)
  exact ⟨b, o, hA, hb, hc k hk⟩
theorem RI.below {w w' : World} {B : Nat} {A : Option Addr} {l : List Int} (h : RI w B A l) (hb : Below B w w') : RI w' B A l := fun hn => by
  obtain ⟨b, o, hA, hlt, hc⟩ := h hn
  exact ⟨b, o, hA, hlt, fun j hj => (hb.cell hlt).trans (hc j hj)⟩
theorem RI.mono {w : World} {B B' : Nat} {A : Option Addr} {l : List Int} (h : RI w B A l) (hB : B ≤ B') : RI w B' A l := fun hn => by
  obtain ⟨b, o, hA, hb, hc⟩ := h hn
  exact ⟨b, o, hA, by omega, hc⟩
theorem Tryz.infoInt : (Tryz.prog.info? 3).map (fun i => (i.zero, i.size, i.bytes)) = some (some (.int .i64 0), 1, 8) := by kernel_rfl
def OI (w : World) (base : Nat) (A : Option Addr) (c : Nat) (l : List Int) : Prop := w.ownsRow base 3 1 (.slice A l.length c) l.length (l.map (Value.int .i64))
section
variable {w w' : World} {base B : Nat} {A : Option Addr} {c : Nat} {l : List Int}
theorem OI.nil (w : World) (base : Nat) : OI w base none 0 [] := World.ownsRow_nil w base _ _
theorem OI.alloc (h : OI w base A c l) (o : Obj) : OI (w.alloc o) base A c l := World.ownsRow.alloc h o
theorem OI.drewN (h : OI w base A c l) (n : Nat) : OI (w.drewN n) base A c l := h
theorem OI.lt (h : OI w base A c l) : ∀ g, A.map (·.block) = some g → base ≤ g ∧ g < w.heap.size := fun g hg => World.ownsRow.lt h g (by cases A <;> simp_all [Value.ownBlock])
theorem OI.below (h : OI w base A c l) (hb : Below B w w') (hB : w.heap.size ≤ B) : OI w' base A c l := by
  refine World.ownsRow.kept h (row := none) ⟨hb.os, hb.tape, hb.output, hb.size, fun k hk _ => hb.block k (by omega)⟩ ?_
  cases A <;> simp [Value.ownBlock]
theorem OI.ri (h : OI w base A c l) : RI w w.heap.size A l := fun hne => by
  rcases h.2 with ⟨hv, hn⟩ | ⟨g, cap, cur, hv, hb, hg, hnc, hcm, hcs, ht⟩
  · exact absurd (List.eq_nil_of_length_eq_zero hn) hne
  · injection hv with h1 h2 h3
    subst h1
    refine ⟨g, 0, rfl, (Array.getElem?_eq_some_iff.1 hg).1, fun j hj => ?_⟩
    rw [cell_of_row w g (0 + j) cur _ (0, 0) hg, Nat.zero_add]
    have e : (l.map (Value.int .i64))[j]? = some (.int .i64 l[j]) := by simp [hj]
    rw [← ht, List.getElem?_take_of_lt (by omega)] at e
    simpa using e
end
theorem own_formI {w : World} {base : Nat} {e : TypeId} {size : Nat} {v : Value} {n : Nat} {xs : List Value} (h : w.ownsRow base e size v n xs) : ∃ A c, v = .slice A n c := by
  rcases h.2 with ⟨rfl, rfl⟩ | ⟨g, cap, cur, rfl, _⟩
  · exact ⟨_, _, rfl⟩
  · exact ⟨_, _, rfl⟩
theorem wpList_app_int (w : World) {ops : Array Oper} {rest : List Oper} {o : Oper} {a : Act} {Q : Exit → Act → World → Prop} (hgd : o.guard = none) (s x : Operand)
    (ho : o.op = .call { callee := .builtin .append, args := #[s, x], argTypes := #[113, 113] })
    (base : Nat) (A : Option Addr) (c : Nat) (L : List Int) (n : Nat) (hs : a.eval s = .slice A n c) (hn : n = L.length) (hown : OI w base A c L)
    (g c2 : Nat) (z : Int) (hx : a.eval x = .slice (some ⟨g, 0, none⟩) 1 c2) (hsrc : w.cell? ⟨g, 0, none⟩ = some (.int .i64 z))
    (hlen : L.length ≤ 1000000) (hbase : base ≤ w.heap.size)
    (h : ∀ A' c' L' w', Hid (L' = L ++ [z]) → OI w' base A' c' L' → w.grownBy w' (A.map (·.block)) → wpList Tryz.prog ops Q rest (a.put o.dst (.slice A' L'.length c')) w') : wpList Tryz.prog ops Q (o :: rest) a w := by
  subst hn
  obtain ⟨i, hi, hz, hs1, hb1⟩ := info_parts Tryz.infoInt
  have eb : Value.ownBlock (.slice A L.length c) = A.map (·.block) := by cases A <;> rfl
  obtain ⟨v', w', hr, h2, h3, _, _⟩ := run_append_own_at (P := Tryz.prog) w base 113 o.type 3 i (.int .i64 0) 1 8 Tryz.underlying113 hi hz hs1 hb1 rfl (by decide) _ L.length (L.map (Value.int .i64)) hown ⟨g, 0, none⟩ 1 c2 [.int .i64 z] rfl
    (fun j u hu => by
      have hj : j = 0 := by have := (List.getElem?_eq_some_iff.1 hu).1; simpa using this
      subst hj
      simp at hu
      subst hu
      simpa [Addr.add] using hsrc) (fun u hu => by simp at hu; subst hu; rfl) (by unfold maxLen; omega) (by omega) hbase
  obtain ⟨A', c', rfl⟩ := own_formI h2
  rw [eb] at h3
  have hK := h A' c' (L ++ [z]) w' rfl (by unfold OI; rw [List.map_append, List.length_append]; exact h2) h3
  rw [List.length_append] at hK
  refine wpList_plain hgd fun K hKK => ?_
  unfold Oper.wp execOp
  simp only [ho, resolve, invoke, builtin, Sem.run_bind, Sem.run_pure, Result.andThen_ok, List.map_toArray, List.map_cons, List.map_nil, hs, hx, hr]
  exact hKK _ _ hK
end Go.Proofs.YtjfpoahmjgeogaaGreatDoor
/- fault.Path of a fault without a cause. -/
namespace Go.Proofs.YtjfpoahmjgeogaaGreatDoor
open Go.RowKit Nac
def RetP (w : World) (i : Int) (e : Ending) (w' : World) : Prop := ∃ (gp : Nat) (c : Nat), e = .returned (.slice (some ⟨gp, 0, none⟩) 1 c) ∧ w'.cell? ⟨gp, 0, none⟩ = some (.int .i64 i) ∧ gp < w'.heap.size ∧ Below w.heap.size w w'
theorem path_hit (w : World) (g : Nat) (c i : Int) (hg : Hdl w) (hx : Box w g [.int .i64 c, .int .i64 i, .nilIface]) :
    Calls Tryz.prog 48 #[.iface 131 (.pointer (some ⟨g, 0, none⟩))] w (RetP w i) := by
  go_enter Tryz.func48, Tryz.ntmps48
  go_wp2_with fail
  refine (outer_hit w g hg).mono ?_
  rintro e w2 ⟨rfl, hb2⟩
  have hx2 := hx.below hb2 hx.lt
  have c1 : w2.cell? ⟨g, 1, none⟩ = some (.int .i64 i) := hx2.cell rfl
  have HB := Lib.hid hb2
  have HX := Lib.hid hx2
  have hx0 := hx.lt
  clear hb2 hx hx2
  go_wp2_with fail
  have hH : Hdl w2 := hg.below HB.out hg.lt
  have HH := Lib.hid hH
  clear hH
  have hglt : g < w2.heap.size := HX.out.lt
  have hgw : g < w.heap.size := hx0
  go_loopw [3, 4] (fun s3 s4 wr => Hid (Below w.heap.size w wr) ∧ Hid (Box wr g [.int .i64 c, .int .i64 i, .nilIface]) ∧ ((s3 = .slice none 0 0 ∧ s4 = .pointer (some ⟨g, 0, none⟩)) ∨ (∃ (gp cp : Nat), s3 = .slice (some ⟨gp, 0, none⟩) 1 cp ∧ s4 = .pointer none ∧ Hid (wr.cell? ⟨gp, 0, none⟩ = some (.int .i64 i)) ∧ Hid (gp < wr.heap.size)))) (fun _ s4 _ => match s4 with | .pointer (some _) => 1 | _ => 0)
  case atStart => exact ⟨HB, HX, .inl ⟨rfl, rfl⟩⟩
  case round =>
    clear HB HX HH c1 hglt
    obtain ⟨HB, HX, ⟨rfl, rfl⟩ | ⟨gp, cp, rfl, rfl, HC, HG⟩⟩ := hrel
    · have c1 : wr.cell? ⟨g, 1, none⟩ = some (.int .i64 i) := HX.out.cell rfl
      have csrc : (wr.alloc (.cells #[.int .i64 i] 3)).cell? ⟨wr.heap.size, 0, none⟩ = some (.int .i64 i) := by rw [World.cell?_alloc_at _ _ _ _ rfl]; rfl
      have HCS := Lib.hid csrc
      have hbs : wr.heap.size ≤ (wr.alloc (.cells #[.int .i64 i] 3)).heap.size := by simp
      clear csrc
      go_wp2_with (at_builtin; refine wpList_app_int _ rfl _ _ rfl wr.heap.size none 0 [] _ rfl rfl (OI.nil _ _) wr.heap.size _ i rfl HCS.out (by simp) hbs ?_)
      rintro A' c' L' w5 HLE ho5 hg5
      have hL : L' = [i] := HLE.out
      subst hL
      obtain ⟨gp, o, rfl, hgp, hcell⟩ := ho5.ri.get (k := 0) (by simp)
      have ho0 : o = 0 := by
        rcases ho5.2 with ⟨hv, hn⟩ | ⟨g', cap, cur, hv, _⟩
        · simp at hn
        · injection hv with h1; injection h1 with h1; injection h1
      subst ho0
      have hba : Below w.heap.size w (wr.alloc (.cells #[.int .i64 i] 3)) := HB.out.alloc HB.out.size _
      have hg6 : (wr.alloc (.cells #[.int .i64 i] 3)).grownBy w5 none := hg5
      have HB5 : Hid (Below w.heap.size w w5) := hba.grown hg6 hba.size (fun k e => by cases e)
      have hw5 : Below wr.heap.size wr w5 := ((Below.refl _ _).alloc (Nat.le_refl _) _).grown hg6 hbs (fun k e => by cases e)
      have hx5 : Box w5 g [.int .i64 c, .int .i64 i, .nilIface] := HX.out.below hw5 HX.out.lt
      have HX5 := Lib.hid hx5
      have c2 : w5.cell? ⟨g, 2, none⟩ = some .nilIface := hx5.cell rfl
      have HC5 : Hid (w5.cell? ⟨gp, 0, none⟩ = some (.int .i64 i)) := Lib.hid <| by simpa using hcell
      have HG5 := Lib.hid hgp
      clear HLE ho5 hgp hcell hg5 hba hg6 hw5 hx5 hbs HCS HB HX c1
      go_wp2_with fail
      refine (outer_nil _).mono ?_
      rintro e w6 ⟨rfl, hb6⟩
      have HB6 : Hid (Below w.heap.size w w6) := HB5.out.trans (hb6.mono HB5.out.size)
      have HX6 : Hid (Box w6 g [.int .i64 c, .int .i64 i, .nilIface]) := HX5.out.below hb6 HX5.out.lt
      have HC6 : Hid (w6.cell? ⟨gp, 0, none⟩ = some (.int .i64 i)) := (hb6.cell (p := ⟨gp, 0, none⟩) HG5.out).trans HC5.out
      have HG6 : Hid (gp < w6.heap.size) := Nat.lt_of_lt_of_le HG5.out hb6.size
      clear hb6 HB5 HX5 HC5 HG5 c2
      go_wp2
      go_roundw
      case rel => exact ⟨HB6, HX6, .inr ⟨gp, c', rfl, rfl, HC6, HG6⟩⟩
      case measure => simp
    · go_wp2
      go_ret
      exact ⟨gp, cp, rfl, HC.out, HG.out, HB.out⟩
/- fault: In; Path of one fault, and of a fault with a cause. -/
def flt (g : Nat) : Value := .iface 131 (.pointer (some ⟨g, 0, none⟩))
def RetIn (w : World) (g : Nat) (c i k : Int) (e : Ending) (w' : World) : Prop := ∃ g2, e = .returned (flt g2) ∧ Box w' g2 [.int .i64 c, .int .i64 k, flt g] ∧ Box w' g [.int .i64 c, .int .i64 i, .nilIface] ∧ Below w.heap.size w w'
theorem In_calls (w : World) (g : Nat) (c i k : Int) (hg : Hdl w) (hx : Box w g [.int .i64 c, .int .i64 i, .nilIface]) :
    Calls Tryz.prog 47 #[flt g, .int .i64 k] w (RetIn w g c i k) := by
  have HX := Lib.hid hx
  have HG := Lib.hid hg
  clear hx hg
  unfold flt
  go_enter Tryz.func47, Tryz.ntmps47
  go_wp2_with fail
  refine (code_hit w g c i HG.out HX.out).mono ?_
  rintro e w2 ⟨rfl, hb2⟩
  have HB2 := Lib.hid hb2
  have HX2 := Lib.hid (HX.out.below hb2 HX.out.lt)
  clear hb2
  go_wp2
  go_ret
  have hb3 : Below w2.heap.size w2 (w2.alloc (.cells #[.int .i64 c, .int .i64 k, flt g] 133)) := (Below.refl _ _).alloc (Nat.le_refl _) _
  exact ⟨w2.heap.size, rfl, Box.new w2 [.int .i64 c, .int .i64 k, flt g] 133, HX2.out.below hb3 HX2.out.lt, HB2.out.trans (hb3.mono HB2.out.size)⟩
def lenOf : Value → Nat
  | .slice _ n _ => n
  | _ => 0
end Go.Proofs.YtjfpoahmjgeogaaGreatDoor
/- A region that draws its order, as XRel, the relation by what has been run: what is known of a slot is kept by what may come behind it alone. Over whatever program. -/
namespace Nac
open Go Go.RowKit
inductive LD where
  | is (v : Value)
  | pr (p : Value → World → Prop)
def LD.ok : LD → Value → World → Prop
  | .is u, v, _ => v = u
  | .pr p, v, w => p v w
def LD.keeps (R : (Nat → Bool) → World → World → Prop) (i : Nat) (d : LD) : Prop := ∀ L v w w', L i = true → d.ok v w → R L w w' → d.ok v w'
theorem LD.keeps_is (R : (Nat → Bool) → World → World → Prop) (i : Nat) (v : Value) : LD.keeps R i (.is v) := fun _ _ _ _ _ h _ => h
section
variable {P : Program} {ops : Array Oper} {Q : Exit → Act → World → Prop} {R : (Nat → Bool) → World → World → Prop} {D : Nat → LD} {J : (Nat → Bool) → World → Prop} {a0 : Act}
structure LCtx (ops : Array Oper) (R : (Nat → Bool) → World → World → Prop) (D : Nat → LD) (J : (Nat → Bool) → World → Prop) (a0 : Act) (i : Nat) (L : Nat → Bool) (a : Act) (w : World) : Prop where
  world : J L w
  tsize : a.tmps.size = a0.tmps.size
  fresh : L i = false
  ahead : ∀ k, k ∈ preds ops 3 i → L k = true
  pred : ∀ k d, k ∈ preds ops 3 i → dstOf ops k = some d → (D k).ok (a.tmps.getD d undef) w
  orig : ∀ t, origB ops i t = true → a.tmps.getD t undef = a0.tmps.getD t undef
def LStep (P : Program) (ops : Array Oper) (Q : Exit → Act → World → Prop) (R : (Nat → Bool) → World → World → Prop) (D : Nat → LD) (J : (Nat → Bool) → World → Prop) (a0 : Act) (i : Nat) : Prop :=
  ∀ o, ops[i]? = some o → ∀ L a w, LCtx ops R D J a0 i L a w →
    if Region.wanted o (yielded ops a.tmps) = true then o.wp P a w (fun a' w' => ∃ v, a' = a.put o.dst v ∧ (D i).ok v w' ∧ R L w w' ∧ J (upd L i) w') Q else (D i).ok undef w ∧ J (upd L i) w
theorem relL_any {p : Nat} (hkeep : ∀ i, i < p → LD.keeps R i (D i)) (hrefl : ∀ L w, R L w w) (hch : chainB ops p = true) (hd : distinctB ops a0.tmps.size = true) (hbk : backB ops = true)
    (step : ∀ i, i < p → LStep P ops Q R D J a0 i)
    (fin : ∀ L a w, (∀ i, i < p → L i = true) → J L w → a.defers = a0.defers → a.tmps.size = a0.tmps.size → (∀ i d, i < p → dstOf ops i = some d → (D i).ok (a.tmps.getD d undef) w) → (∀ t, (∀ i, i < p → dstOf ops i ≠ some t) → a.tmps.getD t undef = a0.tmps.getD t undef) → wpList P ops Q (ops.toList.drop p) a w) :
    ∀ (fuel : Nat) (listed : Array Bool) (a : Act) (w : World), falses listed ≤ fuel → (∀ j, p ≤ j → listed.getD j false = false) → VInv ops (fun _ _ => True) (fun _ _ => True) a0 listed a w → J (fun i => listed.getD i false) w → (∀ i d, listed.getD i false = true → dstOf ops i = some d → (D i).ok (a.tmps.getD d undef) w) → wpAny P .any ops Q fuel listed a w := by
  have hps : p ≤ ops.size := by
    unfold chainB at hch
    rw [Bool.and_eq_true] at hch
    simpa using hch.1
  have hdist : ∀ x y d, x < ops.size → y < ops.size → dstOf ops x = some d → (d < a0.tmps.size) ∧ (dstOf ops y = some d → x = y) := by
    intro x y d hx hy hxd
    unfold distinctB at hd
    rw [List.all_eq_true] at hd
    have h1 := hd x (by simpa using hx)
    rw [Bool.and_eq_true, List.all_eq_true] at h1
    obtain ⟨h1, h2⟩ := h1
    have h2 := h2 y (by simpa using hy)
    rw [hxd] at h1 h2
    refine ⟨by simpa using h1, fun hyd => ?_⟩
    rw [hyd] at h2
    simpa using h2
  have hin : ∀ k d, dstOf ops k = some d → k < ops.size := by
    intro k d hk
    rcases Nat.lt_or_ge k ops.size with h | h
    · exact h
    · simp [dstOf, Array.getElem?_eq_none h] at hk
  have hall : ∀ (fuel : Nat) (listed : Array Bool) (a : Act) (w : World), falses listed ≤ fuel → (∀ j, p ≤ j → listed.getD j false = false) → VInv ops (fun _ _ => True) (fun _ _ => True) a0 listed a w → J (fun i => listed.getD i false) w → (∀ i d, listed.getD i false = true → dstOf ops i = some d → (D i).ok (a.tmps.getD d undef) w) → (∀ j, j < p → listed.getD j false = true) → wpAny P .any ops Q fuel listed a w := by
    intro fuel listed a w hf hz hI hJ hD hl
    refine tail_any hch hbk fuel listed a w p (Nat.le_refl _) hps hI.size hf hl hz hI.closed ?_
    refine fin _ a w (fun i hi => hl i hi) hJ hI.defers hI.tsize (fun i d hi h => hD i d (hl i hi) h) (fun t ht => hI.rest t fun i hli => ht i ?_)
    rcases Nat.lt_or_ge i p with h | h
    · exact h
    · rw [hz i h] at hli; cases hli
  intro fuel
  induction fuel with
  | zero =>
    intro listed a w hf hz hI hJ hD
    exact hall 0 listed a w hf hz hI hJ hD fun i hi => falses_zero listed (by omega) i (by rw [hI.size]; omega)
  | succ fuel ih =>
  intro listed a w hf hz hI hJ hD
  by_cases hdone : ∀ j, j < p → listed.getD j false = true
  · exact hall _ listed a w hf hz hI hJ hD hdone
  have hnd : ∃ j, j < p ∧ listed.getD j false = false := by
    apply Classical.byContradiction
    intro h
    refine hdone fun j hj => ?_
    cases hb : listed.getD j false
    · exact absurd ⟨j, hj, hb⟩ h
    · rfl
  obtain ⟨j0, hj0, hl0⟩ := hnd
  refine ⟨fun hr => absurd hr (ready_ex hbk hI.size j0 (by omega) hl0), fun i hi => ?_⟩
  obtain ⟨h1, h2, o, ho, hready⟩ := ready_of hi hI.size
  have hip : i < p := by
    rcases Nat.lt_or_ge i p with h | h
    · exact h
    · have := chain_listed hch hI.closed h1 h (fun o' ho' => by rw [ho] at ho'; obtain rfl := Option.some.inj ho'; exact hready) j0 (by omega)
      rw [hl0] at this
      cases this
  have hctx : LCtx ops R D J a0 i (fun k => listed.getD k false) a w := by
    have hpc := preds_closed hI.closed 3 i (fun o' ho' => by rw [ho] at ho'; obtain rfl := Option.some.inj ho'; exact hready)
    refine ⟨hJ, hI.tsize, h2, hpc, fun k d hk hkd => hD k d (hpc k hk) hkd, fun t ht => hI.rest t fun k hl hkd => ?_⟩
    unfold origB at ht
    rw [List.all_eq_true] at ht
    have h3 := ht k (by simpa using hin k t hkd)
    rw [hkd] at h3
    simp only [bne_self_eq_false, Bool.false_or, List.contains_iff_mem] at h3
    have := preds_closed hI.closed 3 k (fun o' ho' e he hb' => hI.closed k o' ho' hl e he hb') i h3
    rw [h2] at this
    cases this
  have hs := step i hip o ho _ a w hctx
  have hfl : falses (listed.setIfInBounds i true) ≤ fuel := by
    have := falses_set listed i (by rw [hI.size]; exact h1) h2
    omega
  have hls : i < listed.size := by rw [hI.size]; exact h1
  have hz' : ∀ j, p ≤ j → (listed.setIfInBounds i true).getD j false = false := fun j hj => by
    rw [getD_setIf _ _ _ hls, if_neg (by omega)]
    exact hz j hj
  have hup : (fun k => (listed.setIfInBounds i true).getD k false) = upd (fun k => listed.getD k false) i := upd_listed _ _ hls
  have hdo : dstOf ops i = o.dst := by simp [dstOf, ho]
  have hnext : ∀ v w', (D i).ok v w' → R (fun k => listed.getD k false) w w' → ∀ j d, (listed.setIfInBounds i true).getD j false = true → dstOf ops j = some d → (D j).ok ((a.put o.dst v).tmps.getD d undef) w' := by
    intro v w' hv hR j d hl hjd
    rw [getD_setIf _ _ _ hls] at hl
    have hput : (a.put o.dst v).tmps.getD d undef = if o.dst = some d then v else a.tmps.getD d undef := by
      cases hod : o.dst with
      | none => simp [Act.put]
      | some d' =>
        have hlt := (hdist i i d' h1 h1 (by rw [hdo, hod])).1
        simp only [Act.put]
        rw [getD_put _ _ _ _ (by rw [hI.tsize]; exact hlt)]
        simp
    rw [hput]
    by_cases hij : i = j
    · subst hij
      rw [hdo] at hjd
      rw [if_pos hjd]
      exact hv
    · rw [if_neg hij] at hl
      rw [if_neg (fun h => hij ((hdist i j d h1 (hin j d hjd) (by rw [hdo]; exact h)).2 hjd))]
      exact hkeep j (Nat.lt_of_not_le fun h => by rw [hz j h] at hl; cases hl) _ _ _ _ hl (hD j d hl hjd) hR
  unfold wpOp
  rw [ho]
  simp only
  split
  · rename_i hw
    rw [if_pos hw] at hs
    refine Or.inl (Oper.wp_mono ?_ hs)
    rintro a' w' ⟨v, rfl, hv, hR, hb⟩
    exact ih _ _ _ hfl hz' (val_put (v := v) hI h1 ho hd hready trivial trivial) (by rw [hup]; exact hb) (hnext v w' hv hR)
  · rename_i hw
    rw [if_neg hw] at hs
    exact ih _ _ _ hfl hz' (val_put (v := undef) hI h1 ho hd hready trivial trivial) (by rw [hup]; exact hs.2) (hnext undef w hs.1 (hrefl _ w))
theorem region_relL {id : Nat} {a0 : Act} {w0 : World} (p : Nat) (R : (Nat → Bool) → World → World → Prop) (D : Nat → LD) (ds : List (Option Tmp)) (J : (Nat → Bool) → World → Prop) (hkeep : ∀ i, i < p → LD.keeps R i (D i)) (hrefl : ∀ L w, R L w w) (hm : P.follows .mixedOrders = true) (hd : distinctB ops a0.tmps.size = true) (hbk : backB ops = true)
    (hch : chainB ops p = true) (hds : (ops.toList.take p).map (·.dst) = ds)
    (h0 : J (fun _ => false) w0.drew)
    (step : ∀ i, i < p → LStep P ops Q R D J a0 i)
    (fin : ∀ L V w, (∀ i, i < p → L i = true) → V.length = ds.length → J L w → (∀ i d, ds[i]? = some (some d) → (D i).ok (V.getD i undef) w) → wpList P ops Q (ops.toList.drop p) (putsL (ds.zip V) a0) w) :
    (Code.region id ops true).wp P Q a0 w0 := by
  refine wp_region_any hm ?_
  have hps : p ≤ ops.size := by
    unfold chainB at hch
    rw [Bool.and_eq_true] at hch
    simpa using hch.1
  have hg : ∀ i, (Array.replicate ops.size false).getD i false = false := by
    intro i
    rw [Array.getD_eq_getD_getElem?, Array.getElem?_replicate]
    split <;> rfl
  refine relL_any (D := D) (J := J) (a0 := a0) hkeep hrefl hch hd hbk step (fun L a w hall hJ hde hts hs hr => ?_) _ _ _ _ ?_ (fun j _ => hg j) ⟨by simp, trivial, rfl, rfl, fun i o _ h => (by rw [hg] at h; cases h), fun i d h => (by rw [hg] at h; cases h), fun _ _ => rfl⟩ ?_ (fun i d h => by rw [hg] at h; cases h)
  · have hlt : ∀ i x, ds[i]? = some x → i < p := by
      intro i x h
      have := (List.getElem?_eq_some_iff.1 h).1
      rw [← hds] at this
      simp at this
      omega
    have hdi : ∀ i d, ds[i]? = some (some d) → dstOf ops i = some d := by
      intro i d h
      have hi := hlt i _ h
      rw [← hds, List.getElem?_map, List.getElem?_take_of_lt hi, Array.getElem?_toList] at h
      unfold dstOf
      cases ho : ops[i]? with
      | none => rw [ho] at h; cases h
      | some o => rw [ho] at h; simpa using h
    have hdi' : ∀ i d, i < p → dstOf ops i = some d → ds[i]? = some (some d) := by
      intro i d hi h
      rw [← hds, List.getElem?_map, List.getElem?_take_of_lt hi, Array.getElem?_toList]
      unfold dstOf at h
      cases ho : ops[i]? with
      | none => rw [ho] at h; cases h
      | some o => rw [ho] at h; simpa using h
    have e := putsL_eq (a0 := a0) (a := a) (l := ds.zip (slotsOf a.tmps ds)) hde hts ?_ ?_
    · have hf := fin L (slotsOf a.tmps ds) w hall (by simp [slotsOf]) hJ fun i d h => by
        have := hs i d (hlt i _ h) (hdi i d h)
        have e2 : (slotsOf a.tmps ds).getD i undef = a.tmps.getD d undef := by
          unfold slotsOf
          rw [List.getD_eq_getElem?_getD, List.getElem?_map, h]
          rfl
        rw [e2]
        exact this
      rw [← e] at hf
      exact hf
    · intro x hx t ht
      obtain ⟨i, hi⟩ := List.mem_iff_getElem?.1 hx
      obtain ⟨h1, h2⟩ := List.getElem?_zip_eq_some.1 hi
      unfold slotsOf at h2
      rw [List.getElem?_map, h1] at h2
      obtain ⟨d, v⟩ := x
      simp only at ht h1 h2
      subst ht
      simpa using h2
    · intro t ht
      refine hr t fun i hip hdt => ?_
      have h1 := hdi' i t hip hdt
      have h3 : (slotsOf a.tmps ds)[i]? = some (a.tmps.getD t undef) := by
        unfold slotsOf
        rw [List.getElem?_map, h1]
        rfl
      exact ht (some t, a.tmps.getD t undef) (List.mem_iff_getElem?.2 ⟨i, List.getElem?_zip_eq_some.2 ⟨h1, h3⟩⟩) rfl
  · unfold falses
    simp
  · rw [show (fun i => (Array.replicate ops.size false).getD i false) = fun _ => false from funext hg]
    exact h0
theorem LCtx.slot {i : Nat} {L : Nat → Bool} {a : Act} {w : World} (c : LCtx ops R D J a0 i L a w) (k x : Nat) (hk : (preds ops 3 i).contains k = true) (hx : dstOf ops k = some x) : (D k).ok (a.tmps.getD x undef) w :=
  c.pred k x (by simpa using hk) hx
/-! ### one operation -/
variable {i : Nat} {o : Oper}
theorem lwant_none (hg : o.guard = none) : ∀ L a w, LCtx ops R D J a0 i L a w → Region.wanted o (yielded ops a.tmps) = true := fun _ _ _ _ => by simp [Region.wanted, hg]
theorem lstep_pure (hrefl : ∀ L w, R L w w) (ho : ops[i]? = some o) (hw : ∀ L a w, LCtx ops R D J a0 i L a w → Region.wanted o (yielded ops a.tmps) = true) (hJ : ∀ L w, J L w → J (upd L i) w)
    (h : ∀ L a w, LCtx ops R D J a0 i L a w → ∃ v, (execOp a.eval o).run P w = .ok (.value v) w ∧ (D i).ok v w) : LStep P ops Q R D J a0 i := by
  intro o' ho' L a w c
  rw [ho] at ho'
  obtain rfl := Option.some.inj ho'
  rw [if_pos (hw L a w c)]
  obtain ⟨v, hr, hv⟩ := h L a w c
  unfold Oper.wp
  rw [hr]
  exact ⟨v, rfl, hv, hrefl _ w, hJ _ _ c.world⟩
theorem lstep_first (hrefl : ∀ L w, R L w w) (ho : ops[i]? = some o) (hw : ∀ L a w, LCtx ops R D J a0 i L a w → Region.wanted o (yielded ops a.tmps) = true) (hJ : ∀ L w, J L w → J (upd L i) w) (t : Tmp) (hop : o.op = .move (.tmp t) ∨ o.op = .assign (.tmp t))
    (ht : origB ops i t = true) (hD : ∀ w, (D i).ok (a0.tmps.getD t undef) w) : LStep P ops Q R D J a0 i :=
  lstep_pure hrefl ho hw hJ fun L a w c => ⟨a.tmps.getD t undef, by rcases hop with h | h <;> simp [execOp, h, Act.eval], by rw [c.orig t ht]; exact hD w⟩
end
end Nac
/- A region that draws its order and appends one element of several cells to a row, other operations in between (AppL and AppN, without procs). -/
namespace Nac
open Go Go.RowKit
def NewB (w : World) (Ak A2 : Option Addr) : Prop := A2.map (·.block) = Ak.map (·.block) ∨ ∀ g, A2.map (·.block) = some g → w.heap.size ≤ g
section
variable {P : Program} {ops : Array Oper} {Q : Exit → Act → World → Prop} {R : (Nat → Bool) → World → World → Prop} {D : Nat → LD} {J : (Nat → Bool) → World → Prop} {a0 : Act} {i : Nat} {o : Oper}
theorem lstep_gen (ho : ops[i]? = some o) (hw : ∀ L a w, LCtx ops R D J a0 i L a w → Region.wanted o (yielded ops a.tmps) = true)
    (h : ∀ L a w, LCtx ops R D J a0 i L a w → ∃ v w', (execOp a.eval o).run P w = .ok (.value v) w' ∧ (D i).ok v w' ∧ R L w w' ∧ J (upd L i) w') : LStep P ops Q R D J a0 i := by
  intro o' ho' L a w c
  rw [ho] at ho'
  obtain rfl := Option.some.inj ho'
  rw [if_pos (hw L a w c)]
  obtain ⟨v, w', hr, hv, hj⟩ := h L a w c
  unfold Oper.wp
  rw [hr]
  exact ⟨v, rfl, hv, hj⟩
end
def AppJ (W : World) (row : Option Nat) (ia : Nat) (L : Nat → Bool) (w : World) : Prop := W.grownBy w row ∧ (L ia = false → W.grownBy w none)
def AppR (row : Option Nat) (ia : Nat) (L : Nat → Bool) (w w' : World) : Prop := w.grownBy w' row ∧ (L ia = true → w.grownBy w' none)
theorem AppR.refl (row : Option Nat) (ia : Nat) (L : Nat → Bool) (w : World) : AppR row ia L w w := ⟨World.grownBy.refl w _, fun _ => World.grownBy.refl w _⟩
theorem AppJ.pure {W : World} {row : Option Nat} {ia i : Nat} (h : i ≠ ia) (L : Nat → Bool) (w : World) (hj : AppJ W row ia L w) : AppJ W row ia (upd L i) w :=
  ⟨hj.1, fun e => hj.2 (by unfold upd at e; rw [if_neg (fun e' => h e'.symm)] at e; exact e)⟩
theorem AppJ.start (W : World) (row : Option Nat) (ia : Nat) : AppJ W row ia (fun _ => false) W.drew := ⟨⟨rfl, rfl, rfl, Nat.le_refl _, fun _ _ _ => rfl⟩, fun _ => ⟨rfl, rfl, rfl, Nat.le_refl _, fun _ _ _ => rfl⟩⟩
section
variable {P : Program} {ops : Array Oper} {Q : Exit → Act → World → Prop} {R : (Nat → Bool) → World → World → Prop} {D : Nat → LD} {J : (Nat → Bool) → World → Prop} {a0 : Act} {i : Nat} {o : Oper}
end
def BuiltN (W : World) (us : List Value) (v : Value) (w : World) : Prop := ∃ g c2, v = .slice (some ⟨g, 0, none⟩) 1 c2 ∧ W.heap.size ≤ g ∧ g < w.heap.size ∧ ∀ j u, us[j]? = some u → w.cell? ⟨g, j, none⟩ = some u
end Nac
namespace Go.Proofs.YtjfpoahmjgeogaaGreatDoor
open Go.RowKit Nac
theorem grown_cell {w w' : World} {row : Option Nat} {b k : Nat} (hg : w.grownBy w' row) (hb : b < w.heap.size) (hne : some b ≠ row) : w'.cell? ⟨b, k, none⟩ = w.cell? ⟨b, k, none⟩ := by
  unfold World.cell?
  rw [hg.block b hb hne]
def AppedN (W : World) (E : TypeId) (size : Nat) (A : Option Addr) (n : Nat) (xs us : List Value) (v : Value) (w : World) : Prop := ∃ A' c', v = .slice A' (n + 1) c' ∧ Row w E size A' c' (n + 1) (xs ++ us) ∧ NewB W A A'
section
variable {W : World} {row : Option Nat} {ia : Nat}
theorem keep_builtN (i : Nat) (us : List Value) (hrow : ∀ k, row = some k → k < W.heap.size) : LD.keeps (AppR row ia) i (.pr (BuiltN W us)) := by
  rintro L v w w' _ ⟨g, c2, rfl, hg, hl, hc⟩ hr
  exact ⟨g, c2, rfl, hg, Nat.lt_of_lt_of_le hl hr.1.size, fun j u hu => (grown_cell hr.1 hl (fun e => by have := hrow g e.symm; omega)).trans (hc j u hu)⟩
theorem keep_appedN (E : TypeId) (size : Nat) (A : Option Addr) (n : Nat) (xs us : List Value) : LD.keeps (AppR row ia) ia (.pr (AppedN W E size A n xs us)) := by
  rintro L v w w' hl ⟨A', c', rfl, hrow, hn⟩ hr
  refine ⟨A', c', rfl, hrow.kept (hr.2 hl) ?_, hn⟩
  cases A' with
  | none => exact .inl rfl
  | some a => exact .inr (by simp)
end
section
variable {ops : Array Oper} {Q : Exit → Act → World → Prop} {D : Nat → LD} {a0 : Act} {i ia : Nat} {o : Oper} {W : World} {row : Option Nat}
theorem lstep_buildN {T E : TypeId} (hi : i ≠ ia) (ho : ops[i]? = some o) (hw : ∀ L a w, LCtx ops (AppR row ia) D (AppJ W row ia) a0 i L a w → Region.wanted o (yielded ops a.tmps) = true)
    (x : Tmp) (hop : o.op = .buildSlice T 1 #[(0, .tmp x)]) (us : List Value)
    (hr : ∀ w, (Instr.buildSlice T 1 #[(0, .agg us.toArray)]).run Tryz.prog w = .ok (.slice (some ⟨w.heap.size, 0, none⟩) 1 1) (w.alloc (.cells us.toArray E)))
    (hx : ∀ L a w, LCtx ops (AppR row ia) D (AppJ W row ia) a0 i L a w → a.tmps.getD x undef = .agg us.toArray) (hD : D i = .pr (BuiltN W us)) : LStep Tryz.prog ops Q (AppR row ia) D (AppJ W row ia) a0 i := by
  refine lstep_gen ho hw fun L a w c => ⟨.slice (some ⟨w.heap.size, 0, none⟩) 1 1, w.alloc (.cells us.toArray E), ?_, ?_, ?_, ?_⟩
  · have e := hx L a w c
    unfold execOp
    simp only [hop, List.map_toArray, List.map_cons, List.map_nil, Act.eval, e, Sem.run_bind, hr, Result.andThen_ok, Sem.run_pure]
  · rw [hD]
    have hb := Blk.new w us E
    exact ⟨w.heap.size, 1, rfl, c.world.1.size, hb.lt, fun j u hu => hb.cell hu⟩
  · exact ⟨World.grownBy_alloc w _ _, fun _ => World.grownBy_alloc w _ _⟩
  · exact AppJ.pure hi L _ ⟨c.world.1.trans (World.grownBy_alloc w _ _), fun e => (c.world.2 e).trans (World.grownBy_alloc w _ _)⟩
theorem lstep_appN {T E : TypeId} {z : Value} {size bytes : Nat} (hT : Tryz.prog.underlying T = some (.slice E)) (hinfo : (Tryz.prog.info? E).map (fun i => (i.zero, i.size, i.bytes)) = some (some z, size, bytes)) (hz1 : z.cells.size = size) (hsz : 0 < size) (hby : bytes ≤ 1000)
    (ho : ops[ia]? = some o) (hw : ∀ L a w, LCtx ops (AppR row ia) D (AppJ W row ia) a0 ia L a w → Region.wanted o (yielded ops a.tmps) = true) (s x : Tmp)
    (hop : o.op = .call { callee := .builtin .append, args := #[.tmp s, .tmp x], argTypes := #[T, T] })
    (A : Option Addr) (c n : Nat) (xs us : List Value) (hrA : row = A.map (·.block)) (hown : Row W E size A c n xs) (hul : us.length = size) (hu1 : ∀ u ∈ us, u.oneCell' = true) (hlen : n ≤ 1000000)
    (hs : ∀ L a w, LCtx ops (AppR row ia) D (AppJ W row ia) a0 ia L a w → a.tmps.getD s undef = .slice A n c)
    (hx : ∀ L a w, LCtx ops (AppR row ia) D (AppJ W row ia) a0 ia L a w → BuiltN W us (a.tmps.getD x undef) w) (hD : D ia = .pr (AppedN W E size A n xs us)) : LStep Tryz.prog ops Q (AppR row ia) D (AppJ W row ia) a0 ia := by
  subst hrA
  refine lstep_gen ho hw fun L a w cc => ?_
  have hmul : (n + 1) * bytes ≤ (n + 1) * 1000 := Nat.mul_le_mul_left _ hby
  obtain ⟨g, c2, hxv, hg, hgl, hsrc⟩ := hx L a w cc
  have hgn := cc.world.2 cc.fresh
  have hown2 : Row w E size A c n xs := hown.kept hgn (by
    cases A with
    | none => exact .inl rfl
    | some a => exact .inr (by simp))
  obtain ⟨A', c', w', hr, h2, h3, h5⟩ := run_app (P := Tryz.prog) w 0 T o.type E z size bytes hT hinfo hz1 hsz A n c xs hown2 (some ⟨g, 0, none⟩) 1 c2 us (by rw [hul, Nat.one_mul])
    (fun _ => ⟨_, rfl, fun j u hj => by rw [Addr.add_mid, Nat.zero_add]; exact hsrc j u hj⟩) hu1 (by omega) (by unfold maxLen; omega) (Nat.zero_le _)
  have e1 := hs L a w cc
  refine ⟨.slice A' (n + 1) c', w', ?_, ?_, ?_, ?_⟩
  · unfold execOp
    simp only [hop, resolve, invoke, builtin, Sem.run_bind, Sem.run_pure, Result.andThen_ok, List.map_toArray, List.map_cons, List.map_nil, Act.eval, e1, hxv, hr]
  · rw [hD]
    refine ⟨A', c', rfl, h2, ?_⟩
    rcases h5 with h5 | h5
    · exact .inl h5
    · exact .inr fun g hg => by rw [h5] at hg; injection hg with hg; have := hgn.size; omega
  · exact ⟨h3, fun e => by rw [cc.fresh] at e; cases e⟩
  · exact ⟨(grown_none hgn).trans h3, fun e => by simp [upd] at e⟩
end
end Go.Proofs.YtjfpoahmjgeogaaGreatDoor
/- The sectors of a partition's images, as bytes; what is read of them. No program in sight. -/
namespace Nac.Img
open Nac.Crc
def sealB (l : List UInt8) : List UInt8 := l ++ lbs (of l).toNat 4
def openB (b : List UInt8) : Option (List UInt8) := if b.length < 4 then none else if good b = true then some (b.take (b.length - 4)) else none
theorem open_seal (l : List UInt8) : openB (sealB l) = some l := by
  unfold openB
  have hl : (sealB l).length = l.length + 4 := by simp [sealB, lbs_length]
  rw [if_neg (by omega), if_pos (show good (sealB l) = true from good_seal l), hl]
  simp [sealB]
def full (l : List UInt8) : List UInt8 := (l ++ List.replicate 60 0).take 60
theorem full_len (l : List UInt8) : (full l).length = 60 := by simp [full]
theorem full_eq {l : List UInt8} (h : l.length ≤ 60) : full l = l ++ List.replicate (60 - l.length) 0 := by
  unfold full
  rw [List.take_append, List.take_of_length_le h, List.take_replicate]
  simp
def secB (letter : UInt8) (gen : Nat) (rest : List UInt8) : List UInt8 := sealB (full (letter :: (lbs gen 4 ++ rest)))
theorem secB_len (x : UInt8) (g : Nat) (r : List UInt8) : (secB x g r).length = 64 := by simp [secB, sealB, full_len, lbs_length]
theorem open_sec (x : UInt8) (g : Nat) (r : List UInt8) : openB (secB x g r) = some (full (x :: (lbs g 4 ++ r))) := open_seal _
def cut (l : List UInt8) (at_ n : Nat) : List UInt8 := (l.drop at_).take n
theorem cut_gen {x : UInt8} {g : Nat} {r : List UInt8} (h : r.length ≤ 55) : cut (full (x :: (lbs g 4 ++ r))) 1 4 = lbs g 4 := by
  rw [full_eq (by simp [lbs_length]; omega)]
  simp [cut, lbs_length]
theorem cut_rest {x : UInt8} {g : Nat} {r : List UInt8} (h : r.length ≤ 55) {a n : Nat} (hn : a + n ≤ r.length) : cut (full (x :: (lbs g 4 ++ r))) (5 + a) n = cut r a n := by
  rw [full_eq (by simp [lbs_length]; omega)]
  have e : x :: (lbs g 4 ++ r) ++ List.replicate (60 - (x :: (lbs g 4 ++ r)).length) 0 = (x :: lbs g 4) ++ (r ++ List.replicate (60 - (x :: (lbs g 4 ++ r)).length) 0) := by simp
  rw [e]
  unfold cut
  rw [show 5 + a = (x :: lbs g 4).length + a by simp [lbs_length], List.drop_length_add_append, List.drop_append_of_le_length (by omega), List.take_append_of_le_length (by rw [List.length_drop]; omega)]
/-! ### heads -/
def headSec (g n : Nat) : List UInt8 := secB 66 g (lbs n 1)
def headF (at_ : Nat) (b : List UInt8) : Option (Nat × Nat) :=
  match openB b with
  | none => none
  | some c => if le (cut c 1 4) < 1 ∨ le (cut c 1 4) % 2 ≠ at_ ∨ 2 ≤ le (cut c 5 1) then none else if headSec (le (cut c 1 4)) (le (cut c 5 1)) = b then some (le (cut c 1 4), le (cut c 5 1)) else none
theorem headF_sec {g n : Nat} (hg : 1 ≤ g) (hg2 : g < 4294967296) (hn : n < 2) : headF (g % 2) (headSec g n) = some (g, n) := by
  have e1 : openB (headSec g n) = some (full (66 :: (lbs g 4 ++ lbs n 1))) := open_sec _ _ _
  have e2 : le (cut (full (66 :: (lbs g 4 ++ lbs n 1))) 1 4) = g := by
    rw [cut_gen (by simp [lbs_length]), le_lbs, Nat.mod_eq_of_lt (by simpa using hg2)]
  have e3 : le (cut (full (66 :: (lbs g 4 ++ lbs n 1))) 5 1) = n := by
    have := cut_rest (x := 66) (g := g) (r := lbs n 1) (by simp [lbs_length]) (a := 0) (n := 1) (by simp [lbs_length])
    rw [Nat.add_zero] at this
    rw [this]
    have e : cut (lbs n 1) 0 1 = lbs n 1 := by simp [cut, lbs]
    rw [e, le_lbs, Nat.mod_eq_of_lt (by simp; omega)]
  unfold headF
  rw [e1]
  simp only [e2, e3]
  rw [if_neg (by omega), if_pos trivial]
theorem headF_gen {at_ : Nat} {b : List UInt8} {g n : Nat} (h : headF at_ b = some (g, n)) : 1 ≤ g ∧ g % 2 = at_ ∧ n < 2 ∧ b = headSec g n := by
  unfold headF at h
  cases hb : openB b with
  | none => rw [hb] at h; cases h
  | some c =>
  rw [hb] at h
  simp only at h
  split at h
  · cases h
  · split at h
    · injection h with h
      injection h with h1 h2
      subst h1 h2
      rename_i h1 h2
      exact ⟨by omega, by omega, by omega, h2.symm⟩
    · cases h
/-! ### manifests -/
structure Man where
  part : Int
  ver : Nat
  size : Int
  sum : List UInt8
  deriving DecidableEq
def Man.okB (m : Man) : Bool := decide (0 ≤ m.part ∧ m.part < 8 ∧ 4 ≤ m.size ∧ m.size ≤ 512 ∧ m.size % 4 = 0)
def encM (m : Man) : List UInt8 := if m.okB = true then 77 :: (lbs m.part.toNat 1 ++ lbs m.ver 4 ++ lbs m.size.toNat 2 ++ m.sum) else []
def decM (b : List UInt8) : Option Man :=
  let m : Man := ⟨(le (cut b 1 1) : Nat), le (cut b 2 4), (le (cut b 6 2) : Nat), cut b 8 32⟩
  if b.head? = some 77 ∧ b.length = 40 ∧ m.okB = true then some m else none
def firstSec (g : Nat) (m : Man) : List UInt8 := secB 73 g (encM m)
def manF (g : Nat) (b : List UInt8) : Option Man :=
  match openB b with
  | none => none
  | some c => match decM (cut c 5 40) with
    | none => none
    | some m => if firstSec g m = b then some m else none
theorem dec_enc {m : Man} (h : m.okB = true) (hv : m.ver < 4294967296) (hs : m.sum.length = 32) : (encM m).length = 40 ∧ decM (encM m) = some m := by
  obtain ⟨p, v, s, u⟩ := m
  have hs : u.length = 32 := hs
  have h' : 0 ≤ p ∧ p < 8 ∧ 4 ≤ s ∧ s ≤ 512 ∧ s % 4 = 0 := of_decide_eq_true h
  obtain ⟨p, rfl⟩ := Int.eq_ofNat_of_zero_le h'.1
  obtain ⟨s, rfl⟩ := Int.eq_ofNat_of_zero_le (by omega : 0 ≤ s)
  have hl : (encM ⟨(p : Int), v, (s : Int), u⟩) = 77 :: (lbs p 1 ++ lbs v 4 ++ lbs s 2 ++ u) := by unfold encM; rw [if_pos h]; rfl
  have hlen : (encM ⟨(p : Int), v, (s : Int), u⟩).length = 40 := by rw [hl]; simp [lbs_length]; omega
  refine ⟨hlen, ?_⟩
  have c1 : cut (encM ⟨(p : Int), v, (s : Int), u⟩) 1 1 = lbs p 1 := by rw [hl]; simp [cut, lbs]
  have c2 : cut (encM ⟨(p : Int), v, (s : Int), u⟩) 2 4 = lbs v 4 := by rw [hl]; simp [cut, lbs]
  have c3 : cut (encM ⟨(p : Int), v, (s : Int), u⟩) 6 2 = lbs s 2 := by rw [hl]; simp [cut, lbs]
  have c4 : cut (encM ⟨(p : Int), v, (s : Int), u⟩) 8 32 = u := by rw [hl]; simp [cut, lbs]; exact List.take_of_length_le (by omega)
  have e1 : le (lbs p 1) = p := by rw [le_lbs]; exact Nat.mod_eq_of_lt (by simp; omega)
  have e2 : le (lbs v 4) = v := by rw [le_lbs]; exact Nat.mod_eq_of_lt (by simpa using hv)
  have e3 : le (lbs s 2) = s := by rw [le_lbs]; exact Nat.mod_eq_of_lt (by simp; omega)
  unfold decM
  simp only [c1, c2, c3, c4, e1, e2, e3]
  rw [if_pos ⟨by rw [hl]; rfl, hlen, h⟩]
theorem manF_sec {g : Nat} {m : Man} (h : m.okB = true) (hv : m.ver < 4294967296) (hs : m.sum.length = 32) : manF g (firstSec g m) = some m := by
  obtain ⟨h1, h2⟩ := dec_enc h hv hs
  have e1 : openB (firstSec g m) = some (full (73 :: (lbs g 4 ++ encM m))) := open_sec _ _ _
  have e2 : cut (full (73 :: (lbs g 4 ++ encM m))) 5 40 = encM m := by
    have := cut_rest (x := 73) (g := g) (r := encM m) (by omega) (a := 0) (n := 40) (by omega)
    rw [Nat.add_zero] at this
    rw [this]
    unfold cut
    rw [List.drop_zero, List.take_of_length_le (by omega)]
  unfold manF
  rw [e1]
  simp only [e2, h2]
  rw [if_pos trivial]
/-! ### pieces -/
def dataSec (g k : Nat) (p : List UInt8) : List UInt8 := secB 68 g (lbs k 1 ++ p)
def pieceF (g k n : Nat) (b : List UInt8) : Option (List UInt8) :=
  match openB b with
  | none => none
  | some c => if dataSec g k (cut c 6 n) = b then some (cut c 6 n) else none
theorem pieceF_sec {g k : Nat} {p : List UInt8} (h : p.length ≤ 54) : pieceF g k p.length (dataSec g k p) = some p := by
  have e1 : openB (dataSec g k p) = some (full (68 :: (lbs g 4 ++ (lbs k 1 ++ p)))) := open_sec _ _ _
  have e2 : cut (full (68 :: (lbs g 4 ++ (lbs k 1 ++ p)))) 6 p.length = p := by
    have := cut_rest (x := 68) (g := g) (r := lbs k 1 ++ p) (by simp [lbs_length]; omega) (a := 1) (n := p.length) (by simp [lbs_length])
    rw [this]
    simp [cut, lbs]
  unfold pieceF
  rw [e1]
  simp only [e2]
  rw [if_pos trivial]
def cutsF : Nat → List UInt8 → List (List UInt8)
  | 0, _ => []
  | f + 1, b => if b = [] then [] else b.take 54 :: cutsF f (b.drop 54)
def piecesF (b : List UInt8) : List (List UInt8) := cutsF b.length b
def datasF (g : Nat) : Nat → List (List UInt8) → List (List UInt8)
  | _, [] => []
  | k, p :: l => dataSec g k p :: datasF g (k + 1) l
def bankF (g : Nat) (m : Man) (b : List UInt8) : List (List UInt8) := firstSec g m :: datasF g 0 (piecesF b)
def gatherF (S : Nat → List UInt8) (g at_ size : Nat) : Nat → Nat → List UInt8 → Option (List UInt8)
  | 0, _, w => if size ≤ w.length then some w else none
  | f + 1, k, w => if size ≤ w.length then some w else match pieceF g k (min 54 (size - w.length)) (S (at_ + 1 + k)) with
    | none => none
    | some p => gatherF S g at_ size f (k + 1) (w ++ p)
theorem cuts_fuel : ∀ (f f' : Nat) (b : List UInt8), b.length ≤ f → b.length ≤ f' → cutsF f b = cutsF f' b
  | 0, f', b, h, _ => by
    have : b = [] := List.eq_nil_of_length_eq_zero (by omega)
    subst this
    cases f' <;> rfl
  | f + 1, 0, b, _, h => by
    have : b = [] := List.eq_nil_of_length_eq_zero (by omega)
    subst this
    rfl
  | f + 1, f' + 1, b, h, h' => by
    show (if b = [] then _ else _) = (if b = [] then _ else _)
    split
    · rfl
    · rename_i hb
      have hpos : 0 < b.length := List.length_pos_iff.2 hb
      rw [cuts_fuel f f' (b.drop 54) (by rw [List.length_drop]; omega) (by rw [List.length_drop]; omega)]
theorem gather_cuts {S : Nat → List UInt8} {g at_ : Nat} {b : List UInt8} : ∀ (f k : Nat) (w r : List UInt8), w ++ r = b → r.length ≤ 54 * f → (∀ j p, (cutsF r.length r)[j]? = some p → S (at_ + 1 + (k + j)) = dataSec g (k + j) p) → gatherF S g at_ b.length f k w = some b
  | 0, k, w, r, hb, hf, _ => by
    have hr : r = [] := List.eq_nil_of_length_eq_zero (by omega)
    subst hr
    rw [List.append_nil] at hb
    subst hb
    unfold gatherF
    rw [if_pos (Nat.le_refl _)]
  | f + 1, k, w, r, hb, hf, hS => by
    unfold gatherF
    have hlen : b.length = w.length + r.length := by rw [← hb, List.length_append]
    by_cases hr : r = []
    · subst hr
      rw [List.append_nil] at hb
      subst hb
      rw [if_pos (Nat.le_refl _)]
    · have hpos : 0 < r.length := List.length_pos_iff.2 hr
      rw [if_neg (by omega)]
      have hc : cutsF r.length r = r.take 54 :: cutsF (r.drop 54).length (r.drop 54) := by
        obtain ⟨n, hn⟩ : ∃ n, r.length = n + 1 := ⟨r.length - 1, by omega⟩
        rw [hn]
        show (if r = [] then _ else _) = _
        rw [if_neg hr, cuts_fuel n (r.drop 54).length (r.drop 54) (by rw [List.length_drop]; omega) (Nat.le_refl _)]
      have h0 := hS 0 (r.take 54) (by rw [hc]; rfl)
      rw [show k + 0 = k from rfl] at h0
      have hn : min 54 (b.length - w.length) = (r.take 54).length := by rw [List.length_take]; omega
      rw [h0, hn, pieceF_sec (by rw [List.length_take]; omega)]
      refine gather_cuts f (k + 1) (w ++ r.take 54) (r.drop 54) ?_ (by rw [List.length_drop]; omega) fun j p hp => ?_
      · rw [List.append_assoc, List.take_append_drop]; exact hb
      · have := hS (j + 1) p (by rw [hc]; exact hp)
        rw [show k + 1 + j = k + (j + 1) by omega]
        exact this
theorem gather_same {S S' : Nat → List UInt8} {g at_ size : Nat} : ∀ (f k : Nat) (w : List UInt8), (∀ j, k ≤ j → j < k + f → S' (at_ + 1 + j) = S (at_ + 1 + j)) → gatherF S' g at_ size f k w = gatherF S g at_ size f k w
  | 0, _, _, _ => rfl
  | f + 1, k, w, h => by
    unfold gatherF
    rw [h k (Nat.le_refl _) (by omega)]
    split
    · rfl
    · split
      · rfl
      · exact gather_same f (k + 1) _ fun j h1 h2 => h j (by omega) (by omega)
/-! ### a partition's region -/
structure Reg where
  gen : Nat
  bank : Nat
  img : Option (List UInt8 × Nat)
section
/- sha: the digest; okP: is it a program's image? -/
variable (sha : List UInt8 → List UInt8) (okP : List UInt8 → Bool)
def imgOk (m : Man) (b : List UInt8) : Bool := m.okB && decide ((b.length : Int) = m.size) && decide (sha b = m.sum) && okP b
def pickH (a : Nat × Nat) : Option (Nat × Nat) → Nat × Nat
  | none => a
  | some x => if a.1 < x.1 then x else a
theorem pick_some (a x : Nat × Nat) : pickH a (some x) = if a.1 < x.1 then x else a := rfl
def headsF (S : Nat → List UInt8) : Nat × Nat := pickH (pickH (0, 1) (headF 0 (S 0))) (headF 1 (S 1))
def bankAtF (n : Nat) : Nat := 2 + n * 11
def loadF (S : Nat → List UInt8) : Reg :=
  if (headsF S).1 = 0 then ⟨0, (headsF S).2, none⟩
  else match manF (headsF S).1 (S (bankAtF (headsF S).2)) with
    | none => ⟨(headsF S).1, (headsF S).2, none⟩
    | some m => if m.part ≠ 0 then ⟨(headsF S).1, (headsF S).2, none⟩ else
      match gatherF S (headsF S).1 (bankAtF (headsF S).2) m.size.toNat 10 0 [] with
      | none => ⟨(headsF S).1, (headsF S).2, none⟩
      | some w => if imgOk sha okP m w = true then ⟨(headsF S).1, (headsF S).2, some (w, m.ver)⟩ else ⟨(headsF S).1, (headsF S).2, none⟩
theorem load_gen (S : Nat → List UInt8) : (loadF sha okP S).gen = (headsF S).1 ∧ (loadF sha okP S).bank = (headsF S).2 := by
  unfold loadF
  by_cases h : (headsF S).1 = 0
  · rw [if_pos h]; exact ⟨h.symm, rfl⟩
  · rw [if_neg h]
    split
    · exact ⟨rfl, rfl⟩
    · split
      · exact ⟨rfl, rfl⟩
      · split
        · exact ⟨rfl, rfl⟩
        · split <;> exact ⟨rfl, rfl⟩
theorem heads_same {S S' : Nat → List UInt8} (h0 : S' 0 = S 0) (h1 : S' 1 = S 1) : headsF S' = headsF S := by unfold headsF; rw [h0, h1]
theorem pick_bank {a : Nat × Nat} {o : Option (Nat × Nat)} (ha : a.2 < 2) (ho : ∀ x, o = some x → x.2 < 2) : (pickH a o).2 < 2 := by
  cases o with
  | none => exact ha
  | some x => rw [pick_some]; split; exact ho x rfl; exact ha
theorem heads_bank (S : Nat → List UInt8) : (headsF S).2 < 2 :=
  pick_bank (pick_bank (by decide) fun x h => (headF_gen (g := x.1) (n := x.2) h).2.2.1) fun x h => (headF_gen (g := x.1) (n := x.2) h).2.2.1
theorem load_same {S S' : Nat → List UInt8} (h0 : S' 0 = S 0) (h1 : S' 1 = S 1) (hb : ∀ k, k < 11 → S' (bankAtF (headsF S).2 + k) = S (bankAtF (headsF S).2 + k)) : loadF sha okP S' = loadF sha okP S := by
  have hh := heads_same h0 h1
  unfold loadF
  rw [hh]
  have hb0 := hb 0 (by decide)
  rw [Nat.add_zero] at hb0
  rw [hb0]
  have hg : ∀ size, gatherF S' (headsF S).1 (bankAtF (headsF S).2) size 10 0 [] = gatherF S (headsF S).1 (bankAtF (headsF S).2) size 10 0 [] := fun size =>
    gather_same 10 0 [] fun j _ h2 => by
      have := hb (j + 1) (by omega)
      rw [show bankAtF (headsF S).2 + 1 + j = bankAtF (headsF S).2 + (j + 1) by omega]
      exact this
  simp only [hg]
theorem heads_max (S : Nat → List UInt8) (at_ : Nat) (hat : at_ = 0 ∨ at_ = 1) {x : Nat × Nat} (h : headF at_ (S at_) = some x) : x.1 ≤ (headsF S).1 := by
  unfold headsF
  have mono : ∀ (a : Nat × Nat) (o : Option (Nat × Nat)), a.1 ≤ (pickH a o).1 := fun a o => by
    cases o with
    | none => exact Nat.le_refl _
    | some y => rw [pick_some]; split; omega; exact Nat.le_refl _
  have hit : ∀ (a : Nat × Nat) (y : Nat × Nat), y.1 ≤ (pickH a (some y)).1 := fun a y => by rw [pick_some]; split; exact Nat.le_refl _; omega
  rcases hat with rfl | rfl
  · rw [h]
    exact Nat.le_trans (hit _ _) (mono _ _)
  · rw [h]
    exact hit _ _
theorem heads_new {S S' : Nat → List UInt8} {g n : Nat} (hg : (headsF S).1 = g) (hg2 : g + 1 < 4294967296) (hn : n < 2) (h1 : S' ((g + 1) % 2) = headSec (g + 1) n) (h2 : S' (g % 2) = S (g % 2)) : headsF S' = (g + 1, n) := by
  have e1 := headF_sec (g := g + 1) (n := n) (by omega) hg2 hn
  rw [← h1] at e1
  have e2 : ∀ x, headF (g % 2) (S' (g % 2)) = some x → x.1 ≤ g := fun x hx => by
    rw [h2] at hx
    have := heads_max S (g % 2) (by omega) hx
    omega
  unfold headsF
  rcases (by omega : g % 2 = 0 ∧ (g + 1) % 2 = 1 ∨ g % 2 = 1 ∧ (g + 1) % 2 = 0) with ⟨ha, hb⟩ | ⟨ha, hb⟩
  · rw [hb] at e1
    rw [ha] at e2
    rw [e1]
    have hlt : (pickH (0, 1) (headF 0 (S' 0))).1 < g + 1 := by
      cases ho : headF 0 (S' 0) with
      | none => show 0 < g + 1; omega
      | some x =>
      have := e2 x ho
      rw [pick_some]
      split
      · omega
      · show 0 < g + 1; omega
    rw [pick_some, if_pos hlt]
  · rw [hb] at e1
    rw [ha] at e2
    rw [e1]
    have h0 : pickH (0, 1) (some (g + 1, n)) = (g + 1, n) := by rw [pick_some, if_pos (by show 0 < g + 1; omega)]
    rw [h0]
    cases ho : headF 1 (S' 1) with
    | none => rfl
    | some x =>
    have := e2 x ho
    rw [pick_some, if_neg (by show ¬ g + 1 < x.1; omega)]
theorem datas_get : ∀ (l : List (List UInt8)) (g k j : Nat) (p : List UInt8), l[j]? = some p → (datasF g k l)[j]? = some (dataSec g (k + j) p)
  | [], _, _, _, _, h => by simp at h
  | q :: l, g, k, 0, p, h => by
    simp at h
    subst h
    rfl
  | q :: l, g, k, j + 1, p, h => by
    have := datas_get l g (k + 1) j p (by simpa using h)
    rw [show k + (j + 1) = k + 1 + j by omega]
    simpa [datasF] using this
theorem load_new {S' : Nat → List UInt8} {g n : Nat} {m : Man} {b : List UInt8} (hh : headsF S' = (g + 1, n)) (hm : imgOk sha okP m b = true) (hp : m.part = 0) (hv : m.ver < 4294967296) (hs : m.sum.length = 32)
    (hb : ∀ k x, (bankF (g + 1) m b)[k]? = some x → S' (bankAtF n + k) = x) : loadF sha okP S' = ⟨g + 1, n, some (b, m.ver)⟩ := by
  have hok : m.okB = true ∧ (b.length : Int) = m.size := by
    unfold imgOk at hm
    simp only [Bool.and_eq_true, decide_eq_true_eq] at hm
    exact ⟨hm.1.1.1, hm.1.1.2⟩
  have h1 : manF (g + 1) (S' (bankAtF n)) = some m := by
    have := hb 0 (firstSec (g + 1) m) rfl
    rw [Nat.add_zero] at this
    rw [this]
    exact manF_sec hok.1 hv hs
  have hsz : m.size.toNat = b.length := by omega
  have h512 : b.length ≤ 512 := by
    have := of_decide_eq_true hok.1
    omega
  have h2 : gatherF S' (g + 1) (bankAtF n) m.size.toNat 10 0 [] = some b := by
    rw [hsz]
    refine gather_cuts 10 0 [] b rfl (by omega) fun j p hj => ?_
    have := hb (j + 1) (dataSec (g + 1) (0 + j) p) (by
      show (firstSec (g + 1) m :: datasF (g + 1) 0 (piecesF b))[j + 1]? = _
      rw [List.getElem?_cons_succ]
      exact datas_get _ _ _ _ _ hj)
    rw [show bankAtF n + 1 + (0 + j) = bankAtF n + (j + 1) by omega]
    exact this
  unfold loadF
  rw [hh]
  simp only
  rw [if_neg (by omega), h1]
  simp only
  rw [if_neg (by omega), h2]
  simp only
  rw [if_pos hm]
theorem cuts_len : ∀ (f : Nat) (b : List UInt8), b.length ≤ f → (cutsF f b).length * 54 < b.length + 54
  | 0, b, h => by
    have : b = [] := List.eq_nil_of_length_eq_zero (by omega)
    subst this
    show 0 * 54 < 0 + 54
    omega
  | f + 1, b, h => by
    show (if b = [] then ([] : List (List UInt8)) else b.take 54 :: cutsF f (b.drop 54)).length * 54 < _
    split
    · show 0 * 54 < _; omega
    · rename_i hb
      have hpos : 0 < b.length := List.length_pos_iff.2 hb
      have := cuts_len f (b.drop 54) (by rw [List.length_drop]; omega)
      rw [List.length_drop] at this
      rw [List.length_cons]
      omega
theorem datas_len : ∀ (l : List (List UInt8)) (g k : Nat), (datasF g k l).length = l.length
  | [], _, _ => rfl
  | _ :: l, g, k => by
    show (datasF g (k + 1) l).length + 1 = l.length + 1
    rw [datas_len]
theorem bank_len {g : Nat} {m : Man} {b : List UInt8} (h : b.length ≤ 512) : (bankF g m b).length ≤ 11 := by
  have := cuts_len b.length b (Nat.le_refl _)
  unfold bankF piecesF
  rw [List.length_cons, datas_len]
  omega
end
/- The disk whose power fails; the loader over it: what stands there behind an install, whenever the power fails. No program in sight. -/
/-! ### the disk -/
structure Dk where
  secs : List (List UInt8)
  pend : List (Nat × List UInt8)
  off : Bool
  armed : Bool
  left : Nat
  surv : List Bool
def applyP (s : List (List UInt8)) (p : List (Nat × List UInt8)) : List (List UInt8) := p.foldl (fun s w => s.set w.1 w.2) s
def keepP : List (Nat × List UInt8) → List Bool → List (Nat × List UInt8)
  | [], _ => []
  | w :: l, k => (if k.headD false = true then [w] else []) ++ keepP l k.tail
def Dk.crash (d : Dk) : Dk := ⟨applyP d.secs (keepP d.pend d.surv), [], true, false, 0, []⟩
def Dk.powered (d : Dk) : Bool × Dk := if d.off = true then (false, d) else if d.armed = false then (true, d) else if d.left = 0 then (false, d.crash) else (true, { d with left := d.left - 1 })
def Dk.write (d : Dk) (p : Nat) (b : List UInt8) : Dk × Nat := if d.powered.1 = true then ({ d.powered.2 with pend := d.powered.2.pend ++ [(p, b)] }, 0) else (d.powered.2, 9)
def Dk.flush (d : Dk) : Dk × Nat := if d.powered.1 = true then ({ d.powered.2 with secs := applyP d.powered.2.secs d.powered.2.pend, pend := [] }, 0) else (d.powered.2, 9)
def Dk.writes : Dk → List (Nat × List UInt8) → Dk × Nat
  | d, [] => (d, 0)
  | d, w :: l => if (d.write w.1 w.2).2 = 0 then (d.write w.1 w.2).1.writes l else d.write w.1 w.2
def Dk.power (d : Dk) : Dk := { d with pend := [], off := false, armed := false, left := 0, surv := [] }
theorem keep_sub : ∀ (l : List (Nat × List UInt8)) (k : List Bool), ∀ w ∈ keepP l k, w ∈ l
  | [], _, _, h => by simp [keepP] at h
  | x :: l, k, w, h => by
    unfold keepP at h
    rcases List.mem_append.1 h with h | h
    · split at h
      · rw [List.mem_singleton] at h; subst h; exact List.mem_cons_self
      · cases h
    · exact List.mem_cons_of_mem _ (keep_sub l k.tail w h)
theorem apply_len : ∀ (p : List (Nat × List UInt8)) (s : List (List UInt8)), (applyP s p).length = s.length
  | [], _ => rfl
  | w :: p, s => by
    show (applyP (s.set w.1 w.2) p).length = _
    rw [apply_len, List.length_set]
theorem apply_out : ∀ (p : List (Nat × List UInt8)) (s : List (List UInt8)) (q : Nat), (∀ w ∈ p, w.1 ≠ q) → (applyP s p).getD q [] = s.getD q []
  | [], _, _, _ => rfl
  | w :: p, s, q, h => by
    show (applyP (s.set w.1 w.2) p).getD q [] = _
    rw [apply_out p _ q fun x hx => h x (List.mem_cons_of_mem _ hx)]
    rw [List.getD_eq_getElem?_getD, List.getD_eq_getElem?_getD, List.getElem?_set_ne (h w List.mem_cons_self)]
def wsFrom : Nat → List (List UInt8) → List (Nat × List UInt8)
  | _, [] => []
  | p, x :: l => (p, x) :: wsFrom (p + 1) l
theorem ws_place : ∀ (l : List (List UInt8)) (p : Nat), ∀ w ∈ wsFrom p l, p ≤ w.1 ∧ w.1 < p + l.length
  | [], _, _, h => by simp [wsFrom] at h
  | x :: l, p, w, h => by
    rcases List.mem_cons.1 h with rfl | h
    · exact ⟨Nat.le_refl _, by simp⟩
    · have := ws_place l (p + 1) w h
      rw [List.length_cons]
      omega
theorem apply_ws : ∀ (l : List (List UInt8)) (p : Nat) (s : List (List UInt8)), p + l.length ≤ s.length → ∀ k x, l[k]? = some x → (applyP s (wsFrom p l)).getD (p + k) [] = x
  | [], _, _, _, _, _, h => by simp at h
  | y :: l, p, s, hs, k, x, h => by
    show (applyP (s.set p y) (wsFrom (p + 1) l)).getD (p + k) [] = x
    rw [List.length_cons] at hs
    cases k with
    | zero =>
      simp at h
      subst h
      rw [show p + 0 = p from rfl, apply_out _ _ _ fun w hw => by have := ws_place l (p + 1) w hw; omega]
      rw [List.getD_eq_getElem?_getD, List.getElem?_set_self (by omega)]
      rfl
    | succ k =>
    have := apply_ws l (p + 1) (s.set p y) (by rw [List.length_set]; omega) k x (by simpa using h)
    rw [show p + (k + 1) = p + 1 + k by omega]
    exact this
def Fell (s : List (List UInt8)) (ws : List (Nat × List UInt8)) (d : Dk) : Prop := ∃ sub, (∀ w ∈ sub, w ∈ ws) ∧ d = ⟨applyP s sub, [], true, false, 0, []⟩
theorem powered_cases (d : Dk) (h : d.off = false) : (d.powered.1 = true ∧ d.powered.2.secs = d.secs ∧ d.powered.2.pend = d.pend ∧ d.powered.2.off = false) ∨ (d.powered.1 = false ∧ d.powered.2 = d.crash) := by
  unfold Dk.powered
  rw [if_neg (by rw [h]; decide)]
  split
  · exact .inl ⟨rfl, rfl, rfl, h⟩
  · split
    · exact .inr ⟨rfl, rfl⟩
    · exact .inl ⟨rfl, rfl, rfl, h⟩
theorem writes_cases : ∀ (ws : List (Nat × List UInt8)) (d : Dk), d.off = false → ((d.writes ws).2 = 0 ∧ (d.writes ws).1.secs = d.secs ∧ (d.writes ws).1.pend = d.pend ++ ws ∧ (d.writes ws).1.off = false) ∨ ((d.writes ws).2 = 9 ∧ Fell d.secs (d.pend ++ ws) (d.writes ws).1)
  | [], d, h => .inl ⟨rfl, rfl, by simp [Dk.writes], h⟩
  | w :: ws, d, h => by
    rcases powered_cases d h with ⟨h1, h2, h3, h4⟩ | ⟨h1, h2⟩
    · have hw : d.write w.1 w.2 = ({ d.powered.2 with pend := d.powered.2.pend ++ [(w.1, w.2)] }, 0) := by unfold Dk.write; rw [if_pos h1]
      have hws : d.writes (w :: ws) = ({ d.powered.2 with pend := d.powered.2.pend ++ [(w.1, w.2)] } : Dk).writes ws := by
        show (if (d.write w.1 w.2).2 = 0 then (d.write w.1 w.2).1.writes ws else d.write w.1 w.2) = _
        rw [hw, if_pos rfl]
      rw [hws]
      have := writes_cases ws { d.powered.2 with pend := d.powered.2.pend ++ [(w.1, w.2)] } h4
      rw [show ({ d.powered.2 with pend := d.powered.2.pend ++ [(w.1, w.2)] } : Dk).secs = d.secs from h2, show ({ d.powered.2 with pend := d.powered.2.pend ++ [(w.1, w.2)] } : Dk).pend = d.pend ++ [(w.1, w.2)] by rw [← h3]] at this
      rcases this with ⟨a, b, c, e⟩ | ⟨a, b⟩
      · exact .inl ⟨a, b, by rw [c]; simp, e⟩
      · refine .inr ⟨a, ?_⟩
        have e : d.pend ++ w :: ws = d.pend ++ [(w.1, w.2)] ++ ws := by simp
        rw [e]
        exact b
    · have hw : d.write w.1 w.2 = (d.crash, 9) := by unfold Dk.write; rw [if_neg (by rw [h1]; decide), h2]
      have hws : d.writes (w :: ws) = (d.crash, 9) := by
        show (if (d.write w.1 w.2).2 = 0 then (d.write w.1 w.2).1.writes ws else d.write w.1 w.2) = _
        rw [hw, if_neg (show ¬ (9 : Nat) = 0 by decide)]
      rw [hws]
      exact .inr ⟨rfl, keepP d.pend d.surv, fun x hx => List.mem_append_left _ (keep_sub _ _ x hx), rfl⟩
theorem flush_cases (d : Dk) (h : d.off = false) : (d.flush.2 = 0 ∧ d.flush.1.secs = applyP d.secs d.pend ∧ d.flush.1.pend = [] ∧ d.flush.1.off = false) ∨ (d.flush.2 = 9 ∧ Fell d.secs d.pend d.flush.1) := by
  rcases powered_cases d h with ⟨h1, h2, h3, h4⟩ | ⟨h1, h2⟩
  · have e : d.flush = ({ d.powered.2 with secs := applyP d.powered.2.secs d.powered.2.pend, pend := [] }, 0) := by unfold Dk.flush; rw [if_pos h1]
    rw [e]
    exact .inl ⟨rfl, by rw [h2, h3], rfl, h4⟩
  · have e : d.flush = (d.crash, 9) := by unfold Dk.flush; rw [if_neg (by rw [h1]; decide), h2]
    rw [e]
    exact .inr ⟨rfl, keepP d.pend d.surv, keep_sub _ _, rfl⟩
def Dk.put (d : Dk) (ws : List (Nat × List UInt8)) : Dk × Nat := if (d.writes ws).2 = 0 then (d.writes ws).1.flush else d.writes ws
theorem put_cases (ws : List (Nat × List UInt8)) (d : Dk) (h : d.off = false) (hp : d.pend = []) : ((d.put ws).2 = 0 ∧ (d.put ws).1.secs = applyP d.secs ws ∧ (d.put ws).1.pend = [] ∧ (d.put ws).1.off = false) ∨ ((d.put ws).2 = 9 ∧ Fell d.secs ws (d.put ws).1) := by
  unfold Dk.put
  rcases writes_cases ws d h with ⟨h1, h2, h3, h4⟩ | ⟨h1, h2⟩
  · rw [if_pos h1]
    rw [hp, List.nil_append] at h3
    rcases flush_cases _ h4 with ⟨a, b, c, e⟩ | ⟨a, b⟩
    · exact .inl ⟨a, by rw [b, h2, h3], c, e⟩
    · exact .inr ⟨a, by rw [h2, h3] at b; exact b⟩
  · rw [if_neg (by omega)]
    rw [hp, List.nil_append] at h2
    exact .inr ⟨h1, h2⟩
/-! ### the log -/
structure Ent where
  kind : Nat
  part : Nat
  ver : Nat
  code : Nat
def Ent.okB (x : Ent) : Bool := decide (1 ≤ x.kind ∧ x.kind ≤ 4 ∧ x.part < 8 ∧ x.code ≤ 255)
def entSec (n : Nat) (x : Ent) : List UInt8 := sealB (full (65 :: (lbs n 4 ++ lbs x.kind 1 ++ lbs x.part 1 ++ lbs x.ver 4 ++ lbs x.code 1)))
def entF (n : Nat) (b : List UInt8) : Option Ent :=
  match openB b with
  | none => none
  | some c =>
  let x : Ent := ⟨le (cut c 5 1), le (cut c 6 1), le (cut c 7 4), le (cut c 11 1)⟩
  if x.okB = true ∧ entSec n x = b then some x else none
def logF (L : Nat → List UInt8) : Nat → Nat → List Ent
  | 0, _ => []
  | f + 1, n => match entF n (L n) with
    | none => []
    | some x => x :: logF L f (n + 1)
def zeroS : List UInt8 := List.replicate 64 0
theorem ent_zero (n : Nat) : entF n zeroS = none := by
  unfold entF
  split
  · rfl
  · rename_i c _
    rw [if_neg]
    rintro ⟨_, h⟩
    have h2 := congrArg List.head? h
    have e : (full (65 :: (lbs n 4 ++ lbs (le (cut c 5 1)) 1 ++ lbs (le (cut c 6 1)) 1 ++ lbs (le (cut c 7 4)) 4 ++ lbs (le (cut c 11 1)) 1))) = 65 :: ((lbs n 4 ++ lbs (le (cut c 5 1)) 1 ++ lbs (le (cut c 6 1)) 1 ++ lbs (le (cut c 7 4)) 4 ++ lbs (le (cut c 11 1)) 1) ++ List.replicate 48 0) := by
      rw [full_eq (by simp [lbs_length])]
      simp [lbs_length]
    unfold entSec sealB at h2
    simp only [e] at h2
    simp [zeroS] at h2
theorem log_len {L : Nat → List UInt8} : ∀ (f n c : Nat), n ≤ c → (∀ k, c ≤ k → L k = zeroS) → (logF L f n).length ≤ c - n
  | 0, _, _, _, _ => Nat.zero_le _
  | f + 1, n, c, hn, h => by
    unfold logF
    cases he : entF n (L n) with
    | none => exact Nat.zero_le _
    | some x =>
    have hlt : n < c := by
      rcases Nat.lt_or_ge n c with h1 | h1
      · exact h1
      · rw [h n h1, ent_zero] at he; cases he
    have := log_len f (n + 1) c hlt h
    show (logF L f (n + 1)).length + 1 ≤ _
    omega
/-! ### an install -/
section
variable (sha : List UInt8 → List UInt8) (okP : List UInt8 → Bool)
def instF (r : Reg) (d : Dk) (m : Man) (b : List UInt8) : Reg × Dk × Nat :=
  let d1 := d.put (wsFrom (bankAtF (1 - r.bank)) (bankF (r.gen + 1) m b))
  if d1.2 ≠ 0 then (r, d1.1, d1.2) else
  let d2 := d1.1.put [((r.gen + 1) % 2, headSec (r.gen + 1) (1 - r.bank))]
  if d2.2 ≠ 0 then (r, d2.1, d2.2) else (⟨r.gen + 1, 1 - r.bank, some (b, m.ver)⟩, d2.1, 0)
def addF (es : List Ent) (d : Dk) (x : Ent) : List Ent × Dk × Nat :=
  if x.okB = false then (es, d, 1) else if 16 ≤ es.length then (es, d, 5) else
  let d1 := d.put [(24 + es.length, entSec es.length x)]
  if d1.2 ≠ 0 then (es, d1.1, d1.2) else (es ++ [x], d1.1, 0)
structure Ld where
  reg : Reg
  ents : List Ent
def installF (l : Ld) (d : Dk) (m : Man) (b : List UInt8) (code : Nat) : Ld × Dk × Nat :=
  if 16 ≤ l.ents.length ∨ l.reg.gen = 4294967295 then (l, d, 5) else
  if imgOk sha okP m b = true then
    let a := instF l.reg d m b
    if a.2.2 ≠ 0 then (l, a.2.1, a.2.2) else
    let e := addF l.ents a.2.1 ⟨1, m.part.toNat, m.ver, 0⟩
    if e.2.2 ≠ 0 then (⟨a.1, l.ents⟩, e.2.1, e.2.2) else (⟨a.1, e.1⟩, e.2.1, 0)
  else
    let e := addF l.ents d ⟨2, m.part.toNat, m.ver, code⟩
    if e.2.2 ≠ 0 then (l, e.2.1, e.2.2) else (⟨l.reg, e.1⟩, e.2.1, code)
def secAt (s : List (List UInt8)) (p : Nat) : List UInt8 := s.getD p []
def logAt (s : List (List UInt8)) : List Ent := logF (fun n => s.getD (24 + n) []) 16 0
def openF (s : List (List UInt8)) : Ld := ⟨loadF sha okP (secAt s), logAt s⟩
structure Inv (s : List (List UInt8)) (i : Nat) : Prop where
  len : s.length = 40
  gen : (headsF (secAt s)).1 ≤ i
  ver : ∀ b v, (loadF sha okP (secAt s)).img = some (b, v) → v ≤ i
  log : ∃ c, c ≤ i ∧ ∀ k, c ≤ k → k < 16 → s.getD (24 + k) [] = zeroS
theorem log_len16 {L : Nat → List UInt8} : ∀ (f n c : Nat), n ≤ c → n + f ≤ 16 → (∀ k, c ≤ k → k < 16 → L k = zeroS) → (logF L f n).length ≤ c - n
  | 0, _, _, _, _, _ => Nat.zero_le _
  | f + 1, n, c, hn, hf, h => by
    unfold logF
    cases he : entF n (L n) with
    | none => exact Nat.zero_le _
    | some x =>
    have hlt : n < c := by
      rcases Nat.lt_or_ge n c with h1 | h1
      · exact h1
      · rw [h n h1 (by omega), ent_zero] at he; cases he
    have := log_len16 f (n + 1) c hlt (by omega) h
    show (logF L f (n + 1)).length + 1 ≤ _
    omega
theorem Inv.ents {s : List (List UInt8)} {i : Nat} (h : Inv sha okP s i) : (logAt s).length ≤ i := by
  obtain ⟨c, hc, hz⟩ := h.log
  have := log_len16 (L := fun n => s.getD (24 + n) []) 16 0 c (Nat.zero_le _) (Nat.le_refl _) hz
  unfold logAt
  omega
end
end Nac.Img
